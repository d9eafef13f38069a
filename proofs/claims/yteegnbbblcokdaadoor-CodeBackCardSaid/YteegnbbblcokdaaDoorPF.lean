/-
  THE FUNCTIONS of this seat in their plain form, and that each is the loaded one's.
-/
import Derived.Test.YteegnbbblcokdaaDoorProg
import Derived.Test.YteegnbbblcokdaaDoorPA2
import Derived.Laws.Externs
namespace Go.Proofs
namespace YteegnbbblcokdaaDoor
open Go.Abs

def ext : FuncId → Option Ext1 := fun g => if g = 50 then some .frombits else none
/-! 2: gosem.cut.init -/
def b2 : AC :=
  (.reg [⟨(some 0), (.call (.f 1) []), none⟩])
def a2 : AF := ⟨1, [], .code b2, none⟩
theorem ok2 : AFOk Tryd.prog ext 2 a2 := .of Tryd.func2 (by kernel_rfl) (by kernel_rfl) (by kernel_rfl) (by kernel_rfl)
/-! 3: rowlock/rowlocklaw14.CodeTexts -/
def b3 : AC :=
  (.seq (.reg [⟨(some 2), (.op (.box 26 (.t 0))), none⟩, ⟨(some 4), (.op (.mv (.k (.bool false)))), none⟩])
  (.seq (.reg [⟨(some 14), (.op (.loadN 3 (.t 2))), none⟩, ⟨(some 15), (.call (.f 5) [(.t 14)]), none⟩, ⟨(some 13), (.op (.mv (.t 15))), none⟩, ⟨(some 16), (.op (.extract (.t 13) 0)), none⟩, ⟨(some 17), (.op (.extract (.t 13) 1)), none⟩, ⟨(some 5), (.op (.mv (.t 16))), none⟩, ⟨(some 6), (.op (.mv (.t 17))), none⟩])
  (.seq (.reg [⟨(some 19), (.op (.loadN 3 (.t 2))), none⟩, ⟨(some 20), (.call (.f 6) [(.t 19)]), none⟩, ⟨(some 18), (.op (.mv (.t 20))), none⟩, ⟨(some 21), (.op (.extract (.t 18) 0)), none⟩, ⟨(some 22), (.op (.extract (.t 18) 1)), none⟩, ⟨(some 7), (.op (.mv (.t 21))), none⟩, ⟨(some 8), (.op (.mv (.t 22))), none⟩])
  (.seq (.reg [⟨(some 24), (.op (.mv (.t 1))), none⟩, ⟨(some 25), (.call (.f 8) [(.t 24)]), none⟩, ⟨(some 26), (.call (.f 7) [(.t 25)]), none⟩, ⟨(some 23), (.op (.mv (.t 26))), none⟩, ⟨(some 27), (.op (.extract (.t 23) 0)), none⟩, ⟨(some 28), (.op (.extract (.t 23) 1)), none⟩, ⟨(some 9), (.op (.alloc 26 [(.int .u8 0), (.int .i64 0), (.int .u64 0)])), none⟩, ⟨none, (.op (.store 3 (.t 9) (.t 27))), none⟩, ⟨(some 10), (.op (.mv (.t 28))), none⟩])
  (.seq (.reg [⟨(some 30), (.op (.mv (.t 1))), none⟩, ⟨(some 31), (.call (.f 8) [(.t 30)]), none⟩, ⟨(some 32), (.call (.f 9) [(.t 31)]), none⟩, ⟨(some 29), (.op (.mv (.t 32))), none⟩, ⟨(some 33), (.op (.extract (.t 29) 0)), none⟩, ⟨(some 34), (.op (.extract (.t 29) 1)), none⟩, ⟨(some 11), (.op (.alloc 26 [(.int .u8 0), (.int .i64 0), (.int .u64 0)])), none⟩, ⟨none, (.op (.store 3 (.t 11) (.t 33))), none⟩, ⟨(some 12), (.op (.mv (.t 34))), none⟩])
  (.seq (.reg [⟨(some 35), (.call (.f 10) []), none⟩, ⟨(some 36), (.op (.mv (.t 35))), none⟩, ⟨(some 37), (.op (.mv (.t 5))), (some (36, true))⟩, ⟨(some 38), (.op (.mv (.t 7))), (some (36, true))⟩, ⟨(some 39), (.op (.bin .eql (.t 37) (.t 38))), (some (36, true))⟩, ⟨(some 40), (.op (.pick (.t 36) (.t 39) (.k (.bool false)))), none⟩, ⟨(some 41), (.op (.mv (.t 40))), none⟩, ⟨(some 42), (.op (.mv (.t 6))), (some (41, true))⟩, ⟨(some 43), (.op (.mv (.t 8))), (some (41, true))⟩, ⟨(some 44), (.op (.bin .eql (.t 42) (.t 43))), (some (41, true))⟩, ⟨(some 45), (.op (.pick (.t 41) (.t 44) (.k (.bool false)))), none⟩, ⟨(some 46), (.op (.mv (.t 45))), none⟩, ⟨(some 47), (.op (.loadN 3 (.t 9))), (some (46, true))⟩, ⟨(some 48), (.op (.loadN 3 (.t 11))), (some (46, true))⟩, ⟨(some 49), (.op (.eq false (.st [(0, 1, false, .int), (1, 1, false, .int), (2, 1, false, .int)]) (.t 47) (.t 48))), (some (46, true))⟩, ⟨(some 50), (.op (.pick (.t 46) (.t 49) (.k (.bool false)))), none⟩, ⟨(some 51), (.op (.mv (.t 50))), none⟩, ⟨(some 52), (.op (.mv (.t 10))), (some (51, true))⟩, ⟨(some 53), (.op (.mv (.t 12))), (some (51, true))⟩, ⟨(some 54), (.op (.bin .eql (.t 52) (.t 53))), (some (51, true))⟩, ⟨(some 55), (.op (.pick (.t 51) (.t 54) (.k (.bool false)))), none⟩, ⟨(some 4), (.op (.mv (.t 55))), none⟩])
  .ret))))))
def a3 : AF := ⟨56, [(.t 4)], .code b3, none⟩
theorem ok3 : AFOk Tryd.prog ext 3 a3 := .of Tryd.func3 (by kernel_rfl) (by kernel_rfl) (by kernel_rfl) (by kernel_rfl)
/-! 4: rowlock/rowlocklaw14.CodeBack -/
def b4 : AC :=
  (.seq (.reg [⟨(some 4), (.op (.mv (.k (.bool false)))), none⟩])
  (.seq (.reg [⟨(some 18), (.op (.mv (.t 0))), none⟩, ⟨(some 19), (.call (.f 11) [(.t 18)]), none⟩, ⟨(some 0), (.op (.mv (.t 19))), none⟩])
  (.seq (.seq (.reg [⟨(some 21), (.op (.mv (.t 0))), none⟩, ⟨(some 22), (.call (.f 12) [(.t 21)]), none⟩, ⟨(some 20), (.op (.mv (.t 22))), none⟩, ⟨(some 23), (.op (.extract (.t 20) 0)), none⟩, ⟨(some 24), (.op (.extract (.t 20) 1)), none⟩, ⟨(some 5), (.op (.mv (.t 23))), none⟩, ⟨(some 6), (.op (.mv (.t 24))), none⟩])
  (.seq (.reg [⟨(some 25), (.op (.mv (.t 6))), none⟩, ⟨(some 26), (.op (.bin .eql (.t 25) (.k (.int .i64 0)))), none⟩])
  (.cond (.t 26) (.seq (.reg [⟨(some 28), (.op (.mv (.t 5))), none⟩, ⟨(some 29), (.call (.f 13) [(.t 28)]), none⟩, ⟨(some 27), (.op (.mv (.t 29))), none⟩, ⟨(some 30), (.op (.extract (.t 27) 0)), none⟩, ⟨(some 31), (.op (.extract (.t 27) 1)), none⟩, ⟨(some 7), (.op (.mv (.t 30))), none⟩, ⟨(some 8), (.op (.mv (.t 31))), none⟩])
  (.seq (.seq (.reg [⟨(some 32), (.op (.mv (.t 8))), none⟩, ⟨(some 33), (.op (.bin .neq (.t 32) (.k (.int .i64 0)))), none⟩, ⟨(some 34), (.op (.mv (.t 33))), none⟩, ⟨(some 35), (.op (.mv (.t 7))), (some (34, false))⟩, ⟨(some 36), (.op (.mv (.t 0))), (some (34, false))⟩, ⟨(some 37), (.call (.f 14) [(.t 35), (.t 36)]), (some (34, false))⟩, ⟨(some 38), (.op (.un .not (.t 37))), (some (34, false))⟩, ⟨(some 39), (.op (.pick (.t 34) (.k (.bool true)) (.t 38))), none⟩])
  (.cond (.t 39) (.seq (.reg [⟨(some 4), (.op (.mv (.k (.bool false)))), none⟩])
  .ret)
  .skip))
  (.seq (.reg [⟨(some 9), (.op (.mv (.k (.int .i64 0)))), none⟩])
  (.block 0 (.loop (.seq (.seq (.reg [⟨(some 40), (.op (.mv (.t 9))), none⟩, ⟨(some 41), (.op (.mv (.t 0))), none⟩, ⟨(some 42), (.op (.lenS (.t 41))), none⟩, ⟨(some 43), (.op (.bin .lss (.t 40) (.t 42))), none⟩])
   (.cond (.t 43) .skip
   (.exit 0)))
   (.seq (.block 1 (.seq (.reg [⟨(some 47), (.op (.mv (.t 0))), none⟩, ⟨(some 48), (.op (.mv (.t 9))), none⟩, ⟨(some 49), (.op (.iaddrS 3 (.t 47) (.t 48))), none⟩, ⟨(some 50), (.op (.loadN 3 (.t 49))), none⟩, ⟨(some 51), (.call (.f 5) [(.t 50)]), none⟩, ⟨(some 46), (.op (.mv (.t 51))), none⟩, ⟨(some 52), (.op (.extract (.t 46) 0)), none⟩, ⟨(some 53), (.op (.extract (.t 46) 1)), none⟩, ⟨(some 10), (.op (.mv (.t 52))), none⟩, ⟨(some 11), (.op (.mv (.t 53))), none⟩])
   (.seq (.reg [⟨(some 55), (.op (.mv (.t 10))), none⟩, ⟨(some 56), (.call (.f 7) [(.t 55)]), none⟩, ⟨(some 54), (.op (.mv (.t 56))), none⟩, ⟨(some 57), (.op (.extract (.t 54) 0)), none⟩, ⟨(some 58), (.op (.extract (.t 54) 1)), none⟩, ⟨(some 12), (.op (.alloc 26 [(.int .u8 0), (.int .i64 0), (.int .u64 0)])), none⟩, ⟨none, (.op (.store 3 (.t 12) (.t 57))), none⟩, ⟨(some 13), (.op (.mv (.t 58))), none⟩])
   (.seq (.dreg (.quiet ⟨(some 59), (.op (.mv (.t 11))), none⟩ (.quiet ⟨(some 60), (.op (.bin .neq (.t 59) (.k (.int .i64 0)))), none⟩ (.quiet ⟨(some 61), (.op (.mv (.t 60))), none⟩ (.quiet ⟨(some 62), (.op (.mv (.t 13))), (some (61, false))⟩ (.quiet ⟨(some 63), (.op (.bin .neq (.t 62) (.k (.int .i64 0)))), (some (61, false))⟩ (.quiet ⟨(some 64), (.op (.pick (.t 61) (.k (.bool true)) (.t 63))), none⟩ (.quiet ⟨(some 65), (.op (.mv (.t 64))), none⟩ (.quiet ⟨(some 66), (.op (.loadN 3 (.t 12))), (some (65, false))⟩ (.quiet ⟨(some 67), (.op (.mv (.t 0))), (some (65, false))⟩ (.quiet ⟨(some 68), (.op (.mv (.t 9))), (some (65, false))⟩ (.quiet ⟨(some 69), (.op (.iaddrS 3 (.t 67) (.t 68))), (some (65, false))⟩ (.quiet ⟨(some 70), (.op (.loadN 3 (.t 69))), (some (65, false))⟩ (.quiet ⟨(some 71), (.op (.eq true (.st [(0, 1, false, .int), (1, 1, false, .int), (2, 1, false, .int)]) (.t 66) (.t 70))), (some (65, false))⟩ (.quiet ⟨(some 72), (.op (.pick (.t 65) (.k (.bool true)) (.t 71))), none⟩ .nil)))))))))))))))
   (.cond (.t 72) (.seq (.reg [⟨(some 4), (.op (.mv (.k (.bool false)))), none⟩])
   .ret)
   .skip)))))
   (.reg [⟨(some 44), (.op (.mv (.t 9))), none⟩, ⟨(some 45), (.op (.bin .add (.t 44) (.k (.int .i64 1)))), none⟩, ⟨(some 9), (.op (.mv (.t 45))), none⟩]))))))))
  .skip)))
  (.seq (.seq (.reg [⟨(some 73), (.op (.mv (.t 1))), none⟩, ⟨(some 74), (.op (.lenS (.t 73))), none⟩, ⟨(some 75), (.op (.bin .gtr (.t 74) (.k (.int .i64 400)))), none⟩])
  (.cond (.t 75) (.reg [⟨(some 76), (.op (.mv (.t 1))), none⟩, ⟨(some 77), (.op (.slice 1 (.t 76) none (some (.k (.int .i64 400))) none)), none⟩, ⟨(some 1), (.op (.mv (.t 77))), none⟩])
  .skip))
  (.seq (.reg [⟨(some 79), (.op (.mv (.t 1))), none⟩, ⟨(some 80), (.call (.f 13) [(.t 79)]), none⟩, ⟨(some 78), (.op (.mv (.t 80))), none⟩, ⟨(some 81), (.op (.extract (.t 78) 0)), none⟩, ⟨(some 82), (.op (.extract (.t 78) 1)), none⟩, ⟨(some 14), (.op (.mv (.t 81))), none⟩, ⟨(some 15), (.op (.mv (.t 82))), none⟩])
  (.seq (.seq (.reg [⟨(some 83), (.op (.mv (.t 15))), none⟩, ⟨(some 84), (.op (.bin .neq (.t 83) (.k (.int .i64 0)))), none⟩])
  (.cond (.t 84) (.seq (.reg [⟨(some 85), (.call (.f 10) []), none⟩, ⟨(some 86), (.op (.mv (.t 85))), none⟩, ⟨(some 87), (.op (.mv (.t 15))), (some (86, true))⟩, ⟨(some 88), (.op (.bin .eql (.t 87) (.k (.int .i64 3)))), (some (86, true))⟩, ⟨(some 89), (.op (.pick (.t 86) (.t 88) (.k (.bool false)))), none⟩, ⟨(some 90), (.op (.mv (.t 89))), none⟩, ⟨(some 91), (.op (.mv (.t 14))), (some (90, true))⟩, ⟨(some 92), (.op (.lenS (.t 91))), (some (90, true))⟩, ⟨(some 93), (.op (.bin .eql (.t 92) (.k (.int .i64 0)))), (some (90, true))⟩, ⟨(some 94), (.op (.pick (.t 90) (.t 93) (.k (.bool false)))), none⟩, ⟨(some 4), (.op (.mv (.t 94))), none⟩])
  .ret)
  .skip))
  (.seq (.reg [⟨(some 96), (.op (.mv (.t 14))), none⟩, ⟨(some 97), (.call (.f 12) [(.t 96)]), none⟩, ⟨(some 95), (.op (.mv (.t 97))), none⟩, ⟨(some 98), (.op (.extract (.t 95) 0)), none⟩, ⟨(some 99), (.op (.extract (.t 95) 1)), none⟩, ⟨(some 16), (.op (.mv (.t 98))), none⟩, ⟨(some 17), (.op (.mv (.t 99))), none⟩])
  (.seq (.reg [⟨(some 100), (.call (.f 10) []), none⟩, ⟨(some 101), (.op (.mv (.t 100))), none⟩, ⟨(some 102), (.op (.mv (.t 17))), (some (101, true))⟩, ⟨(some 103), (.op (.bin .eql (.t 102) (.k (.int .i64 0)))), (some (101, true))⟩, ⟨(some 104), (.op (.pick (.t 101) (.t 103) (.k (.bool false)))), none⟩, ⟨(some 105), (.op (.mv (.t 104))), none⟩, ⟨(some 106), (.op (.mv (.t 16))), (some (105, true))⟩, ⟨(some 107), (.op (.tostr (.t 106))), (some (105, true))⟩, ⟨(some 108), (.op (.mv (.t 1))), (some (105, true))⟩, ⟨(some 109), (.op (.tostr (.t 108))), (some (105, true))⟩, ⟨(some 110), (.op (.bin .eql (.t 107) (.t 109))), (some (105, true))⟩, ⟨(some 111), (.op (.pick (.t 105) (.t 110) (.k (.bool false)))), none⟩, ⟨(some 4), (.op (.mv (.t 111))), none⟩])
  .ret))))))))
def a4 : AF := ⟨112, [(.t 4)], .code b4, none⟩
theorem ok4 : AFOk Tryd.prog ext 4 a4 := .of Tryd.func4 (by kernel_rfl) (by kernel_rfl) (by kernel_rfl) (by kernel_rfl)
/-! 5: rowlock/code.Print -/
def b5 : AC :=
  (.seq (.reg [⟨(some 1), (.op (.box 26 (.t 0))), none⟩, ⟨(some 2), (.op (.mv (.k (.string ⟨#[]⟩)))), none⟩, ⟨(some 3), (.op (.mv (.k (.int .i64 0)))), none⟩])
  (.seq (.seq (.reg [⟨(some 6), (.op (.loadN 3 (.t 1))), none⟩, ⟨(some 7), (.call (.f 15) [(.t 6)]), none⟩, ⟨(some 8), (.op (.un .not (.t 7))), none⟩])
  (.cond (.t 8) (.seq (.reg [⟨(some 2), (.op (.mv (.k (.string ⟨#[]⟩)))), none⟩, ⟨(some 3), (.op (.mv (.k (.int .i64 3)))), none⟩])
  .ret)
  .skip))
  (.seq (.reg [⟨(some 9), (.op (.faddr 0 (.t 1))), none⟩, ⟨(some 10), (.op (.load (.t 9))), none⟩, ⟨(some 11), (.call (.f 16) [(.t 10)]), none⟩, ⟨(some 4), (.op (.alloc 46 [(.string ⟨#[]⟩), (.bool false), (.bool false), (.int .i64 0), (.int .i64 0)])), none⟩, ⟨none, (.op (.store 5 (.t 4) (.t 11))), none⟩])
  (.seq (.reg [⟨(some 12), (.op (.faddr 0 (.t 4))), none⟩, ⟨(some 13), (.op (.load (.t 12))), none⟩, ⟨(some 14), (.op (.bslice 9 [(.string ⟨#[]⟩)] 1 [(0, 1, (.t 13))])), none⟩, ⟨(some 5), (.op (.mv (.t 14))), none⟩])
  (.seq (.seq (.reg [⟨(some 15), (.op (.faddr 1 (.t 4))), none⟩, ⟨(some 16), (.op (.load (.t 15))), none⟩])
  (.cond (.t 16) (.reg [⟨(some 17), (.op (.mv (.t 5))), none⟩, ⟨(some 18), (.op (.faddr 1 (.t 1))), none⟩, ⟨(some 19), (.op (.load (.t 18))), none⟩, ⟨(some 20), (.call (.f 17) [(.t 19)]), none⟩, ⟨(some 21), (.op (.bslice 9 [(.string ⟨#[]⟩)] 1 [(0, 1, (.t 20))])), none⟩, ⟨(some 22), (.op (.append 9 1 16 (.t 17) (.t 21))), none⟩, ⟨(some 5), (.op (.mv (.t 22))), none⟩])
  .skip))
  (.seq (.seq (.reg [⟨(some 23), (.op (.faddr 2 (.t 4))), none⟩, ⟨(some 24), (.op (.load (.t 23))), none⟩])
  (.cond (.t 24) (.reg [⟨(some 25), (.op (.mv (.t 5))), none⟩, ⟨(some 26), (.op (.faddr 2 (.t 1))), none⟩, ⟨(some 27), (.op (.load (.t 26))), none⟩, ⟨(some 28), (.call (.f 18) [(.t 27)]), none⟩, ⟨(some 29), (.op (.bslice 9 [(.string ⟨#[]⟩)] 1 [(0, 1, (.t 28))])), none⟩, ⟨(some 30), (.op (.append 9 1 16 (.t 25) (.t 29))), none⟩, ⟨(some 5), (.op (.mv (.t 30))), none⟩])
  .skip))
  (.seq (.reg [⟨(some 31), (.op (.mv (.t 5))), none⟩, ⟨(some 32), (.call (.f 19) [(.t 31), (.k (.string ⟨#[32]⟩))]), none⟩, ⟨(some 2), (.op (.mv (.t 32))), none⟩, ⟨(some 3), (.op (.mv (.k (.int .i64 0)))), none⟩])
  .ret)))))))
def a5 : AF := ⟨33, [(.t 2), (.t 3)], .code b5, none⟩
theorem ok5 : AFOk Tryd.prog ext 5 a5 := .of Tryd.func5 (by kernel_rfl) (by kernel_rfl) (by kernel_rfl) (by kernel_rfl)
/-! 6: rowlock/rowlockref14.Print -/
def b6 : AC :=
  (.seq (.reg [⟨(some 1), (.op (.box 26 (.t 0))), none⟩, ⟨(some 2), (.op (.mv (.k (.string ⟨#[]⟩)))), none⟩, ⟨(some 3), (.op (.mv (.k (.int .i64 0)))), none⟩])
  (.seq (.seq (.reg [⟨(some 7), (.op (.loadN 3 (.t 1))), none⟩, ⟨(some 8), (.call (.f 20) [(.t 7)]), none⟩, ⟨(some 9), (.op (.un .not (.t 8))), none⟩])
  (.cond (.t 9) (.seq (.reg [⟨(some 2), (.op (.mv (.k (.string ⟨#[]⟩)))), none⟩, ⟨(some 3), (.op (.mv (.k (.int .i64 3)))), none⟩])
  .ret)
  .skip))
  (.seq (.reg [⟨(some 11), (.op (.faddr 0 (.t 1))), none⟩, ⟨(some 12), (.op (.load (.t 11))), none⟩, ⟨(some 13), (.call (.f 21) [(.t 12)]), none⟩, ⟨(some 10), (.op (.mv (.t 13))), none⟩, ⟨(some 14), (.op (.extract (.t 10) 0)), none⟩, ⟨(some 15), (.op (.extract (.t 10) 1)), none⟩, ⟨(some 4), (.op (.mv (.t 14))), none⟩, ⟨(some 5), (.op (.mv (.t 15))), none⟩])
  (.seq (.reg [⟨(some 16), (.op (.faddr 0 (.t 1))), none⟩, ⟨(some 17), (.op (.load (.t 16))), none⟩, ⟨(some 18), (.call (.f 22) [(.t 17)]), none⟩, ⟨(some 6), (.op (.mv (.t 18))), none⟩])
  (.seq (.seq (.reg [⟨(some 19), (.op (.mv (.t 4))), none⟩])
  (.cond (.t 19) (.reg [⟨(some 20), (.op (.mv (.t 6))), none⟩, ⟨(some 21), (.op (.faddr 1 (.t 1))), none⟩, ⟨(some 22), (.op (.load (.t 21))), none⟩, ⟨(some 23), (.call (.f 23) [(.t 22)]), none⟩, ⟨(some 24), (.op (.bin .add (.k (.string ⟨#[32]⟩)) (.t 23))), none⟩, ⟨(some 25), (.op (.bin .add (.t 20) (.t 24))), none⟩, ⟨(some 6), (.op (.mv (.t 25))), none⟩])
  .skip))
  (.seq (.seq (.reg [⟨(some 26), (.op (.mv (.t 5))), none⟩])
  (.cond (.t 26) (.reg [⟨(some 27), (.op (.mv (.t 6))), none⟩, ⟨(some 28), (.op (.faddr 2 (.t 1))), none⟩, ⟨(some 29), (.op (.load (.t 28))), none⟩, ⟨(some 30), (.call (.f 24) [(.t 29)]), none⟩, ⟨(some 31), (.op (.bin .add (.k (.string ⟨#[32]⟩)) (.t 30))), none⟩, ⟨(some 32), (.op (.bin .add (.t 27) (.t 31))), none⟩, ⟨(some 6), (.op (.mv (.t 32))), none⟩])
  .skip))
  (.seq (.reg [⟨(some 33), (.op (.mv (.t 6))), none⟩, ⟨(some 2), (.op (.mv (.t 33))), none⟩, ⟨(some 3), (.op (.mv (.k (.int .i64 0)))), none⟩])
  .ret)))))))
def a6 : AF := ⟨34, [(.t 2), (.t 3)], .code b6, none⟩
theorem ok6 : AFOk Tryd.prog ext 6 a6 := .of Tryd.func6 (by kernel_rfl) (by kernel_rfl) (by kernel_rfl) (by kernel_rfl)
/-! 7: rowlock/code.Parse -/
def b7 : AC :=
  (.seq (.reg [⟨(some 2), (.op (.alloc 26 [(.int .u8 0), (.int .i64 0), (.int .u64 0)])), none⟩, ⟨(some 3), (.op (.mv (.k (.int .i64 0)))), none⟩])
  (.seq (.reg [⟨(some 14), (.op (.mv (.t 0))), none⟩, ⟨(some 15), (.call (.f 25) [(.t 14), (.k (.string ⟨#[32]⟩))]), none⟩, ⟨(some 13), (.op (.mv (.t 15))), none⟩, ⟨(some 16), (.op (.extract (.t 13) 0)), none⟩, ⟨(some 17), (.op (.extract (.t 13) 1)), none⟩, ⟨(some 18), (.op (.extract (.t 13) 2)), none⟩, ⟨(some 4), (.op (.mv (.t 16))), none⟩, ⟨(some 5), (.op (.mv (.t 17))), none⟩, ⟨(some 6), (.op (.mv (.t 18))), none⟩])
  (.seq (.reg [⟨(some 20), (.op (.mv (.t 4))), none⟩, ⟨(some 21), (.call (.f 26) [(.t 20)]), none⟩, ⟨(some 19), (.op (.mv (.t 21))), none⟩, ⟨(some 22), (.op (.extract (.t 19) 0)), none⟩, ⟨(some 23), (.op (.extract (.t 19) 1)), none⟩, ⟨(some 7), (.op (.mv (.t 22))), none⟩, ⟨(some 8), (.op (.mv (.t 23))), none⟩])
  (.seq (.reg [⟨(some 24), (.op (.mv (.t 7))), none⟩, ⟨(some 25), (.op (.build [(.int .u8 0), (.int .i64 0), (.int .u64 0)] [(0, 1, (.t 24))])), none⟩, ⟨(some 9), (.op (.alloc 26 [(.int .u8 0), (.int .i64 0), (.int .u64 0)])), none⟩, ⟨none, (.op (.store 3 (.t 9) (.t 25))), none⟩])
  (.seq (.reg [⟨(some 26), (.op (.mv (.t 7))), none⟩, ⟨(some 27), (.call (.f 16) [(.t 26)]), none⟩, ⟨(some 10), (.op (.alloc 46 [(.string ⟨#[]⟩), (.bool false), (.bool false), (.int .i64 0), (.int .i64 0)])), none⟩, ⟨none, (.op (.store 5 (.t 10) (.t 27))), none⟩])
  (.seq (.block 0 (.seq (.reg [⟨(some 29), (.op (.mv (.t 8))), none⟩, ⟨(some 30), (.op (.un .not (.t 29))), none⟩, ⟨(some 31), (.op (.mv (.t 30))), none⟩, ⟨(some 32), (.op (.mv (.t 6))), (some (31, false))⟩, ⟨(some 33), (.op (.faddr 1 (.t 10))), (some (31, false))⟩, ⟨(some 34), (.op (.load (.t 33))), (some (31, false))⟩, ⟨(some 35), (.op (.mv (.t 34))), (some (31, false))⟩, ⟨(some 36), (.op (.faddr 2 (.t 10))), (some (35, false))⟩, ⟨(some 37), (.op (.load (.t 36))), (some (35, false))⟩, ⟨(some 38), (.op (.pick (.t 35) (.k (.bool true)) (.t 37))), (some (31, false))⟩, ⟨(some 39), (.op (.eq true .bool (.t 32) (.t 38))), (some (31, false))⟩, ⟨(some 40), (.op (.pick (.t 31) (.k (.bool true)) (.t 39))), none⟩, ⟨(some 28), (.op (.mv (.t 40))), none⟩])
  (.cond (.t 28) (.seq (.reg [⟨(some 41), (.op (.build [(.int .u8 0), (.int .i64 0), (.int .u64 0)] [])), none⟩, ⟨none, (.op (.store 3 (.t 2) (.t 41))), none⟩, ⟨(some 3), (.op (.mv (.k (.int .i64 3)))), none⟩])
  .ret)
  (.seq (.reg [⟨(some 43), (.op (.faddr 1 (.t 10))), none⟩, ⟨(some 44), (.op (.load (.t 43))), none⟩, ⟨(some 42), (.op (.mv (.t 44))), none⟩])
  (.cond (.t 42) (.reg [⟨(some 46), (.op (.mv (.t 5))), none⟩, ⟨(some 47), (.call (.f 27) [(.t 46)]), none⟩, ⟨(some 45), (.op (.mv (.t 47))), none⟩, ⟨(some 48), (.op (.extract (.t 45) 0)), none⟩, ⟨(some 49), (.op (.extract (.t 45) 1)), none⟩, ⟨(some 50), (.op (.faddr 1 (.t 9))), none⟩, ⟨none, (.op (.store 1 (.t 50) (.t 48))), none⟩, ⟨(some 8), (.op (.mv (.t 49))), none⟩])
  (.seq (.reg [⟨(some 52), (.op (.faddr 2 (.t 10))), none⟩, ⟨(some 53), (.op (.load (.t 52))), none⟩, ⟨(some 51), (.op (.mv (.t 53))), none⟩])
  (.cond (.t 51) (.seq (.reg [⟨(some 55), (.op (.mv (.t 5))), none⟩, ⟨(some 56), (.call (.f 28) [(.t 55)]), none⟩, ⟨(some 54), (.op (.mv (.t 56))), none⟩, ⟨(some 57), (.op (.extract (.t 54) 0)), none⟩, ⟨(some 58), (.op (.extract (.t 54) 1)), none⟩, ⟨(some 11), (.op (.mv (.t 57))), none⟩, ⟨(some 12), (.op (.mv (.t 58))), none⟩])
  (.reg [⟨(some 59), (.op (.mv (.t 11))), none⟩, ⟨(some 60), (.op (.mv (.t 12))), none⟩, ⟨(some 61), (.op (.bin .eql (.t 60) (.k (.int .i64 0)))), none⟩, ⟨(some 62), (.op (.faddr 2 (.t 9))), none⟩, ⟨none, (.op (.store 1 (.t 62) (.t 59))), none⟩, ⟨(some 8), (.op (.mv (.t 61))), none⟩]))
  .skip)))))))
  (.seq (.seq (.reg [⟨(some 63), (.op (.mv (.t 8))), none⟩, ⟨(some 64), (.op (.un .not (.t 63))), none⟩, ⟨(some 65), (.op (.mv (.t 64))), none⟩, ⟨(some 66), (.op (.loadN 3 (.t 9))), (some (65, false))⟩, ⟨(some 67), (.call (.f 15) [(.t 66)]), (some (65, false))⟩, ⟨(some 68), (.op (.un .not (.t 67))), (some (65, false))⟩, ⟨(some 69), (.op (.pick (.t 65) (.k (.bool true)) (.t 68))), none⟩])
  (.cond (.t 69) (.seq (.reg [⟨(some 70), (.op (.build [(.int .u8 0), (.int .i64 0), (.int .u64 0)] [])), none⟩, ⟨none, (.op (.store 3 (.t 2) (.t 70))), none⟩, ⟨(some 3), (.op (.mv (.k (.int .i64 3)))), none⟩])
  .ret)
  .skip))
  (.seq (.reg [⟨(some 71), (.op (.loadN 3 (.t 9))), none⟩, ⟨none, (.op (.store 3 (.t 2) (.t 71))), none⟩, ⟨(some 3), (.op (.mv (.k (.int .i64 0)))), none⟩])
  .ret))))))))
def a7 : AF := ⟨72, [(.c 2 true 3), (.t 3)], .code b7, none⟩
theorem ok7 : AFOk Tryd.prog ext 7 a7 := .of Tryd.func7 (by kernel_rfl) (by kernel_rfl) (by kernel_rfl) (by kernel_rfl)
/-! 8: rowlock/rowlocklaw14.short -/
def b8 : AC :=
  (.seq (.reg [⟨(some 2), (.op (.mv (.k (.string ⟨#[]⟩)))), none⟩])
  (.seq (.seq (.reg [⟨(some 3), (.op (.mv (.t 0))), none⟩, ⟨(some 4), (.op (.lenT (.t 3))), none⟩, ⟨(some 5), (.op (.bin .gtr (.t 4) (.k (.int .i64 200)))), none⟩])
  (.cond (.t 5) (.seq (.reg [⟨(some 6), (.op (.mv (.t 0))), none⟩, ⟨(some 7), (.op (.sliceS (.t 6) none (some (.k (.int .i64 200))))), none⟩, ⟨(some 2), (.op (.mv (.t 7))), none⟩])
  .ret)
  .skip))
  (.seq (.reg [⟨(some 8), (.op (.mv (.t 0))), none⟩, ⟨(some 2), (.op (.mv (.t 8))), none⟩])
  .ret)))
def a8 : AF := ⟨9, [(.t 2)], .code b8, none⟩
theorem ok8 : AFOk Tryd.prog ext 8 a8 := .of Tryd.func8 (by kernel_rfl) (by kernel_rfl) (by kernel_rfl) (by kernel_rfl)
/-! 9: rowlock/rowlockref14.Parse -/
def b9 : AC :=
  (.seq (.reg [⟨(some 2), (.op (.alloc 26 [(.int .u8 0), (.int .i64 0), (.int .u64 0)])), none⟩, ⟨(some 3), (.op (.mv (.k (.int .i64 0)))), none⟩])
  (.seq (.reg [⟨(some 15), (.op (.mv (.t 0))), none⟩, ⟨(some 4), (.op (.mv (.t 15))), none⟩, ⟨(some 5), (.op (.mv (.k (.string ⟨#[]⟩)))), none⟩])
  (.seq (.seq (.reg [⟨(some 6), (.op (.mv (.k (.int .i64 0)))), none⟩])
  (.block 0 (.loop (.seq (.seq (.reg [⟨(some 16), (.op (.mv (.t 6))), none⟩, ⟨(some 17), (.op (.mv (.t 0))), none⟩, ⟨(some 18), (.op (.lenT (.t 17))), none⟩, ⟨(some 19), (.op (.bin .lss (.t 16) (.t 18))), none⟩, ⟨(some 20), (.op (.mv (.t 19))), none⟩, ⟨(some 21), (.op (.mv (.t 5))), (some (20, true))⟩, ⟨(some 22), (.op (.bin .eql (.t 21) (.k (.string ⟨#[]⟩)))), (some (20, true))⟩, ⟨(some 23), (.op (.pick (.t 20) (.t 22) (.k (.bool false)))), none⟩])
   (.cond (.t 23) .skip
   (.exit 0)))
   (.seq (.block 1 (.seq (.reg [⟨(some 26), (.op (.mv (.t 0))), none⟩, ⟨(some 27), (.op (.mv (.t 6))), none⟩, ⟨(some 28), (.op (.indexS (.t 26) (.t 27))), none⟩, ⟨(some 29), (.op (.bin .eql (.t 28) (.k (.int .u8 32)))), none⟩])
   (.cond (.t 29) (.dreg (.quiet ⟨(some 30), (.op (.mv (.t 0))), none⟩ (.quiet ⟨(some 31), (.op (.mv (.t 6))), none⟩ (.quiet ⟨(some 32), (.op (.sliceS (.t 30) none (some (.t 31)))), none⟩ (.quiet ⟨(some 33), (.op (.mv (.t 0))), none⟩ (.quiet ⟨(some 34), (.op (.mv (.t 6))), none⟩ (.quiet ⟨(some 35), (.op (.sliceS (.t 33) (some (.t 34)) none)), none⟩ (.loud ⟨(some 4), (.op (.mv (.t 32))), none⟩ [] (.loud ⟨(some 5), (.op (.mv (.t 35))), none⟩ [] .nil)))))))))
   .skip)))
   (.reg [⟨(some 24), (.op (.mv (.t 6))), none⟩, ⟨(some 25), (.op (.bin .add (.t 24) (.k (.int .i64 1)))), none⟩, ⟨(some 6), (.op (.mv (.t 25))), none⟩]))))))
  (.seq (.reg [⟨(some 37), (.op (.mv (.t 4))), none⟩, ⟨(some 38), (.call (.f 29) [(.t 37)]), none⟩, ⟨(some 36), (.op (.mv (.t 38))), none⟩, ⟨(some 39), (.op (.extract (.t 36) 0)), none⟩, ⟨(some 40), (.op (.extract (.t 36) 1)), none⟩, ⟨(some 7), (.op (.mv (.t 39))), none⟩, ⟨(some 8), (.op (.mv (.t 40))), none⟩])
  (.seq (.seq (.reg [⟨(some 41), (.op (.mv (.t 8))), none⟩, ⟨(some 42), (.op (.un .not (.t 41))), none⟩])
  (.cond (.t 42) (.seq (.reg [⟨(some 43), (.op (.build [(.int .u8 0), (.int .i64 0), (.int .u64 0)] [])), none⟩, ⟨none, (.op (.store 3 (.t 2) (.t 43))), none⟩, ⟨(some 3), (.op (.mv (.k (.int .i64 3)))), none⟩])
  .ret)
  .skip))
  (.seq (.reg [⟨(some 44), (.op (.mv (.t 7))), none⟩, ⟨(some 45), (.op (.build [(.int .u8 0), (.int .i64 0), (.int .u64 0)] [(0, 1, (.t 44))])), none⟩, ⟨(some 9), (.op (.alloc 26 [(.int .u8 0), (.int .i64 0), (.int .u64 0)])), none⟩, ⟨none, (.op (.store 3 (.t 9) (.t 45))), none⟩])
  (.seq (.reg [⟨(some 47), (.op (.mv (.t 7))), none⟩, ⟨(some 48), (.call (.f 21) [(.t 47)]), none⟩, ⟨(some 46), (.op (.mv (.t 48))), none⟩, ⟨(some 49), (.op (.extract (.t 46) 0)), none⟩, ⟨(some 50), (.op (.extract (.t 46) 1)), none⟩, ⟨(some 10), (.op (.mv (.t 49))), none⟩, ⟨(some 11), (.op (.mv (.t 50))), none⟩])
  (.seq (.seq (.reg [⟨(some 51), (.op (.mv (.t 11))), none⟩, ⟨(some 52), (.op (.mv (.t 51))), none⟩, ⟨(some 53), (.op (.mv (.t 5))), (some (52, true))⟩, ⟨(some 54), (.op (.lenT (.t 53))), (some (52, true))⟩, ⟨(some 55), (.op (.bin .eql (.t 54) (.k (.int .i64 17)))), (some (52, true))⟩, ⟨(some 56), (.op (.pick (.t 52) (.t 55) (.k (.bool false)))), none⟩])
  (.cond (.t 56) (.reg [⟨(some 58), (.op (.mv (.t 5))), none⟩, ⟨(some 59), (.op (.sliceS (.t 58) (some (.k (.int .i64 1))) none)), none⟩, ⟨(some 60), (.call (.f 30) [(.t 59)]), none⟩, ⟨(some 57), (.op (.mv (.t 60))), none⟩, ⟨(some 61), (.op (.extract (.t 57) 0)), none⟩, ⟨(some 62), (.op (.extract (.t 57) 1)), none⟩, ⟨(some 63), (.op (.faddr 2 (.t 9))), none⟩, ⟨none, (.op (.store 1 (.t 63) (.t 61))), none⟩])
  .skip))
  (.seq (.seq (.reg [⟨(some 12), (.op (.mv (.k (.int .i64 0)))), none⟩])
  (.block 2 (.loop (.seq (.seq (.reg [⟨(some 64), (.op (.mv (.t 12))), none⟩, ⟨(some 65), (.op (.bin .lss (.t 64) (.k (.int .i64 64)))), none⟩, ⟨(some 66), (.op (.mv (.t 65))), none⟩, ⟨(some 67), (.op (.mv (.t 10))), (some (66, true))⟩, ⟨(some 68), (.op (.pick (.t 66) (.t 67) (.k (.bool false)))), none⟩])
   (.cond (.t 68) .skip
   (.exit 2)))
   (.seq (.block 3 (.seq (.reg [⟨(some 71), (.op (.mv (.t 5))), none⟩, ⟨(some 72), (.op (.mv (.t 12))), none⟩, ⟨(some 73), (.call (.f 23) [(.t 72)]), none⟩, ⟨(some 74), (.op (.bin .add (.k (.string ⟨#[32]⟩)) (.t 73))), none⟩, ⟨(some 75), (.op (.bin .eql (.t 71) (.t 74))), none⟩])
   (.cond (.t 75) (.reg [⟨(some 76), (.op (.mv (.t 12))), none⟩, ⟨(some 77), (.op (.faddr 1 (.t 9))), none⟩, ⟨none, (.op (.store 1 (.t 77) (.t 76))), none⟩])
   .skip)))
   (.reg [⟨(some 69), (.op (.mv (.t 12))), none⟩, ⟨(some 70), (.op (.bin .add (.t 69) (.k (.int .i64 1)))), none⟩, ⟨(some 12), (.op (.mv (.t 70))), none⟩]))))))
  (.seq (.seq (.reg [⟨(some 79), (.op (.loadN 3 (.t 9))), none⟩, ⟨(some 80), (.call (.f 6) [(.t 79)]), none⟩, ⟨(some 78), (.op (.mv (.t 80))), none⟩, ⟨(some 81), (.op (.extract (.t 78) 0)), none⟩, ⟨(some 82), (.op (.extract (.t 78) 1)), none⟩, ⟨(some 13), (.op (.mv (.t 81))), none⟩, ⟨(some 14), (.op (.mv (.t 82))), none⟩])
  (.seq (.reg [⟨(some 83), (.op (.mv (.t 14))), none⟩, ⟨(some 84), (.op (.bin .neq (.t 83) (.k (.int .i64 0)))), none⟩, ⟨(some 85), (.op (.mv (.t 84))), none⟩, ⟨(some 86), (.op (.mv (.t 13))), (some (85, false))⟩, ⟨(some 87), (.op (.mv (.t 0))), (some (85, false))⟩, ⟨(some 88), (.op (.bin .neq (.t 86) (.t 87))), (some (85, false))⟩, ⟨(some 89), (.op (.pick (.t 85) (.k (.bool true)) (.t 88))), none⟩])
  (.cond (.t 89) (.seq (.reg [⟨(some 90), (.op (.build [(.int .u8 0), (.int .i64 0), (.int .u64 0)] [])), none⟩, ⟨none, (.op (.store 3 (.t 2) (.t 90))), none⟩, ⟨(some 3), (.op (.mv (.k (.int .i64 3)))), none⟩])
  .ret)
  .skip)))
  (.seq (.reg [⟨(some 91), (.op (.loadN 3 (.t 9))), none⟩, ⟨none, (.op (.store 3 (.t 2) (.t 91))), none⟩, ⟨(some 3), (.op (.mv (.k (.int .i64 0)))), none⟩])
  .ret)))))))))))
def a9 : AF := ⟨92, [(.c 2 true 3), (.t 3)], .code b9, none⟩
theorem ok9 : AFOk Tryd.prog ext 9 a9 := .of Tryd.func9 (by kernel_rfl) (by kernel_rfl) (by kernel_rfl) (by kernel_rfl)
/-! 10: rowlock/rowlocklaw14.live -/
def b10 : AC :=
  (.seq (.reg [⟨(some 0), (.op (.mv (.k (.bool false)))), none⟩])
  (.seq (.reg [⟨(some 8), (.op (.build [(.int .u8 0), (.int .i64 0), (.int .u64 0)] [(0, 1, (.k (.int .u8 4))), (1, 1, (.k (.int .i64 3)))])), none⟩, ⟨(some 9), (.op (.bslice 26 [(.int .u8 0), (.int .i64 0), (.int .u64 0)] 1 [(0, 3, (.t 8))])), none⟩, ⟨(some 10), (.call (.f 12) [(.t 9)]), none⟩, ⟨(some 7), (.op (.mv (.t 10))), none⟩, ⟨(some 11), (.op (.extract (.t 7) 0)), none⟩, ⟨(some 12), (.op (.extract (.t 7) 1)), none⟩, ⟨(some 1), (.op (.mv (.t 11))), none⟩, ⟨(some 2), (.op (.mv (.t 12))), none⟩])
  (.seq (.reg [⟨(some 14), (.call (.f 7) [(.k (.string ⟨#[106, 117, 109, 112, 32, 49, 55]⟩))]), none⟩, ⟨(some 13), (.op (.mv (.t 14))), none⟩, ⟨(some 15), (.op (.extract (.t 13) 0)), none⟩, ⟨(some 16), (.op (.extract (.t 13) 1)), none⟩, ⟨(some 3), (.op (.alloc 26 [(.int .u8 0), (.int .i64 0), (.int .u64 0)])), none⟩, ⟨none, (.op (.store 3 (.t 3) (.t 15))), none⟩, ⟨(some 4), (.op (.mv (.t 16))), none⟩])
  (.seq (.reg [⟨(some 18), (.call (.f 31) [(.k (.int .u8 7))]), none⟩, ⟨(some 17), (.op (.mv (.t 18))), none⟩, ⟨(some 19), (.op (.extract (.t 17) 0)), none⟩, ⟨(some 20), (.op (.extract (.t 17) 1)), none⟩, ⟨(some 5), (.op (.mv (.t 19))), none⟩, ⟨(some 6), (.op (.mv (.t 20))), none⟩])
  (.seq (.reg [⟨(some 21), (.op (.mv (.t 2))), none⟩, ⟨(some 22), (.op (.bin .eql (.t 21) (.k (.int .i64 0)))), none⟩, ⟨(some 23), (.op (.mv (.t 22))), none⟩, ⟨(some 24), (.op (.mv (.t 1))), (some (23, true))⟩, ⟨(some 25), (.op (.tostr (.t 24))), (some (23, true))⟩, ⟨(some 26), (.op (.bin .eql (.t 25) (.k (.string ⟨#[4, 3]⟩)))), (some (23, true))⟩, ⟨(some 27), (.op (.pick (.t 23) (.t 26) (.k (.bool false)))), none⟩, ⟨(some 28), (.op (.mv (.t 27))), none⟩, ⟨(some 29), (.op (.mv (.t 4))), (some (28, true))⟩, ⟨(some 30), (.op (.bin .eql (.t 29) (.k (.int .i64 0)))), (some (28, true))⟩, ⟨(some 31), (.op (.pick (.t 28) (.t 30) (.k (.bool false)))), none⟩, ⟨(some 32), (.op (.mv (.t 31))), none⟩, ⟨(some 33), (.op (.faddr 0 (.t 3))), (some (32, true))⟩, ⟨(some 34), (.op (.load (.t 33))), (some (32, true))⟩, ⟨(some 35), (.op (.bin .eql (.t 34) (.k (.int .u8 19)))), (some (32, true))⟩, ⟨(some 36), (.op (.pick (.t 32) (.t 35) (.k (.bool false)))), none⟩, ⟨(some 37), (.op (.mv (.t 36))), none⟩, ⟨(some 38), (.op (.faddr 1 (.t 3))), (some (37, true))⟩, ⟨(some 39), (.op (.load (.t 38))), (some (37, true))⟩, ⟨(some 40), (.op (.bin .eql (.t 39) (.k (.int .i64 17)))), (some (37, true))⟩, ⟨(some 41), (.op (.pick (.t 37) (.t 40) (.k (.bool false)))), none⟩, ⟨(some 42), (.op (.mv (.t 41))), none⟩, ⟨(some 43), (.op (.mv (.t 5))), (some (42, true))⟩, ⟨(some 44), (.op (.bin .eql (.t 43) (.k (.int .i64 2)))), (some (42, true))⟩, ⟨(some 45), (.op (.pick (.t 42) (.t 44) (.k (.bool false)))), none⟩, ⟨(some 46), (.op (.mv (.t 45))), none⟩, ⟨(some 47), (.op (.mv (.t 6))), (some (46, true))⟩, ⟨(some 48), (.op (.bin .eql (.t 47) (.k (.int .i64 0)))), (some (46, true))⟩, ⟨(some 49), (.op (.pick (.t 46) (.t 48) (.k (.bool false)))), none⟩, ⟨(some 0), (.op (.mv (.t 49))), none⟩])
  .ret)))))
def a10 : AF := ⟨50, [(.t 0)], .code b10, none⟩
theorem ok10 : AFOk Tryd.prog ext 10 a10 := .of Tryd.func10 (by kernel_rfl) (by kernel_rfl) (by kernel_rfl) (by kernel_rfl)
/-! 11: rowlock/rowlocklaw14.few -/
def b11 : AC :=
  (.seq (.reg [⟨(some 2), (.op (.mv (.k (.slice none 0 0)))), none⟩])
  (.seq (.seq (.reg [⟨(some 3), (.op (.mv (.t 0))), none⟩, ⟨(some 4), (.op (.lenS (.t 3))), none⟩, ⟨(some 5), (.op (.bin .gtr (.t 4) (.k (.int .i64 60)))), none⟩])
  (.cond (.t 5) (.seq (.reg [⟨(some 6), (.op (.mv (.t 0))), none⟩, ⟨(some 7), (.op (.slice 3 (.t 6) none (some (.k (.int .i64 60))) none)), none⟩, ⟨(some 2), (.op (.mv (.t 7))), none⟩])
  .ret)
  .skip))
  (.seq (.reg [⟨(some 8), (.op (.mv (.t 0))), none⟩, ⟨(some 2), (.op (.mv (.t 8))), none⟩])
  .ret)))
def a11 : AF := ⟨9, [(.t 2)], .code b11, none⟩
theorem ok11 : AFOk Tryd.prog ext 11 a11 := .of Tryd.func11 (by kernel_rfl) (by kernel_rfl) (by kernel_rfl) (by kernel_rfl)
/-! 12: rowlock/code.Encode -/
def b12 : AC :=
  (.seq (.reg [⟨(some 2), (.op (.mv (.k (.slice none 0 0)))), none⟩, ⟨(some 3), (.op (.mv (.k (.int .i64 0)))), none⟩])
  (.seq (.reg [⟨(some 4), (.op (.mv (.k (.slice none 0 0)))), none⟩])
  (.seq (.seq (.reg [⟨(some 9), (.op (.mv (.t 0))), none⟩, ⟨(some 10), (.op (.lenS (.t 9))), none⟩, ⟨(some 11), (.op (.mv (.k (.int .i64 0)))), none⟩])
  (.block 0 (.loop (.seq (.reg [⟨(some 12), (.op (.bin .lss (.t 11) (.t 10))), none⟩])
   (.seq (.cond (.t 12) .skip
   (.exit 0))
   (.seq (.block 1 (.seq (.reg [⟨(some 13), (.op (.iaddrS 3 (.t 9) (.t 11))), none⟩, ⟨(some 14), (.op (.loadN 3 (.t 13))), none⟩, ⟨(some 6), (.op (.alloc 26 [(.int .u8 0), (.int .i64 0), (.int .u64 0)])), none⟩, ⟨none, (.op (.store 3 (.t 6) (.t 14))), none⟩])
   (.seq (.seq (.reg [⟨(some 15), (.op (.loadN 3 (.t 6))), none⟩, ⟨(some 16), (.call (.f 15) [(.t 15)]), none⟩, ⟨(some 17), (.op (.un .not (.t 16))), none⟩])
   (.cond (.t 17) (.seq (.reg [⟨(some 2), (.op (.mv (.k (.slice none 0 0)))), none⟩, ⟨(some 3), (.op (.mv (.k (.int .i64 3)))), none⟩])
   .ret)
   .skip))
   (.seq (.reg [⟨(some 18), (.op (.faddr 0 (.t 6))), none⟩, ⟨(some 19), (.op (.load (.t 18))), none⟩, ⟨(some 20), (.call (.f 16) [(.t 19)]), none⟩, ⟨(some 7), (.op (.alloc 46 [(.string ⟨#[]⟩), (.bool false), (.bool false), (.int .i64 0), (.int .i64 0)])), none⟩, ⟨none, (.op (.store 5 (.t 7) (.t 20))), none⟩])
   (.seq (.reg [⟨(some 21), (.op (.mv (.t 4))), none⟩, ⟨(some 22), (.op (.faddr 0 (.t 6))), none⟩, ⟨(some 23), (.op (.load (.t 22))), none⟩, ⟨(some 24), (.op (.bslice 5 [(.int .u8 0)] 1 [(0, 1, (.t 23))])), none⟩, ⟨(some 25), (.op (.append 5 1 1 (.t 21) (.t 24))), none⟩, ⟨(some 4), (.op (.mv (.t 25))), none⟩])
   (.seq (.seq (.reg [⟨(some 26), (.op (.faddr 1 (.t 7))), none⟩, ⟨(some 27), (.op (.load (.t 26))), none⟩])
   (.cond (.t 27) (.reg [⟨(some 28), (.op (.mv (.t 4))), none⟩, ⟨(some 29), (.op (.faddr 1 (.t 6))), none⟩, ⟨(some 30), (.op (.load (.t 29))), none⟩, ⟨(some 31), (.op (.conv (.int .u8) (.t 30))), none⟩, ⟨(some 32), (.op (.bslice 5 [(.int .u8 0)] 1 [(0, 1, (.t 31))])), none⟩, ⟨(some 33), (.op (.append 5 1 1 (.t 28) (.t 32))), none⟩, ⟨(some 4), (.op (.mv (.t 33))), none⟩])
   .skip))
   (.seq (.reg [⟨(some 34), (.op (.faddr 2 (.t 7))), none⟩, ⟨(some 35), (.op (.load (.t 34))), none⟩])
   (.cond (.t 35) (.seq (.reg [⟨(some 36), (.op (.mv (.k (.int .i64 0)))), none⟩])
   (.block 2 (.loop (.seq (.reg [⟨(some 37), (.op (.bin .lss (.t 36) (.k (.int .i64 8)))), none⟩])
    (.seq (.cond (.t 37) .skip
    (.exit 2))
    (.seq (.block 3 (.seq (.reg [⟨(some 38), (.op (.mv (.t 36))), none⟩, ⟨(some 8), (.op (.mv (.t 38))), none⟩])
    (.reg [⟨(some 39), (.op (.mv (.t 4))), none⟩, ⟨(some 40), (.op (.faddr 2 (.t 6))), none⟩, ⟨(some 41), (.op (.load (.t 40))), none⟩, ⟨(some 42), (.op (.mv (.t 8))), none⟩, ⟨(some 43), (.op (.bin .sub (.k (.int .i64 7)) (.t 42))), none⟩, ⟨(some 44), (.op (.bin .mul (.k (.int .i64 8)) (.t 43))), none⟩, ⟨(some 45), (.op (.bin .shr (.t 41) (.t 44))), none⟩, ⟨(some 46), (.op (.conv (.int .u8) (.t 45))), none⟩, ⟨(some 47), (.op (.bslice 5 [(.int .u8 0)] 1 [(0, 1, (.t 46))])), none⟩, ⟨(some 48), (.op (.append 5 1 1 (.t 39) (.t 47))), none⟩, ⟨(some 4), (.op (.mv (.t 48))), none⟩])))
    (.reg [⟨(some 49), (.op (.bin .add (.t 36) (.k (.int .i64 1)))), none⟩, ⟨(some 36), (.op (.mv (.t 49))), none⟩])))))))
   .skip))))))))
   (.reg [⟨(some 50), (.op (.bin .add (.t 11) (.k (.int .i64 1)))), none⟩, ⟨(some 11), (.op (.mv (.t 50))), none⟩])))))))
  (.seq (.reg [⟨(some 51), (.op (.mv (.t 4))), none⟩, ⟨(some 2), (.op (.mv (.t 51))), none⟩, ⟨(some 3), (.op (.mv (.k (.int .i64 0)))), none⟩])
  .ret))))
def a12 : AF := ⟨52, [(.t 2), (.t 3)], .code b12, none⟩
theorem ok12 : AFOk Tryd.prog ext 12 a12 := .of Tryd.func12 (by kernel_rfl) (by kernel_rfl) (by kernel_rfl) (by kernel_rfl)
/-! 13: rowlock/code.Decode -/
def b13 : AC :=
  (.seq (.reg [⟨(some 2), (.op (.mv (.k (.slice none 0 0)))), none⟩, ⟨(some 3), (.op (.mv (.k (.int .i64 0)))), none⟩])
  (.seq (.reg [⟨(some 4), (.op (.mv (.k (.slice none 0 0)))), none⟩])
  (.seq (.block 0 (.loop (.seq (.seq (.reg [⟨(some 8), (.op (.mv (.t 0))), none⟩, ⟨(some 9), (.op (.lenS (.t 8))), none⟩, ⟨(some 10), (.op (.bin .gtr (.t 9) (.k (.int .i64 0)))), none⟩])
   (.cond (.t 10) .skip
   (.exit 0)))
   (.block 1 (.seq (.reg [⟨(some 12), (.op (.mv (.t 0))), none⟩, ⟨(some 13), (.call (.f 32) [(.t 12)]), none⟩, ⟨(some 11), (.op (.mv (.t 13))), none⟩, ⟨(some 14), (.op (.extract (.t 11) 0)), none⟩, ⟨(some 15), (.op (.extract (.t 11) 1)), none⟩, ⟨(some 16), (.op (.extract (.t 11) 2)), none⟩, ⟨(some 5), (.op (.alloc 26 [(.int .u8 0), (.int .i64 0), (.int .u64 0)])), none⟩, ⟨none, (.op (.store 3 (.t 5) (.t 14))), none⟩, ⟨(some 6), (.op (.mv (.t 15))), none⟩, ⟨(some 7), (.op (.mv (.t 16))), none⟩])
   (.seq (.seq (.reg [⟨(some 17), (.op (.mv (.t 7))), none⟩, ⟨(some 18), (.op (.un .not (.t 17))), none⟩])
   (.cond (.t 18) (.seq (.reg [⟨(some 2), (.op (.mv (.k (.slice none 0 0)))), none⟩, ⟨(some 3), (.op (.mv (.k (.int .i64 3)))), none⟩])
   .ret)
   .skip))
   (.seq (.reg [⟨(some 19), (.op (.mv (.t 4))), none⟩, ⟨(some 20), (.op (.loadN 3 (.t 5))), none⟩, ⟨(some 21), (.op (.bslice 26 [(.int .u8 0), (.int .i64 0), (.int .u64 0)] 1 [(0, 3, (.t 20))])), none⟩, ⟨(some 22), (.op (.append 26 3 24 (.t 19) (.t 21))), none⟩, ⟨(some 4), (.op (.mv (.t 22))), none⟩])
   (.reg [⟨(some 23), (.op (.mv (.t 6))), none⟩, ⟨(some 0), (.op (.mv (.t 23))), none⟩]))))))))
  (.seq (.reg [⟨(some 24), (.op (.mv (.t 4))), none⟩, ⟨(some 2), (.op (.mv (.t 24))), none⟩, ⟨(some 3), (.op (.mv (.k (.int .i64 0)))), none⟩])
  .ret))))
def a13 : AF := ⟨25, [(.t 2), (.t 3)], .code b13, none⟩
theorem ok13 : AFOk Tryd.prog ext 13 a13 := .of Tryd.func13 (by kernel_rfl) (by kernel_rfl) (by kernel_rfl) (by kernel_rfl)
/-! 14: rowlock/rowlockref14.Same -/
def b14 : AC :=
  (.seq (.reg [⟨(some 4), (.op (.mv (.k (.bool false)))), none⟩])
  (.seq (.seq (.reg [⟨(some 6), (.op (.mv (.t 0))), none⟩, ⟨(some 7), (.op (.lenS (.t 6))), none⟩, ⟨(some 8), (.op (.mv (.t 1))), none⟩, ⟨(some 9), (.op (.lenS (.t 8))), none⟩, ⟨(some 10), (.op (.bin .neq (.t 7) (.t 9))), none⟩])
  (.cond (.t 10) (.seq (.reg [⟨(some 4), (.op (.mv (.k (.bool false)))), none⟩])
  .ret)
  .skip))
  (.seq (.seq (.reg [⟨(some 5), (.op (.mv (.k (.int .i64 0)))), none⟩])
  (.block 0 (.loop (.seq (.seq (.reg [⟨(some 11), (.op (.mv (.t 5))), none⟩, ⟨(some 12), (.op (.mv (.t 0))), none⟩, ⟨(some 13), (.op (.lenS (.t 12))), none⟩, ⟨(some 14), (.op (.bin .lss (.t 11) (.t 13))), none⟩])
   (.cond (.t 14) .skip
   (.exit 0)))
   (.seq (.block 1 (.seq (.dreg (.quiet ⟨(some 17), (.op (.mv (.t 0))), none⟩ (.quiet ⟨(some 18), (.op (.mv (.t 5))), none⟩ (.quiet ⟨(some 19), (.op (.iaddrS 3 (.t 17) (.t 18))), none⟩ (.quiet ⟨(some 20), (.op (.loadN 3 (.t 19))), none⟩ (.quiet ⟨(some 21), (.op (.mv (.t 1))), none⟩ (.quiet ⟨(some 22), (.op (.mv (.t 5))), none⟩ (.quiet ⟨(some 23), (.op (.iaddrS 3 (.t 21) (.t 22))), none⟩ (.quiet ⟨(some 24), (.op (.loadN 3 (.t 23))), none⟩ (.quiet ⟨(some 25), (.op (.eq true (.st [(0, 1, false, .int), (1, 1, false, .int), (2, 1, false, .int)]) (.t 20) (.t 24))), none⟩ .nil))))))))))
   (.cond (.t 25) (.seq (.reg [⟨(some 4), (.op (.mv (.k (.bool false)))), none⟩])
   .ret)
   .skip)))
   (.reg [⟨(some 15), (.op (.mv (.t 5))), none⟩, ⟨(some 16), (.op (.bin .add (.t 15) (.k (.int .i64 1)))), none⟩, ⟨(some 5), (.op (.mv (.t 16))), none⟩]))))))
  (.seq (.reg [⟨(some 4), (.op (.mv (.k (.bool true)))), none⟩])
  .ret))))
def a14 : AF := ⟨26, [(.t 4)], .code b14, none⟩
theorem ok14 : AFOk Tryd.prog ext 14 a14 := .of Tryd.func14 (by kernel_rfl) (by kernel_rfl) (by kernel_rfl) (by kernel_rfl)
/-! 15: rowlock/code.Right -/
def b15 : AC :=
  (.seq (.reg [⟨(some 1), (.op (.box 26 (.t 0))), none⟩, ⟨(some 2), (.op (.mv (.k (.bool false)))), none⟩])
  (.seq (.reg [⟨(some 4), (.op (.faddr 0 (.t 1))), none⟩, ⟨(some 5), (.op (.load (.t 4))), none⟩, ⟨(some 6), (.call (.f 16) [(.t 5)]), none⟩, ⟨(some 3), (.op (.alloc 46 [(.string ⟨#[]⟩), (.bool false), (.bool false), (.int .i64 0), (.int .i64 0)])), none⟩, ⟨none, (.op (.store 5 (.t 3) (.t 6))), none⟩])
  (.seq (.block 0 (.seq (.reg [⟨(some 8), (.op (.faddr 0 (.t 3))), none⟩, ⟨(some 9), (.op (.load (.t 8))), none⟩, ⟨(some 10), (.op (.bin .eql (.t 9) (.k (.string ⟨#[]⟩)))), none⟩, ⟨(some 7), (.op (.mv (.t 10))), none⟩])
  (.cond (.t 7) (.seq (.reg [⟨(some 2), (.op (.mv (.k (.bool false)))), none⟩])
  .ret)
  (.seq (.seq (.reg [⟨(some 12), (.op (.faddr 1 (.t 3))), none⟩, ⟨(some 13), (.op (.load (.t 12))), none⟩, ⟨(some 14), (.op (.un .not (.t 13))), none⟩, ⟨(some 15), (.op (.mv (.t 14))), none⟩, ⟨(some 16), (.op (.faddr 1 (.t 1))), (some (15, true))⟩, ⟨(some 17), (.op (.load (.t 16))), (some (15, true))⟩, ⟨(some 18), (.op (.bin .neq (.t 17) (.k (.int .i64 0)))), (some (15, true))⟩, ⟨(some 19), (.op (.pick (.t 15) (.t 18) (.k (.bool false)))), none⟩, ⟨(some 11), (.op (.mv (.t 19))), none⟩])
  (.cond (.t 11) .skip
  (.reg [⟨(some 20), (.op (.faddr 2 (.t 3))), none⟩, ⟨(some 21), (.op (.load (.t 20))), none⟩, ⟨(some 22), (.op (.un .not (.t 21))), none⟩, ⟨(some 23), (.op (.mv (.t 22))), none⟩, ⟨(some 24), (.op (.faddr 2 (.t 1))), (some (23, true))⟩, ⟨(some 25), (.op (.load (.t 24))), (some (23, true))⟩, ⟨(some 26), (.op (.bin .neq (.t 25) (.k (.int .u64 0)))), (some (23, true))⟩, ⟨(some 27), (.op (.pick (.t 23) (.t 26) (.k (.bool false)))), none⟩, ⟨(some 11), (.op (.mv (.t 27))), none⟩])))
  (.cond (.t 11) (.seq (.reg [⟨(some 2), (.op (.mv (.k (.bool false)))), none⟩])
  .ret)
  .skip)))))
  (.seq (.dreg (.quiet ⟨(some 28), (.op (.faddr 1 (.t 1))), none⟩ (.quiet ⟨(some 29), (.op (.load (.t 28))), none⟩ (.quiet ⟨(some 30), (.op (.bin .geq (.t 29) (.k (.int .i64 0)))), none⟩ (.quiet ⟨(some 31), (.op (.mv (.t 30))), none⟩ (.quiet ⟨(some 32), (.op (.faddr 1 (.t 1))), (some (31, true))⟩ (.quiet ⟨(some 33), (.op (.load (.t 32))), (some (31, true))⟩ (.quiet ⟨(some 34), (.op (.faddr 0 (.t 1))), (some (31, true))⟩ (.quiet ⟨(some 35), (.op (.load (.t 34))), (some (31, true))⟩ (.loud ⟨(some 36), (.call (.f 33) [(.t 35)]), (some (31, true))⟩ [⟨(some 33), (.op (.load (.t 32))), (some (31, true))⟩] (.quiet ⟨(some 37), (.op (.bin .lss (.t 33) (.t 36))), (some (31, true))⟩ (.quiet ⟨(some 38), (.op (.pick (.t 31) (.t 37) (.k (.bool false)))), none⟩ (.quiet ⟨(some 39), (.op (.mv (.t 38))), none⟩ (.quiet ⟨(some 40), (.op (.faddr 2 (.t 1))), (some (39, true))⟩ (.quiet ⟨(some 41), (.op (.load (.t 40))), (some (39, true))⟩ (.loud ⟨(some 42), (.call (.f 34) [(.t 41)]), (some (39, true))⟩ [] (.quiet ⟨(some 43), (.op (.pick (.t 39) (.t 42) (.k (.bool false)))), none⟩ (.loud ⟨(some 2), (.op (.mv (.t 43))), none⟩ [] .nil))))))))))))))))))
  .ret))))
def a15 : AF := ⟨44, [(.t 2)], .code b15, none⟩
theorem ok15 : AFOk Tryd.prog ext 15 a15 := .of Tryd.func15 (by kernel_rfl) (by kernel_rfl) (by kernel_rfl) (by kernel_rfl)
/-! 16: rowlock/code.of -/
def b16 : AC :=
  (.seq (.reg [⟨(some 2), (.op (.alloc 46 [(.string ⟨#[]⟩), (.bool false), (.bool false), (.int .i64 0), (.int .i64 0)])), none⟩])
  (.seq (.reg [⟨(some 4), (.op (.build [(.string ⟨#[]⟩), (.bool false), (.bool false), (.int .i64 0), (.int .i64 0)] [(0, 1, (.k (.string ⟨#[110, 111, 112]⟩)))])), none⟩, ⟨(some 5), (.op (.build [(.string ⟨#[]⟩), (.bool false), (.bool false), (.int .i64 0), (.int .i64 0)] [(0, 1, (.k (.string ⟨#[112, 117, 115, 104]⟩))), (2, 1, (.k (.bool true))), (4, 1, (.k (.int .i64 1)))])), none⟩, ⟨(some 6), (.op (.build [(.string ⟨#[]⟩), (.bool false), (.bool false), (.int .i64 0), (.int .i64 0)] [(0, 1, (.k (.string ⟨#[108, 111, 99, 97, 108]⟩))), (1, 1, (.k (.bool true))), (4, 1, (.k (.int .i64 1)))])), none⟩, ⟨(some 7), (.op (.build [(.string ⟨#[]⟩), (.bool false), (.bool false), (.int .i64 0), (.int .i64 0)] [(0, 1, (.k (.string ⟨#[115, 101, 116]⟩))), (1, 1, (.k (.bool true))), (3, 1, (.k (.int .i64 1)))])), none⟩, ⟨(some 8), (.op (.build [(.string ⟨#[]⟩), (.bool false), (.bool false), (.int .i64 0), (.int .i64 0)] [(0, 1, (.k (.string ⟨#[103, 101, 116]⟩))), (1, 1, (.k (.bool true))), (4, 1, (.k (.int .i64 1)))])), none⟩, ⟨(some 9), (.op (.build [(.string ⟨#[]⟩), (.bool false), (.bool false), (.int .i64 0), (.int .i64 0)] [(0, 1, (.k (.string ⟨#[112, 117, 116]⟩))), (1, 1, (.k (.bool true))), (3, 1, (.k (.int .i64 1)))])), none⟩, ⟨(some 10), (.op (.build [(.string ⟨#[]⟩), (.bool false), (.bool false), (.int .i64 0), (.int .i64 0)] [(0, 1, (.k (.string ⟨#[103, 101, 116, 97, 116]⟩))), (1, 1, (.k (.bool true))), (3, 1, (.k (.int .i64 1))), (4, 1, (.k (.int .i64 1)))])), none⟩, ⟨(some 11), (.op (.build [(.string ⟨#[]⟩), (.bool false), (.bool false), (.int .i64 0), (.int .i64 0)] [(0, 1, (.k (.string ⟨#[112, 117, 116, 97, 116]⟩))), (1, 1, (.k (.bool true))), (3, 1, (.k (.int .i64 2)))])), none⟩, ⟨(some 12), (.op (.build [(.string ⟨#[]⟩), (.bool false), (.bool false), (.int .i64 0), (.int .i64 0)] [(0, 1, (.k (.string ⟨#[97, 100, 100]⟩))), (3, 1, (.k (.int .i64 2))), (4, 1, (.k (.int .i64 1)))])), none⟩, ⟨(some 13), (.op (.build [(.string ⟨#[]⟩), (.bool false), (.bool false), (.int .i64 0), (.int .i64 0)] [(0, 1, (.k (.string ⟨#[115, 117, 98]⟩))), (3, 1, (.k (.int .i64 2))), (4, 1, (.k (.int .i64 1)))])), none⟩, ⟨(some 14), (.op (.build [(.string ⟨#[]⟩), (.bool false), (.bool false), (.int .i64 0), (.int .i64 0)] [(0, 1, (.k (.string ⟨#[109, 117, 108]⟩))), (3, 1, (.k (.int .i64 2))), (4, 1, (.k (.int .i64 1)))])), none⟩, ⟨(some 15), (.op (.build [(.string ⟨#[]⟩), (.bool false), (.bool false), (.int .i64 0), (.int .i64 0)] [(0, 1, (.k (.string ⟨#[100, 105, 118]⟩))), (3, 1, (.k (.int .i64 2))), (4, 1, (.k (.int .i64 1)))])), none⟩, ⟨(some 16), (.op (.build [(.string ⟨#[]⟩), (.bool false), (.bool false), (.int .i64 0), (.int .i64 0)] [(0, 1, (.k (.string ⟨#[110, 101, 103]⟩))), (3, 1, (.k (.int .i64 1))), (4, 1, (.k (.int .i64 1)))])), none⟩, ⟨(some 17), (.op (.build [(.string ⟨#[]⟩), (.bool false), (.bool false), (.int .i64 0), (.int .i64 0)] [(0, 1, (.k (.string ⟨#[108, 101, 115, 115]⟩))), (3, 1, (.k (.int .i64 2))), (4, 1, (.k (.int .i64 1)))])), none⟩, ⟨(some 18), (.op (.build [(.string ⟨#[]⟩), (.bool false), (.bool false), (.int .i64 0), (.int .i64 0)] [(0, 1, (.k (.string ⟨#[115, 97, 109, 101]⟩))), (3, 1, (.k (.int .i64 2))), (4, 1, (.k (.int .i64 1)))])), none⟩, ⟨(some 19), (.op (.build [(.string ⟨#[]⟩), (.bool false), (.bool false), (.int .i64 0), (.int .i64 0)] [(0, 1, (.k (.string ⟨#[110, 111, 116]⟩))), (3, 1, (.k (.int .i64 1))), (4, 1, (.k (.int .i64 1)))])), none⟩, ⟨(some 20), (.op (.build [(.string ⟨#[]⟩), (.bool false), (.bool false), (.int .i64 0), (.int .i64 0)] [(0, 1, (.k (.string ⟨#[100, 117, 112]⟩))), (3, 1, (.k (.int .i64 1))), (4, 1, (.k (.int .i64 2)))])), none⟩, ⟨(some 21), (.op (.build [(.string ⟨#[]⟩), (.bool false), (.bool false), (.int .i64 0), (.int .i64 0)] [(0, 1, (.k (.string ⟨#[112, 111, 112]⟩))), (3, 1, (.k (.int .i64 1)))])), none⟩, ⟨(some 22), (.op (.build [(.string ⟨#[]⟩), (.bool false), (.bool false), (.int .i64 0), (.int .i64 0)] [(0, 1, (.k (.string ⟨#[115, 119, 97, 112]⟩))), (3, 1, (.k (.int .i64 2))), (4, 1, (.k (.int .i64 2)))])), none⟩, ⟨(some 23), (.op (.build [(.string ⟨#[]⟩), (.bool false), (.bool false), (.int .i64 0), (.int .i64 0)] [(0, 1, (.k (.string ⟨#[106, 117, 109, 112]⟩))), (1, 1, (.k (.bool true)))])), none⟩, ⟨(some 24), (.op (.build [(.string ⟨#[]⟩), (.bool false), (.bool false), (.int .i64 0), (.int .i64 0)] [(0, 1, (.k (.string ⟨#[122, 101, 114, 111]⟩))), (1, 1, (.k (.bool true))), (3, 1, (.k (.int .i64 1)))])), none⟩, ⟨(some 25), (.op (.build [(.string ⟨#[]⟩), (.bool false), (.bool false), (.int .i64 0), (.int .i64 0)] [(0, 1, (.k (.string ⟨#[97, 116, 111, 109, 105, 99]⟩))), (1, 1, (.k (.bool true)))])), none⟩, ⟨(some 26), (.op (.build [(.string ⟨#[]⟩), (.bool false), (.bool false), (.int .i64 0), (.int .i64 0)] [(0, 1, (.k (.string ⟨#[101, 110, 100]⟩)))])), none⟩, ⟨(some 27), (.op (.build [(.string ⟨#[]⟩), (.bool false), (.bool false), (.int .i64 0), (.int .i64 0)] [(0, 1, (.k (.string ⟨#[111, 114, 101, 108, 115, 101]⟩))), (1, 1, (.k (.bool true)))])), none⟩, ⟨(some 28), (.op (.build [(.string ⟨#[]⟩), (.bool false), (.bool false), (.int .i64 0), (.int .i64 0)] [(0, 1, (.k (.string ⟨#[101, 108, 115, 101]⟩))), (1, 1, (.k (.bool true)))])), none⟩, ⟨(some 29), (.op (.build [(.string ⟨#[]⟩), (.bool false), (.bool false), (.int .i64 0), (.int .i64 0)] [(0, 1, (.k (.string ⟨#[101, 110, 100, 111, 114]⟩)))])), none⟩, ⟨(some 30), (.op (.build [(.string ⟨#[]⟩), (.bool false), (.bool false), (.int .i64 0), (.int .i64 0)] [(0, 1, (.k (.string ⟨#[114, 101, 116, 114, 121]⟩)))])), none⟩, ⟨(some 31), (.op (.build [(.string ⟨#[]⟩), (.bool false), (.bool false), (.int .i64 0), (.int .i64 0)] [(0, 1, (.k (.string ⟨#[111, 117, 116]⟩))), (3, 1, (.k (.int .i64 1)))])), none⟩, ⟨(some 32), (.op (.build [(.string ⟨#[]⟩), (.bool false), (.bool false), (.int .i64 0), (.int .i64 0)] [(0, 1, (.k (.string ⟨#[104, 97, 108, 116]⟩)))])), none⟩, ⟨(some 33), (.op (.build [(.string ⟨#[]⟩), (.bool false), (.bool false), (.int .i64 0), (.int .i64 0), (.string ⟨#[]⟩), (.bool false), (.bool false), (.int .i64 0), (.int .i64 0), (.string ⟨#[]⟩), (.bool false), (.bool false), (.int .i64 0), (.int .i64 0), (.string ⟨#[]⟩), (.bool false), (.bool false), (.int .i64 0), (.int .i64 0), (.string ⟨#[]⟩), (.bool false), (.bool false), (.int .i64 0), (.int .i64 0), (.string ⟨#[]⟩), (.bool false), (.bool false), (.int .i64 0), (.int .i64 0), (.string ⟨#[]⟩), (.bool false), (.bool false), (.int .i64 0), (.int .i64 0), (.string ⟨#[]⟩), (.bool false), (.bool false), (.int .i64 0), (.int .i64 0), (.string ⟨#[]⟩), (.bool false), (.bool false), (.int .i64 0), (.int .i64 0), (.string ⟨#[]⟩), (.bool false), (.bool false), (.int .i64 0), (.int .i64 0), (.string ⟨#[]⟩), (.bool false), (.bool false), (.int .i64 0), (.int .i64 0), (.string ⟨#[]⟩), (.bool false), (.bool false), (.int .i64 0), (.int .i64 0), (.string ⟨#[]⟩), (.bool false), (.bool false), (.int .i64 0), (.int .i64 0), (.string ⟨#[]⟩), (.bool false), (.bool false), (.int .i64 0), (.int .i64 0), (.string ⟨#[]⟩), (.bool false), (.bool false), (.int .i64 0), (.int .i64 0), (.string ⟨#[]⟩), (.bool false), (.bool false), (.int .i64 0), (.int .i64 0), (.string ⟨#[]⟩), (.bool false), (.bool false), (.int .i64 0), (.int .i64 0), (.string ⟨#[]⟩), (.bool false), (.bool false), (.int .i64 0), (.int .i64 0), (.string ⟨#[]⟩), (.bool false), (.bool false), (.int .i64 0), (.int .i64 0), (.string ⟨#[]⟩), (.bool false), (.bool false), (.int .i64 0), (.int .i64 0), (.string ⟨#[]⟩), (.bool false), (.bool false), (.int .i64 0), (.int .i64 0), (.string ⟨#[]⟩), (.bool false), (.bool false), (.int .i64 0), (.int .i64 0), (.string ⟨#[]⟩), (.bool false), (.bool false), (.int .i64 0), (.int .i64 0), (.string ⟨#[]⟩), (.bool false), (.bool false), (.int .i64 0), (.int .i64 0), (.string ⟨#[]⟩), (.bool false), (.bool false), (.int .i64 0), (.int .i64 0), (.string ⟨#[]⟩), (.bool false), (.bool false), (.int .i64 0), (.int .i64 0), (.string ⟨#[]⟩), (.bool false), (.bool false), (.int .i64 0), (.int .i64 0), (.string ⟨#[]⟩), (.bool false), (.bool false), (.int .i64 0), (.int .i64 0), (.string ⟨#[]⟩), (.bool false), (.bool false), (.int .i64 0), (.int .i64 0)] [(0, 5, (.t 4)), (5, 5, (.t 5)), (10, 5, (.t 6)), (15, 5, (.t 7)), (20, 5, (.t 8)), (25, 5, (.t 9)), (30, 5, (.t 10)), (35, 5, (.t 11)), (40, 5, (.t 12)), (45, 5, (.t 13)), (50, 5, (.t 14)), (55, 5, (.t 15)), (60, 5, (.t 16)), (65, 5, (.t 17)), (70, 5, (.t 18)), (75, 5, (.t 19)), (80, 5, (.t 20)), (85, 5, (.t 21)), (90, 5, (.t 22)), (95, 5, (.t 23)), (100, 5, (.t 24)), (105, 5, (.t 25)), (110, 5, (.t 26)), (115, 5, (.t 27)), (120, 5, (.t 28)), (125, 5, (.t 29)), (130, 5, (.t 30)), (135, 5, (.t 31)), (140, 5, (.t 32))])), none⟩, ⟨(some 3), (.op (.alloc 69 [(.string ⟨#[]⟩), (.bool false), (.bool false), (.int .i64 0), (.int .i64 0), (.string ⟨#[]⟩), (.bool false), (.bool false), (.int .i64 0), (.int .i64 0), (.string ⟨#[]⟩), (.bool false), (.bool false), (.int .i64 0), (.int .i64 0), (.string ⟨#[]⟩), (.bool false), (.bool false), (.int .i64 0), (.int .i64 0), (.string ⟨#[]⟩), (.bool false), (.bool false), (.int .i64 0), (.int .i64 0), (.string ⟨#[]⟩), (.bool false), (.bool false), (.int .i64 0), (.int .i64 0), (.string ⟨#[]⟩), (.bool false), (.bool false), (.int .i64 0), (.int .i64 0), (.string ⟨#[]⟩), (.bool false), (.bool false), (.int .i64 0), (.int .i64 0), (.string ⟨#[]⟩), (.bool false), (.bool false), (.int .i64 0), (.int .i64 0), (.string ⟨#[]⟩), (.bool false), (.bool false), (.int .i64 0), (.int .i64 0), (.string ⟨#[]⟩), (.bool false), (.bool false), (.int .i64 0), (.int .i64 0), (.string ⟨#[]⟩), (.bool false), (.bool false), (.int .i64 0), (.int .i64 0), (.string ⟨#[]⟩), (.bool false), (.bool false), (.int .i64 0), (.int .i64 0), (.string ⟨#[]⟩), (.bool false), (.bool false), (.int .i64 0), (.int .i64 0), (.string ⟨#[]⟩), (.bool false), (.bool false), (.int .i64 0), (.int .i64 0), (.string ⟨#[]⟩), (.bool false), (.bool false), (.int .i64 0), (.int .i64 0), (.string ⟨#[]⟩), (.bool false), (.bool false), (.int .i64 0), (.int .i64 0), (.string ⟨#[]⟩), (.bool false), (.bool false), (.int .i64 0), (.int .i64 0), (.string ⟨#[]⟩), (.bool false), (.bool false), (.int .i64 0), (.int .i64 0), (.string ⟨#[]⟩), (.bool false), (.bool false), (.int .i64 0), (.int .i64 0), (.string ⟨#[]⟩), (.bool false), (.bool false), (.int .i64 0), (.int .i64 0), (.string ⟨#[]⟩), (.bool false), (.bool false), (.int .i64 0), (.int .i64 0), (.string ⟨#[]⟩), (.bool false), (.bool false), (.int .i64 0), (.int .i64 0), (.string ⟨#[]⟩), (.bool false), (.bool false), (.int .i64 0), (.int .i64 0), (.string ⟨#[]⟩), (.bool false), (.bool false), (.int .i64 0), (.int .i64 0), (.string ⟨#[]⟩), (.bool false), (.bool false), (.int .i64 0), (.int .i64 0), (.string ⟨#[]⟩), (.bool false), (.bool false), (.int .i64 0), (.int .i64 0), (.string ⟨#[]⟩), (.bool false), (.bool false), (.int .i64 0), (.int .i64 0), (.string ⟨#[]⟩), (.bool false), (.bool false), (.int .i64 0), (.int .i64 0)])), none⟩, ⟨none, (.op (.store 145 (.t 3) (.t 33))), none⟩])
  (.seq (.seq (.reg [⟨(some 34), (.op (.mv (.t 0))), none⟩, ⟨(some 35), (.op (.conv (.int .i64) (.t 34))), none⟩, ⟨(some 36), (.op (.bin .geq (.t 35) (.k (.int .i64 29)))), none⟩])
  (.cond (.t 36) (.seq (.reg [⟨(some 37), (.op (.build [(.string ⟨#[]⟩), (.bool false), (.bool false), (.int .i64 0), (.int .i64 0)] [])), none⟩, ⟨none, (.op (.store 5 (.t 2) (.t 37))), none⟩])
  .ret)
  .skip))
  (.seq (.reg [⟨(some 38), (.op (.mv (.t 0))), none⟩, ⟨(some 39), (.op (.iaddrA 29 5 (.t 3) (.t 38))), none⟩, ⟨(some 40), (.op (.loadN 5 (.t 39))), none⟩, ⟨none, (.op (.store 5 (.t 2) (.t 40))), none⟩])
  .ret))))
def a16 : AF := ⟨41, [(.c 2 true 5)], .code b16, none⟩
theorem ok16 : AFOk Tryd.prog ext 16 a16 := .of Tryd.func16 (by kernel_rfl) (by kernel_rfl) (by kernel_rfl) (by kernel_rfl)
/-! 17: strconv.Itoa -/
def b17 : AC :=
  (.seq (.reg [⟨(some 2), (.op (.mv (.k (.string ⟨#[]⟩)))), none⟩])
  (.seq (.reg [⟨(some 3), (.op (.mv (.t 0))), none⟩, ⟨(some 4), (.call (.f 35) [(.t 3)]), none⟩, ⟨(some 2), (.op (.mv (.t 4))), none⟩])
  .ret))
def a17 : AF := ⟨5, [(.t 2)], .code b17, none⟩
theorem ok17 : AFOk Tryd.prog ext 17 a17 := .of Tryd.func17 (by kernel_rfl) (by kernel_rfl) (by kernel_rfl) (by kernel_rfl)
/-! 18: rowlock/value.Hex -/
def b18 : AC :=
  (.seq (.reg [⟨(some 2), (.op (.mv (.k (.string ⟨#[]⟩)))), none⟩])
  (.seq (.reg [⟨(some 5), (.op (.mv (.t 0))), none⟩, ⟨(some 6), (.call (.f 36) [(.t 5)]), none⟩, ⟨(some 0), (.op (.mv (.t 6))), none⟩])
  (.seq (.reg [⟨(some 3), (.op (.alloc 71 [(.int .u8 0), (.int .u8 0), (.int .u8 0), (.int .u8 0), (.int .u8 0), (.int .u8 0), (.int .u8 0), (.int .u8 0), (.int .u8 0), (.int .u8 0), (.int .u8 0), (.int .u8 0), (.int .u8 0), (.int .u8 0), (.int .u8 0), (.int .u8 0)])), none⟩])
  (.seq (.seq (.reg [⟨(some 7), (.op (.mv (.k (.int .i64 0)))), none⟩])
  (.block 0 (.loop (.seq (.reg [⟨(some 8), (.op (.bin .lss (.t 7) (.k (.int .i64 16)))), none⟩])
   (.seq (.cond (.t 8) .skip
   (.exit 0))
   (.seq (.block 1 (.seq (.reg [⟨(some 9), (.op (.mv (.t 7))), none⟩, ⟨(some 4), (.op (.mv (.t 9))), none⟩])
   (.reg [⟨(some 10), (.op (.mv (.t 4))), none⟩, ⟨(some 11), (.op (.mv (.t 0))), none⟩, ⟨(some 12), (.op (.mv (.t 4))), none⟩, ⟨(some 13), (.op (.bin .mul (.k (.int .i64 4)) (.t 12))), none⟩, ⟨(some 14), (.op (.bin .sub (.k (.int .i64 60)) (.t 13))), none⟩, ⟨(some 15), (.op (.bin .shr (.t 11) (.t 14))), none⟩, ⟨(some 16), (.op (.bin .and (.t 15) (.k (.int .u64 15)))), none⟩, ⟨(some 17), (.op (.indexS (.k (.string ⟨#[48, 49, 50, 51, 52, 53, 54, 55, 56, 57, 97, 98, 99, 100, 101, 102]⟩)) (.t 16))), none⟩, ⟨(some 18), (.op (.iaddrA 16 1 (.t 3) (.t 10))), none⟩, ⟨none, (.op (.store 1 (.t 18) (.t 17))), none⟩])))
   (.reg [⟨(some 19), (.op (.bin .add (.t 7) (.k (.int .i64 1)))), none⟩, ⟨(some 7), (.op (.mv (.t 19))), none⟩])))))))
  (.seq (.reg [⟨(some 20), (.op (.sliceA 16 1 (.t 3) none none)), none⟩, ⟨(some 21), (.op (.tostr (.t 20))), none⟩, ⟨(some 2), (.op (.mv (.t 21))), none⟩])
  .ret)))))
def a18 : AF := ⟨22, [(.t 2)], .code b18, none⟩
theorem ok18 : AFOk Tryd.prog ext 18 a18 := .of Tryd.func18 (by kernel_rfl) (by kernel_rfl) (by kernel_rfl) (by kernel_rfl)
/-! 19: strings.Join -/
def b19 : AC :=
  (.seq (.reg [⟨(some 4), (.op (.mv (.k (.string ⟨#[]⟩)))), none⟩])
  (.seq (.seq (.reg [⟨(some 11), (.op (.mv (.t 0))), none⟩, ⟨(some 12), (.op (.lenS (.t 11))), none⟩])
  (.block 0 (.seq (.reg [⟨(some 14), (.op (.bin .eql (.t 12) (.k (.int .i64 0)))), none⟩, ⟨(some 13), (.op (.mv (.t 14))), none⟩])
  (.cond (.t 13) (.seq (.reg [⟨(some 4), (.op (.mv (.k (.string ⟨#[]⟩)))), none⟩])
  .ret)
  (.seq (.reg [⟨(some 16), (.op (.bin .eql (.t 12) (.k (.int .i64 1)))), none⟩, ⟨(some 15), (.op (.mv (.t 16))), none⟩])
  (.cond (.t 15) (.seq (.reg [⟨(some 17), (.op (.mv (.t 0))), none⟩, ⟨(some 18), (.op (.iaddrS 1 (.t 17) (.k (.int .i64 0)))), none⟩, ⟨(some 19), (.op (.load (.t 18))), none⟩, ⟨(some 4), (.op (.mv (.t 19))), none⟩])
  .ret)
  .skip))))))
  (.seq (.reg [⟨(some 5), (.op (.mv (.k (.int .i64 0)))), none⟩])
  (.seq (.seq (.reg [⟨(some 20), (.op (.mv (.t 1))), none⟩, ⟨(some 21), (.op (.lenT (.t 20))), none⟩, ⟨(some 22), (.op (.bin .gtr (.t 21) (.k (.int .i64 0)))), none⟩])
  (.cond (.t 22) (.seq (.seq (.reg [⟨(some 23), (.op (.mv (.t 1))), none⟩, ⟨(some 24), (.op (.lenT (.t 23))), none⟩, ⟨(some 25), (.op (.mv (.t 0))), none⟩, ⟨(some 26), (.op (.lenS (.t 25))), none⟩, ⟨(some 27), (.op (.bin .sub (.t 26) (.k (.int .i64 1)))), none⟩, ⟨(some 28), (.op (.bin .quo (.k (.int .i64 9223372036854775807)) (.t 27))), none⟩, ⟨(some 29), (.op (.bin .geq (.t 24) (.t 28))), none⟩])
  (.cond (.t 29) (.reg [⟨(some 30), (.op (.mkiface 9 (.k (.string ⟨#[115, 116, 114, 105, 110, 103, 115, 58, 32, 74, 111, 105, 110, 32, 111, 117, 116, 112, 117, 116, 32, 108, 101, 110, 103, 116, 104, 32, 111, 118, 101, 114, 102, 108, 111, 119]⟩)))), none⟩, ⟨none, (.panic (.t 30)), none⟩])
  .skip))
  (.reg [⟨(some 31), (.op (.mv (.t 5))), none⟩, ⟨(some 32), (.op (.mv (.t 1))), none⟩, ⟨(some 33), (.op (.lenT (.t 32))), none⟩, ⟨(some 34), (.op (.mv (.t 0))), none⟩, ⟨(some 35), (.op (.lenS (.t 34))), none⟩, ⟨(some 36), (.op (.bin .sub (.t 35) (.k (.int .i64 1)))), none⟩, ⟨(some 37), (.op (.bin .mul (.t 33) (.t 36))), none⟩, ⟨(some 38), (.op (.bin .add (.t 31) (.t 37))), none⟩, ⟨(some 5), (.op (.mv (.t 38))), none⟩]))
  .skip))
  (.seq (.seq (.reg [⟨(some 39), (.op (.mv (.t 0))), none⟩, ⟨(some 40), (.op (.lenS (.t 39))), none⟩, ⟨(some 41), (.op (.mv (.k (.int .i64 0)))), none⟩])
  (.block 1 (.loop (.seq (.reg [⟨(some 42), (.op (.bin .lss (.t 41) (.t 40))), none⟩])
   (.seq (.cond (.t 42) .skip
   (.exit 1))
   (.seq (.block 2 (.seq (.reg [⟨(some 43), (.op (.iaddrS 1 (.t 39) (.t 41))), none⟩, ⟨(some 44), (.op (.load (.t 43))), none⟩, ⟨(some 7), (.op (.mv (.t 44))), none⟩])
   (.seq (.seq (.reg [⟨(some 45), (.op (.mv (.t 7))), none⟩, ⟨(some 46), (.op (.lenT (.t 45))), none⟩, ⟨(some 47), (.op (.mv (.t 5))), none⟩, ⟨(some 48), (.op (.bin .sub (.k (.int .i64 9223372036854775807)) (.t 47))), none⟩, ⟨(some 49), (.op (.bin .gtr (.t 46) (.t 48))), none⟩])
   (.cond (.t 49) (.reg [⟨(some 50), (.op (.mkiface 9 (.k (.string ⟨#[115, 116, 114, 105, 110, 103, 115, 58, 32, 74, 111, 105, 110, 32, 111, 117, 116, 112, 117, 116, 32, 108, 101, 110, 103, 116, 104, 32, 111, 118, 101, 114, 102, 108, 111, 119]⟩)))), none⟩, ⟨none, (.panic (.t 50)), none⟩])
   .skip))
   (.reg [⟨(some 51), (.op (.mv (.t 5))), none⟩, ⟨(some 52), (.op (.mv (.t 7))), none⟩, ⟨(some 53), (.op (.lenT (.t 52))), none⟩, ⟨(some 54), (.op (.bin .add (.t 51) (.t 53))), none⟩, ⟨(some 5), (.op (.mv (.t 54))), none⟩]))))
   (.reg [⟨(some 55), (.op (.bin .add (.t 41) (.k (.int .i64 1)))), none⟩, ⟨(some 41), (.op (.mv (.t 55))), none⟩])))))))
  (.seq (.reg [⟨(some 8), (.op (.alloc 74 [(.pointer none), (.slice none 0 0)])), none⟩])
  (.seq (.reg [⟨(some 56), (.op (.mv (.t 5))), none⟩, ⟨(some 57), (.call (.f 37) [(.t 8), (.t 56)]), none⟩])
  (.seq (.reg [⟨(some 58), (.op (.mv (.t 0))), none⟩, ⟨(some 59), (.op (.iaddrS 1 (.t 58) (.k (.int .i64 0)))), none⟩, ⟨(some 60), (.op (.load (.t 59))), none⟩, ⟨(some 61), (.call (.f 38) [(.t 8), (.t 60)]), none⟩])
  (.seq (.seq (.reg [⟨(some 62), (.op (.mv (.t 0))), none⟩, ⟨(some 63), (.op (.slice 1 (.t 62) (some (.k (.int .i64 1))) none none)), none⟩, ⟨(some 64), (.op (.lenS (.t 63))), none⟩, ⟨(some 65), (.op (.mv (.k (.int .i64 0)))), none⟩])
  (.block 3 (.loop (.seq (.reg [⟨(some 66), (.op (.bin .lss (.t 65) (.t 64))), none⟩])
   (.seq (.cond (.t 66) .skip
   (.exit 3))
   (.seq (.block 4 (.seq (.reg [⟨(some 67), (.op (.iaddrS 1 (.t 63) (.t 65))), none⟩, ⟨(some 68), (.op (.load (.t 67))), none⟩, ⟨(some 10), (.op (.mv (.t 68))), none⟩])
   (.seq (.reg [⟨(some 69), (.op (.mv (.t 1))), none⟩, ⟨(some 70), (.call (.f 38) [(.t 8), (.t 69)]), none⟩])
   (.reg [⟨(some 71), (.op (.mv (.t 10))), none⟩, ⟨(some 72), (.call (.f 38) [(.t 8), (.t 71)]), none⟩]))))
   (.reg [⟨(some 73), (.op (.bin .add (.t 65) (.k (.int .i64 1)))), none⟩, ⟨(some 65), (.op (.mv (.t 73))), none⟩])))))))
  (.seq (.reg [⟨(some 74), (.call (.f 39) [(.t 8)]), none⟩, ⟨(some 4), (.op (.mv (.t 74))), none⟩])
  .ret))))))))))
def a19 : AF := ⟨75, [(.t 4)], .code b19, none⟩
theorem ok19 : AFOk Tryd.prog ext 19 a19 := .of Tryd.func19 (by kernel_rfl) (by kernel_rfl) (by kernel_rfl) (by kernel_rfl)
/-! 20: rowlock/rowlockref14.Right -/
def b20 : AC :=
  (.seq (.reg [⟨(some 1), (.op (.box 26 (.t 0))), none⟩, ⟨(some 2), (.op (.mv (.k (.bool false)))), none⟩])
  (.seq (.reg [⟨(some 6), (.op (.faddr 0 (.t 1))), none⟩, ⟨(some 7), (.op (.load (.t 6))), none⟩, ⟨(some 8), (.call (.f 21) [(.t 7)]), none⟩, ⟨(some 5), (.op (.mv (.t 8))), none⟩, ⟨(some 9), (.op (.extract (.t 5) 0)), none⟩, ⟨(some 10), (.op (.extract (.t 5) 1)), none⟩, ⟨(some 3), (.op (.mv (.t 9))), none⟩, ⟨(some 4), (.op (.mv (.t 10))), none⟩])
  (.seq (.dreg (.quiet ⟨(some 11), (.op (.faddr 0 (.t 1))), none⟩ (.quiet ⟨(some 12), (.op (.load (.t 11))), none⟩ (.quiet ⟨(some 13), (.op (.bin .leq (.t 12) (.k (.int .u8 28)))), none⟩ (.quiet ⟨(some 14), (.op (.mv (.t 13))), none⟩ (.quiet ⟨(some 15), (.op (.mv (.t 3))), (some (14, true))⟩ (.quiet ⟨(some 16), (.op (.mv (.t 15))), (some (14, true))⟩ (.quiet ⟨(some 17), (.op (.faddr 1 (.t 1))), (some (16, false))⟩ (.quiet ⟨(some 18), (.op (.load (.t 17))), (some (16, false))⟩ (.quiet ⟨(some 19), (.op (.bin .eql (.t 18) (.k (.int .i64 0)))), (some (16, false))⟩ (.quiet ⟨(some 20), (.op (.pick (.t 16) (.k (.bool true)) (.t 19))), (some (14, true))⟩ (.quiet ⟨(some 21), (.op (.pick (.t 14) (.t 20) (.k (.bool false)))), none⟩ (.quiet ⟨(some 22), (.op (.mv (.t 21))), none⟩ (.quiet ⟨(some 23), (.op (.mv (.t 4))), (some (22, true))⟩ (.quiet ⟨(some 24), (.op (.mv (.t 23))), (some (22, true))⟩ (.quiet ⟨(some 25), (.op (.faddr 2 (.t 1))), (some (24, false))⟩ (.quiet ⟨(some 26), (.op (.load (.t 25))), (some (24, false))⟩ (.quiet ⟨(some 27), (.op (.bin .eql (.t 26) (.k (.int .u64 0)))), (some (24, false))⟩ (.quiet ⟨(some 28), (.op (.pick (.t 24) (.k (.bool true)) (.t 27))), (some (22, true))⟩ (.quiet ⟨(some 29), (.op (.pick (.t 22) (.t 28) (.k (.bool false)))), none⟩ (.quiet ⟨(some 30), (.op (.mv (.t 29))), none⟩ (.quiet ⟨(some 31), (.op (.faddr 1 (.t 1))), (some (30, true))⟩ (.quiet ⟨(some 32), (.op (.load (.t 31))), (some (30, true))⟩ (.quiet ⟨(some 33), (.op (.bin .geq (.t 32) (.k (.int .i64 0)))), (some (30, true))⟩ (.quiet ⟨(some 34), (.op (.pick (.t 30) (.t 33) (.k (.bool false)))), none⟩ (.quiet ⟨(some 35), (.op (.mv (.t 34))), none⟩ (.quiet ⟨(some 36), (.op (.faddr 1 (.t 1))), (some (35, true))⟩ (.quiet ⟨(some 37), (.op (.load (.t 36))), (some (35, true))⟩ (.quiet ⟨(some 38), (.op (.faddr 0 (.t 1))), (some (35, true))⟩ (.quiet ⟨(some 39), (.op (.load (.t 38))), (some (35, true))⟩ (.loud ⟨(some 40), (.call (.f 40) [(.t 39)]), (some (35, true))⟩ [⟨(some 37), (.op (.load (.t 36))), (some (35, true))⟩] (.quiet ⟨(some 41), (.op (.bin .lss (.t 37) (.t 40))), (some (35, true))⟩ (.quiet ⟨(some 42), (.op (.pick (.t 35) (.t 41) (.k (.bool false)))), none⟩ (.quiet ⟨(some 43), (.op (.mv (.t 42))), none⟩ (.quiet ⟨(some 44), (.op (.faddr 2 (.t 1))), (some (43, true))⟩ (.quiet ⟨(some 45), (.op (.load (.t 44))), (some (43, true))⟩ (.loud ⟨(some 46), (.call (.f 41) [(.t 45)]), (some (43, true))⟩ [] (.quiet ⟨(some 47), (.op (.pick (.t 43) (.t 46) (.k (.bool false)))), none⟩ (.loud ⟨(some 2), (.op (.mv (.t 47))), none⟩ [] .nil)))))))))))))))))))))))))))))))))))))))
  .ret)))
def a20 : AF := ⟨48, [(.t 2)], .code b20, none⟩
theorem ok20 : AFOk Tryd.prog ext 20 a20 := .of Tryd.func20 (by kernel_rfl) (by kernel_rfl) (by kernel_rfl) (by kernel_rfl)
/-! 21: rowlock/rowlockref14.Uses -/
def b21 : AC :=
  (.seq (.reg [⟨(some 2), (.op (.mv (.k (.bool false)))), none⟩, ⟨(some 3), (.op (.mv (.k (.bool false)))), none⟩])
  (.seq (.seq (.reg [⟨(some 4), (.op (.mv (.t 0))), none⟩])
  (.block 0 (.seq (.seq (.reg [⟨(some 6), (.op (.bin .eql (.t 4) (.k (.int .u8 2)))), none⟩, ⟨(some 5), (.op (.mv (.t 6))), none⟩])
  (.cond (.t 5) .skip
  (.seq (.reg [⟨(some 7), (.op (.bin .eql (.t 4) (.k (.int .u8 3)))), none⟩, ⟨(some 5), (.op (.mv (.t 7))), none⟩])
  (.cond (.t 5) .skip
  (.seq (.reg [⟨(some 8), (.op (.bin .eql (.t 4) (.k (.int .u8 4)))), none⟩, ⟨(some 5), (.op (.mv (.t 8))), none⟩])
  (.cond (.t 5) .skip
  (.seq (.reg [⟨(some 9), (.op (.bin .eql (.t 4) (.k (.int .u8 5)))), none⟩, ⟨(some 5), (.op (.mv (.t 9))), none⟩])
  (.cond (.t 5) .skip
  (.seq (.reg [⟨(some 10), (.op (.bin .eql (.t 4) (.k (.int .u8 6)))), none⟩, ⟨(some 5), (.op (.mv (.t 10))), none⟩])
  (.cond (.t 5) .skip
  (.seq (.reg [⟨(some 11), (.op (.bin .eql (.t 4) (.k (.int .u8 7)))), none⟩, ⟨(some 5), (.op (.mv (.t 11))), none⟩])
  (.cond (.t 5) .skip
  (.seq (.reg [⟨(some 12), (.op (.bin .eql (.t 4) (.k (.int .u8 19)))), none⟩, ⟨(some 5), (.op (.mv (.t 12))), none⟩])
  (.cond (.t 5) .skip
  (.seq (.reg [⟨(some 13), (.op (.bin .eql (.t 4) (.k (.int .u8 20)))), none⟩, ⟨(some 5), (.op (.mv (.t 13))), none⟩])
  (.cond (.t 5) .skip
  (.seq (.reg [⟨(some 14), (.op (.bin .eql (.t 4) (.k (.int .u8 21)))), none⟩, ⟨(some 5), (.op (.mv (.t 14))), none⟩])
  (.cond (.t 5) .skip
  (.seq (.reg [⟨(some 15), (.op (.bin .eql (.t 4) (.k (.int .u8 23)))), none⟩, ⟨(some 5), (.op (.mv (.t 15))), none⟩])
  (.cond (.t 5) .skip
  (.reg [⟨(some 16), (.op (.bin .eql (.t 4) (.k (.int .u8 24)))), none⟩, ⟨(some 5), (.op (.mv (.t 16))), none⟩])))))))))))))))))))))
  (.cond (.t 5) (.seq (.reg [⟨(some 2), (.op (.mv (.k (.bool true)))), none⟩, ⟨(some 3), (.op (.mv (.k (.bool false)))), none⟩])
  .ret)
  (.seq (.reg [⟨(some 18), (.op (.bin .eql (.t 4) (.k (.int .u8 1)))), none⟩, ⟨(some 17), (.op (.mv (.t 18))), none⟩])
  (.cond (.t 17) (.seq (.reg [⟨(some 2), (.op (.mv (.k (.bool false)))), none⟩, ⟨(some 3), (.op (.mv (.k (.bool true)))), none⟩])
  .ret)
  .skip))))))
  (.seq (.reg [⟨(some 2), (.op (.mv (.k (.bool false)))), none⟩, ⟨(some 3), (.op (.mv (.k (.bool false)))), none⟩])
  .ret)))
def a21 : AF := ⟨19, [(.t 2), (.t 3)], .code b21, none⟩
theorem ok21 : AFOk Tryd.prog ext 21 a21 := .of Tryd.func21 (by kernel_rfl) (by kernel_rfl) (by kernel_rfl) (by kernel_rfl)
/-! 22: rowlock/rowlockref14.Word -/
def b22 : AC :=
  (.seq (.reg [⟨(some 2), (.op (.mv (.k (.string ⟨#[]⟩)))), none⟩])
  (.seq (.reg [⟨(some 4), (.op (.bslice 9 [(.string ⟨#[]⟩), (.string ⟨#[]⟩), (.string ⟨#[]⟩), (.string ⟨#[]⟩), (.string ⟨#[]⟩), (.string ⟨#[]⟩), (.string ⟨#[]⟩), (.string ⟨#[]⟩), (.string ⟨#[]⟩), (.string ⟨#[]⟩), (.string ⟨#[]⟩), (.string ⟨#[]⟩), (.string ⟨#[]⟩), (.string ⟨#[]⟩), (.string ⟨#[]⟩), (.string ⟨#[]⟩), (.string ⟨#[]⟩), (.string ⟨#[]⟩), (.string ⟨#[]⟩), (.string ⟨#[]⟩), (.string ⟨#[]⟩), (.string ⟨#[]⟩), (.string ⟨#[]⟩), (.string ⟨#[]⟩), (.string ⟨#[]⟩), (.string ⟨#[]⟩), (.string ⟨#[]⟩), (.string ⟨#[]⟩), (.string ⟨#[]⟩)] 29 [(0, 1, (.k (.string ⟨#[110, 111, 112]⟩))), (1, 1, (.k (.string ⟨#[112, 117, 115, 104]⟩))), (2, 1, (.k (.string ⟨#[108, 111, 99, 97, 108]⟩))), (3, 1, (.k (.string ⟨#[115, 101, 116]⟩))), (4, 1, (.k (.string ⟨#[103, 101, 116]⟩))), (5, 1, (.k (.string ⟨#[112, 117, 116]⟩))), (6, 1, (.k (.string ⟨#[103, 101, 116, 97, 116]⟩))), (7, 1, (.k (.string ⟨#[112, 117, 116, 97, 116]⟩))), (8, 1, (.k (.string ⟨#[97, 100, 100]⟩))), (9, 1, (.k (.string ⟨#[115, 117, 98]⟩))), (10, 1, (.k (.string ⟨#[109, 117, 108]⟩))), (11, 1, (.k (.string ⟨#[100, 105, 118]⟩))), (12, 1, (.k (.string ⟨#[110, 101, 103]⟩))), (13, 1, (.k (.string ⟨#[108, 101, 115, 115]⟩))), (14, 1, (.k (.string ⟨#[115, 97, 109, 101]⟩))), (15, 1, (.k (.string ⟨#[110, 111, 116]⟩))), (16, 1, (.k (.string ⟨#[100, 117, 112]⟩))), (17, 1, (.k (.string ⟨#[112, 111, 112]⟩))), (18, 1, (.k (.string ⟨#[115, 119, 97, 112]⟩))), (19, 1, (.k (.string ⟨#[106, 117, 109, 112]⟩))), (20, 1, (.k (.string ⟨#[122, 101, 114, 111]⟩))), (21, 1, (.k (.string ⟨#[97, 116, 111, 109, 105, 99]⟩))), (22, 1, (.k (.string ⟨#[101, 110, 100]⟩))), (23, 1, (.k (.string ⟨#[111, 114, 101, 108, 115, 101]⟩))), (24, 1, (.k (.string ⟨#[101, 108, 115, 101]⟩))), (25, 1, (.k (.string ⟨#[101, 110, 100, 111, 114]⟩))), (26, 1, (.k (.string ⟨#[114, 101, 116, 114, 121]⟩))), (27, 1, (.k (.string ⟨#[111, 117, 116]⟩))), (28, 1, (.k (.string ⟨#[104, 97, 108, 116]⟩)))])), none⟩, ⟨(some 3), (.op (.mv (.t 4))), none⟩])
  (.seq (.seq (.reg [⟨(some 5), (.op (.mv (.t 0))), none⟩, ⟨(some 6), (.op (.conv (.int .i64) (.t 5))), none⟩, ⟨(some 7), (.op (.mv (.t 3))), none⟩, ⟨(some 8), (.op (.lenS (.t 7))), none⟩, ⟨(some 9), (.op (.bin .geq (.t 6) (.t 8))), none⟩])
  (.cond (.t 9) (.seq (.reg [⟨(some 2), (.op (.mv (.k (.string ⟨#[]⟩)))), none⟩])
  .ret)
  .skip))
  (.seq (.reg [⟨(some 10), (.op (.mv (.t 3))), none⟩, ⟨(some 11), (.op (.mv (.t 0))), none⟩, ⟨(some 12), (.op (.iaddrS 1 (.t 10) (.t 11))), none⟩, ⟨(some 13), (.op (.load (.t 12))), none⟩, ⟨(some 2), (.op (.mv (.t 13))), none⟩])
  .ret))))
def a22 : AF := ⟨14, [(.t 2)], .code b22, none⟩
theorem ok22 : AFOk Tryd.prog ext 22 a22 := .of Tryd.func22 (by kernel_rfl) (by kernel_rfl) (by kernel_rfl) (by kernel_rfl)
/-! 23: rowlock/rowlockref14.Digits -/
def b23 : AC :=
  (.seq (.reg [⟨(some 2), (.op (.mv (.k (.string ⟨#[]⟩)))), none⟩])
  (.seq (.reg [⟨(some 3), (.op (.mv (.k (.string ⟨#[]⟩)))), none⟩])
  (.seq (.block 0 (.loop (.seq (.seq (.reg [⟨(some 4), (.op (.mv (.t 0))), none⟩, ⟨(some 5), (.op (.bin .gtr (.t 4) (.k (.int .i64 0)))), none⟩, ⟨(some 6), (.op (.mv (.t 5))), none⟩, ⟨(some 7), (.op (.mv (.t 3))), (some (6, false))⟩, ⟨(some 8), (.op (.bin .eql (.t 7) (.k (.string ⟨#[]⟩)))), (some (6, false))⟩, ⟨(some 9), (.op (.pick (.t 6) (.k (.bool true)) (.t 8))), none⟩])
   (.cond (.t 9) .skip
   (.exit 0)))
   (.block 1 (.seq (.reg [⟨(some 10), (.op (.mv (.t 0))), none⟩, ⟨(some 11), (.op (.bin .rem (.t 10) (.k (.int .i64 10)))), none⟩, ⟨(some 12), (.op (.mv (.t 0))), none⟩, ⟨(some 13), (.op (.bin .rem (.t 12) (.k (.int .i64 10)))), none⟩, ⟨(some 14), (.op (.bin .add (.t 13) (.k (.int .i64 1)))), none⟩, ⟨(some 15), (.op (.sliceS (.k (.string ⟨#[48, 49, 50, 51, 52, 53, 54, 55, 56, 57]⟩)) (some (.t 11)) (some (.t 14)))), none⟩, ⟨(some 16), (.op (.mv (.t 3))), none⟩, ⟨(some 17), (.op (.bin .add (.t 15) (.t 16))), none⟩, ⟨(some 3), (.op (.mv (.t 17))), none⟩])
   (.reg [⟨(some 18), (.op (.mv (.t 0))), none⟩, ⟨(some 19), (.op (.bin .quo (.t 18) (.k (.int .i64 10)))), none⟩, ⟨(some 0), (.op (.mv (.t 19))), none⟩]))))))
  (.seq (.reg [⟨(some 20), (.op (.mv (.t 3))), none⟩, ⟨(some 2), (.op (.mv (.t 20))), none⟩])
  .ret))))
def a23 : AF := ⟨21, [(.t 2)], .code b23, none⟩
theorem ok23 : AFOk Tryd.prog ext 23 a23 := .of Tryd.func23 (by kernel_rfl) (by kernel_rfl) (by kernel_rfl) (by kernel_rfl)
/-! 24: rowlock/rowlockref01.Hex -/
def b24 : AC :=
  (.seq (.reg [⟨(some 2), (.op (.mv (.k (.string ⟨#[]⟩)))), none⟩])
  (.seq (.reg [⟨(some 3), (.op (.mv (.k (.string ⟨#[]⟩)))), none⟩])
  (.seq (.seq (.reg [⟨(some 7), (.op (.mv (.t 0))), none⟩, ⟨(some 8), (.call (.f 42) [(.t 7)]), none⟩, ⟨(some 4), (.op (.mv (.t 8))), none⟩, ⟨(some 5), (.op (.mv (.k (.int .i64 0)))), none⟩])
  (.block 0 (.loop (.seq (.seq (.reg [⟨(some 9), (.op (.mv (.t 5))), none⟩, ⟨(some 10), (.op (.bin .lss (.t 9) (.k (.int .i64 16)))), none⟩])
   (.cond (.t 10) .skip
   (.exit 0)))
   (.seq (.block 1 (.seq (.reg [⟨(some 13), (.op (.mv (.t 4))), none⟩, ⟨(some 14), (.op (.bin .rem (.t 13) (.k (.int .u64 16)))), none⟩, ⟨(some 6), (.op (.mv (.t 14))), none⟩])
   (.seq (.reg [⟨(some 15), (.op (.mv (.t 6))), none⟩, ⟨(some 16), (.op (.mv (.t 6))), none⟩, ⟨(some 17), (.op (.bin .add (.t 16) (.k (.int .u64 1)))), none⟩, ⟨(some 18), (.op (.sliceS (.k (.string ⟨#[48, 49, 50, 51, 52, 53, 54, 55, 56, 57, 97, 98, 99, 100, 101, 102]⟩)) (some (.t 15)) (some (.t 17)))), none⟩, ⟨(some 19), (.op (.mv (.t 3))), none⟩, ⟨(some 20), (.op (.bin .add (.t 18) (.t 19))), none⟩, ⟨(some 3), (.op (.mv (.t 20))), none⟩])
   (.reg [⟨(some 21), (.op (.mv (.t 4))), none⟩, ⟨(some 22), (.op (.bin .quo (.t 21) (.k (.int .u64 16)))), none⟩, ⟨(some 4), (.op (.mv (.t 22))), none⟩]))))
   (.reg [⟨(some 11), (.op (.mv (.t 5))), none⟩, ⟨(some 12), (.op (.bin .add (.t 11) (.k (.int .i64 1)))), none⟩, ⟨(some 5), (.op (.mv (.t 12))), none⟩]))))))
  (.seq (.reg [⟨(some 23), (.op (.mv (.t 3))), none⟩, ⟨(some 2), (.op (.mv (.t 23))), none⟩])
  .ret))))
def a24 : AF := ⟨24, [(.t 2)], .code b24, none⟩
theorem ok24 : AFOk Tryd.prog ext 24 a24 := .of Tryd.func24 (by kernel_rfl) (by kernel_rfl) (by kernel_rfl) (by kernel_rfl)
/-! 25: strings.Cut -/
def b25 : AC :=
  (.seq (.reg [⟨(some 4), (.op (.mv (.k (.string ⟨#[]⟩)))), none⟩, ⟨(some 5), (.op (.mv (.k (.string ⟨#[]⟩)))), none⟩, ⟨(some 6), (.op (.mv (.k (.bool false)))), none⟩])
  (.seq (.reg [⟨(some 7), (.op (.mv (.t 0))), none⟩, ⟨(some 8), (.op (.mv (.t 1))), none⟩, ⟨(some 9), (.call (.f 43) [(.t 7), (.t 8)]), none⟩, ⟨(some 10), (.op (.extract (.t 9) 0)), none⟩, ⟨(some 11), (.op (.extract (.t 9) 1)), none⟩, ⟨(some 12), (.op (.extract (.t 9) 2)), none⟩, ⟨(some 4), (.op (.mv (.t 10))), none⟩, ⟨(some 5), (.op (.mv (.t 11))), none⟩, ⟨(some 6), (.op (.mv (.t 12))), none⟩])
  .ret))
def a25 : AF := ⟨13, [(.t 4), (.t 5), (.t 6)], .code b25, none⟩
theorem ok25 : AFOk Tryd.prog ext 25 a25 := .of Tryd.func25 (by kernel_rfl) (by kernel_rfl) (by kernel_rfl) (by kernel_rfl)
/-! 26: rowlock/code.ReadWord -/
def b26 : AC :=
  (.seq (.reg [⟨(some 2), (.op (.mv (.k (.int .u8 0)))), none⟩, ⟨(some 3), (.op (.mv (.k (.bool false)))), none⟩])
  (.seq (.reg [⟨(some 7), (.call (.f 44) []), none⟩, ⟨(some 8), (.op (.mv (.t 0))), none⟩, ⟨(some 9), (.op (.lookup true (.int .u8 0) true (.t 7) (.t 8))), none⟩, ⟨(some 6), (.op (.mv (.t 9))), none⟩, ⟨(some 10), (.op (.extract (.t 6) 0)), none⟩, ⟨(some 11), (.op (.extract (.t 6) 1)), none⟩, ⟨(some 4), (.op (.mv (.t 10))), none⟩, ⟨(some 5), (.op (.mv (.t 11))), none⟩])
  (.seq (.reg [⟨(some 12), (.op (.mv (.t 4))), none⟩, ⟨(some 13), (.op (.mv (.t 5))), none⟩, ⟨(some 2), (.op (.mv (.t 12))), none⟩, ⟨(some 3), (.op (.mv (.t 13))), none⟩])
  .ret)))
def a26 : AF := ⟨14, [(.t 2), (.t 3)], .code b26, none⟩
theorem ok26 : AFOk Tryd.prog ext 26 a26 := .of Tryd.func26 (by kernel_rfl) (by kernel_rfl) (by kernel_rfl) (by kernel_rfl)
/-! 27: rowlock/code.small -/
def b27 : AC :=
  (.seq (.reg [⟨(some 2), (.op (.mv (.k (.int .i64 0)))), none⟩, ⟨(some 3), (.op (.mv (.k (.bool false)))), none⟩])
  (.seq (.reg [⟨(some 4), (.op (.mv (.k (.int .i64 0)))), none⟩])
  (.seq (.seq (.reg [⟨(some 7), (.op (.mv (.t 0))), none⟩, ⟨(some 8), (.op (.srange (.t 7))), none⟩])
  (.block 0 (.loop (.seq (.reg [⟨(some 9), (.op (.snext (.t 8))), none⟩, ⟨(some 10), (.op (.extract (.t 9) 0)), none⟩])
   (.seq (.cond (.t 10) .skip
   (.exit 0))
   (.block 1 (.seq (.reg [⟨(some 11), (.op (.extract (.t 9) 1)), none⟩, ⟨(some 12), (.op (.extract (.t 9) 2)), none⟩, ⟨(some 5), (.op (.mv (.t 11))), none⟩, ⟨(some 6), (.op (.mv (.t 12))), none⟩])
   (.seq (.seq (.reg [⟨(some 13), (.op (.mv (.t 6))), none⟩, ⟨(some 14), (.op (.bin .lss (.t 13) (.k (.int .i32 48)))), none⟩, ⟨(some 15), (.op (.mv (.t 14))), none⟩, ⟨(some 16), (.op (.mv (.t 6))), (some (15, false))⟩, ⟨(some 17), (.op (.bin .gtr (.t 16) (.k (.int .i32 57)))), (some (15, false))⟩, ⟨(some 18), (.op (.pick (.t 15) (.k (.bool true)) (.t 17))), none⟩, ⟨(some 19), (.op (.mv (.t 18))), none⟩, ⟨(some 20), (.op (.mv (.t 5))), (some (19, false))⟩, ⟨(some 21), (.op (.bin .gtr (.t 20) (.k (.int .i64 1)))), (some (19, false))⟩, ⟨(some 22), (.op (.pick (.t 19) (.k (.bool true)) (.t 21))), none⟩])
   (.cond (.t 22) (.seq (.reg [⟨(some 2), (.op (.mv (.k (.int .i64 0)))), none⟩, ⟨(some 3), (.op (.mv (.k (.bool false)))), none⟩])
   .ret)
   .skip))
   (.reg [⟨(some 23), (.op (.mv (.t 4))), none⟩, ⟨(some 24), (.op (.bin .mul (.k (.int .i64 10)) (.t 23))), none⟩, ⟨(some 25), (.op (.mv (.t 6))), none⟩, ⟨(some 26), (.op (.bin .sub (.t 25) (.k (.int .i32 48)))), none⟩, ⟨(some 27), (.op (.conv (.int .i64) (.t 26))), none⟩, ⟨(some 28), (.op (.bin .add (.t 24) (.t 27))), none⟩, ⟨(some 4), (.op (.mv (.t 28))), none⟩])))))))))
  (.seq (.dreg (.quiet ⟨(some 29), (.op (.mv (.t 4))), none⟩ (.quiet ⟨(some 30), (.op (.mv (.t 0))), none⟩ (.quiet ⟨(some 31), (.op (.bin .neq (.t 30) (.k (.string ⟨#[]⟩)))), none⟩ (.quiet ⟨(some 32), (.op (.mv (.t 31))), none⟩ (.quiet ⟨(some 33), (.op (.mv (.t 0))), (some (32, true))⟩ (.quiet ⟨(some 34), (.op (.bin .eql (.t 33) (.k (.string ⟨#[48]⟩)))), (some (32, true))⟩ (.quiet ⟨(some 35), (.op (.mv (.t 34))), (some (32, true))⟩ (.quiet ⟨(some 36), (.op (.mv (.t 0))), (some (35, false))⟩ (.quiet ⟨(some 37), (.op (.indexS (.t 36) (.k (.int .i64 0)))), (some (35, false))⟩ (.quiet ⟨(some 38), (.op (.bin .neq (.t 37) (.k (.int .u8 48)))), (some (35, false))⟩ (.quiet ⟨(some 39), (.op (.pick (.t 35) (.k (.bool true)) (.t 38))), (some (32, true))⟩ (.quiet ⟨(some 40), (.op (.pick (.t 32) (.t 39) (.k (.bool false)))), none⟩ (.loud ⟨(some 2), (.op (.mv (.t 29))), none⟩ [] (.loud ⟨(some 3), (.op (.mv (.t 40))), none⟩ [] .nil)))))))))))))))
  .ret))))
def a27 : AF := ⟨41, [(.t 2), (.t 3)], .code b27, none⟩
theorem ok27 : AFOk Tryd.prog ext 27 a27 := .of Tryd.func27 (by kernel_rfl) (by kernel_rfl) (by kernel_rfl) (by kernel_rfl)
/-! 28: rowlock/value.Parse -/
def b28 : AB :=
  (.thn (.reg [⟨(some 2), (.op (.alloc 24 [(.int .u64 0)])), none⟩, ⟨(some 3), (.op (.alloc 27 [(.int .i64 0)])), none⟩])
  (.dfr [⟨(some 4), (.op (.mkfunc 45 [] [(.t 2), (.t 3)])), none⟩] (.t 4)
  (.seq (.reg [⟨(some 5), (.op (.mv (.t 0))), none⟩, ⟨(some 6), (.call (.f 46) [(.t 5)]), none⟩, ⟨none, (.op (.store 1 (.t 2) (.t 6))), none⟩, ⟨none, (.op (.store 1 (.t 3) (.k (.int .i64 0)))), none⟩])
  .ret)))
def a28 : AF := ⟨7, [(.c 2 false 1), (.c 3 false 1)], b28, none⟩
theorem ok28 : AFOk Tryd.prog ext 28 a28 := .of Tryd.func28 (by kernel_rfl) (by kernel_rfl) (by kernel_rfl) (by kernel_rfl)
/-! 29: rowlock/rowlockref14.ReadWord -/
def b29 : AC :=
  (.seq (.reg [⟨(some 2), (.op (.mv (.k (.int .u8 0)))), none⟩, ⟨(some 3), (.op (.mv (.k (.bool false)))), none⟩])
  (.seq (.seq (.reg [⟨(some 4), (.op (.mv (.k (.int .u8 0)))), none⟩])
  (.block 0 (.loop (.seq (.seq (.reg [⟨(some 5), (.op (.mv (.t 4))), none⟩, ⟨(some 6), (.op (.bin .leq (.t 5) (.k (.int .u8 28)))), none⟩])
   (.cond (.t 6) .skip
   (.exit 0)))
   (.seq (.block 1 (.seq (.reg [⟨(some 9), (.op (.mv (.t 4))), none⟩, ⟨(some 10), (.call (.f 22) [(.t 9)]), none⟩, ⟨(some 11), (.op (.mv (.t 0))), none⟩, ⟨(some 12), (.op (.bin .eql (.t 10) (.t 11))), none⟩])
   (.cond (.t 12) (.seq (.reg [⟨(some 13), (.op (.mv (.t 4))), none⟩, ⟨(some 2), (.op (.mv (.t 13))), none⟩, ⟨(some 3), (.op (.mv (.k (.bool true)))), none⟩])
   .ret)
   .skip)))
   (.reg [⟨(some 7), (.op (.mv (.t 4))), none⟩, ⟨(some 8), (.op (.bin .add (.t 7) (.k (.int .u8 1)))), none⟩, ⟨(some 4), (.op (.mv (.t 8))), none⟩]))))))
  (.seq (.reg [⟨(some 2), (.op (.mv (.k (.int .u8 0)))), none⟩, ⟨(some 3), (.op (.mv (.k (.bool false)))), none⟩])
  .ret)))
def a29 : AF := ⟨14, [(.t 2), (.t 3)], .code b29, none⟩
theorem ok29 : AFOk Tryd.prog ext 29 a29 := .of Tryd.func29 (by kernel_rfl) (by kernel_rfl) (by kernel_rfl) (by kernel_rfl)
/-! 30: rowlock/rowlockref01.Parse -/
def b30 : AC :=
  (.seq (.reg [⟨(some 2), (.op (.mv (.k (.int .u64 0)))), none⟩, ⟨(some 3), (.op (.mv (.k (.int .i64 0)))), none⟩])
  (.seq (.seq (.reg [⟨(some 7), (.op (.mv (.t 0))), none⟩, ⟨(some 8), (.op (.lenT (.t 7))), none⟩, ⟨(some 9), (.op (.bin .neq (.t 8) (.k (.int .i64 16)))), none⟩])
  (.cond (.t 9) (.seq (.reg [⟨(some 2), (.op (.mv (.k (.int .u64 0)))), none⟩, ⟨(some 3), (.op (.mv (.k (.int .i64 3)))), none⟩])
  .ret)
  .skip))
  (.seq (.reg [⟨(some 4), (.op (.mv (.k (.int .u64 0)))), none⟩])
  (.seq (.seq (.reg [⟨(some 5), (.op (.mv (.k (.int .i64 0)))), none⟩])
  (.block 0 (.loop (.seq (.seq (.reg [⟨(some 10), (.op (.mv (.t 5))), none⟩, ⟨(some 11), (.op (.bin .lss (.t 10) (.k (.int .i64 16)))), none⟩])
   (.cond (.t 11) .skip
   (.exit 0)))
   (.seq (.block 1 (.seq (.reg [⟨(some 6), (.op (.mv (.k (.int .i64 0)))), none⟩])
   (.seq (.block 2 (.loop (.seq (.seq (.dreg (.quiet ⟨(some 14), (.op (.mv (.t 6))), none⟩ (.quiet ⟨(some 15), (.op (.bin .lss (.t 14) (.k (.int .i64 16)))), none⟩ (.quiet ⟨(some 16), (.op (.mv (.t 15))), none⟩ (.quiet ⟨(some 17), (.op (.mv (.t 6))), (some (16, true))⟩ (.quiet ⟨(some 18), (.op (.indexS (.k (.string ⟨#[48, 49, 50, 51, 52, 53, 54, 55, 56, 57, 97, 98, 99, 100, 101, 102]⟩)) (.t 17))), (some (16, true))⟩ (.quiet ⟨(some 19), (.op (.mv (.t 0))), (some (16, true))⟩ (.quiet ⟨(some 20), (.op (.mv (.t 5))), (some (16, true))⟩ (.quiet ⟨(some 21), (.op (.indexS (.t 19) (.t 20))), (some (16, true))⟩ (.quiet ⟨(some 22), (.op (.bin .neq (.t 18) (.t 21))), (some (16, true))⟩ (.quiet ⟨(some 23), (.op (.pick (.t 16) (.t 22) (.k (.bool false)))), none⟩ .nil)))))))))))
    (.cond (.t 23) .skip
    (.exit 2)))
    (.block 3 (.reg [⟨(some 24), (.op (.mv (.t 6))), none⟩, ⟨(some 25), (.op (.bin .add (.t 24) (.k (.int .i64 1)))), none⟩, ⟨(some 6), (.op (.mv (.t 25))), none⟩])))))
   (.seq (.seq (.reg [⟨(some 26), (.op (.mv (.t 6))), none⟩, ⟨(some 27), (.op (.bin .eql (.t 26) (.k (.int .i64 16)))), none⟩])
   (.cond (.t 27) (.seq (.reg [⟨(some 2), (.op (.mv (.k (.int .u64 0)))), none⟩, ⟨(some 3), (.op (.mv (.k (.int .i64 3)))), none⟩])
   .ret)
   .skip))
   (.reg [⟨(some 28), (.op (.mv (.t 4))), none⟩, ⟨(some 29), (.op (.bin .mul (.t 28) (.k (.int .u64 16)))), none⟩, ⟨(some 30), (.op (.mv (.t 6))), none⟩, ⟨(some 31), (.op (.conv (.int .u64) (.t 30))), none⟩, ⟨(some 32), (.op (.bin .add (.t 29) (.t 31))), none⟩, ⟨(some 4), (.op (.mv (.t 32))), none⟩])))))
   (.reg [⟨(some 12), (.op (.mv (.t 5))), none⟩, ⟨(some 13), (.op (.bin .add (.t 12) (.k (.int .i64 1)))), none⟩, ⟨(some 5), (.op (.mv (.t 13))), none⟩]))))))
  (.seq (.seq (.reg [⟨(some 33), (.op (.mv (.t 4))), none⟩, ⟨(some 34), (.call (.f 41) [(.t 33)]), none⟩, ⟨(some 35), (.op (.un .not (.t 34))), none⟩])
  (.cond (.t 35) (.seq (.reg [⟨(some 2), (.op (.mv (.k (.int .u64 0)))), none⟩, ⟨(some 3), (.op (.mv (.k (.int .i64 3)))), none⟩])
  .ret)
  .skip))
  (.seq (.reg [⟨(some 36), (.op (.mv (.t 4))), none⟩, ⟨(some 2), (.op (.mv (.t 36))), none⟩, ⟨(some 3), (.op (.mv (.k (.int .i64 0)))), none⟩])
  .ret))))))
def a30 : AF := ⟨37, [(.t 2), (.t 3)], .code b30, none⟩
theorem ok30 : AFOk Tryd.prog ext 30 a30 := .of Tryd.func30 (by kernel_rfl) (by kernel_rfl) (by kernel_rfl) (by kernel_rfl)
/-! 31: rowlock/code.Effect -/
def b31 : AC :=
  (.seq (.reg [⟨(some 2), (.op (.mv (.k (.int .i64 0)))), none⟩, ⟨(some 3), (.op (.mv (.k (.int .i64 0)))), none⟩])
  (.seq (.reg [⟨(some 5), (.op (.mv (.t 0))), none⟩, ⟨(some 6), (.call (.f 16) [(.t 5)]), none⟩, ⟨(some 4), (.op (.alloc 46 [(.string ⟨#[]⟩), (.bool false), (.bool false), (.int .i64 0), (.int .i64 0)])), none⟩, ⟨none, (.op (.store 5 (.t 4) (.t 6))), none⟩])
  (.seq (.dreg (.quiet ⟨(some 7), (.op (.faddr 3 (.t 4))), none⟩ (.quiet ⟨(some 8), (.op (.load (.t 7))), none⟩ (.quiet ⟨(some 9), (.op (.faddr 4 (.t 4))), none⟩ (.quiet ⟨(some 10), (.op (.load (.t 9))), none⟩ (.loud ⟨(some 2), (.op (.mv (.t 8))), none⟩ [⟨(some 10), (.op (.load (.t 9))), none⟩] (.loud ⟨(some 3), (.op (.mv (.t 10))), none⟩ [] .nil)))))))
  .ret)))
def a31 : AF := ⟨11, [(.t 2), (.t 3)], .code b31, none⟩
theorem ok31 : AFOk Tryd.prog ext 31 a31 := .of Tryd.func31 (by kernel_rfl) (by kernel_rfl) (by kernel_rfl) (by kernel_rfl)
/-! 32: rowlock/code.one -/
def b32 : AC :=
  (.seq (.reg [⟨(some 2), (.op (.alloc 26 [(.int .u8 0), (.int .i64 0), (.int .u64 0)])), none⟩, ⟨(some 3), (.op (.mv (.k (.slice none 0 0)))), none⟩, ⟨(some 4), (.op (.mv (.k (.bool false)))), none⟩])
  (.seq (.dreg (.quiet ⟨(some 8), (.op (.mv (.t 0))), none⟩ (.quiet ⟨(some 9), (.op (.iaddrS 1 (.t 8) (.k (.int .i64 0)))), none⟩ (.quiet ⟨(some 10), (.op (.load (.t 9))), none⟩ (.quiet ⟨(some 11), (.op (.mv (.t 0))), none⟩ (.quiet ⟨(some 12), (.op (.slice 1 (.t 11) (some (.k (.int .i64 1))) none none)), none⟩ (.quiet ⟨(some 13), (.op (.faddr 0 (.t 2))), none⟩ (.loud ⟨none, (.op (.store 1 (.t 13) (.t 10))), none⟩ [] (.loud ⟨(some 0), (.op (.mv (.t 12))), none⟩ [] .nil)))))))))
  (.seq (.reg [⟨(some 14), (.op (.faddr 0 (.t 2))), none⟩, ⟨(some 15), (.op (.load (.t 14))), none⟩, ⟨(some 16), (.call (.f 16) [(.t 15)]), none⟩, ⟨(some 5), (.op (.alloc 46 [(.string ⟨#[]⟩), (.bool false), (.bool false), (.int .i64 0), (.int .i64 0)])), none⟩, ⟨none, (.op (.store 5 (.t 5) (.t 16))), none⟩])
  (.seq (.seq (.reg [⟨(some 17), (.op (.faddr 1 (.t 5))), none⟩, ⟨(some 18), (.op (.load (.t 17))), none⟩])
  (.cond (.t 18) (.seq (.seq (.reg [⟨(some 19), (.op (.mv (.t 0))), none⟩, ⟨(some 20), (.op (.lenS (.t 19))), none⟩, ⟨(some 21), (.op (.bin .eql (.t 20) (.k (.int .i64 0)))), none⟩])
  (.cond (.t 21) (.seq (.reg [⟨(some 22), (.op (.loadN 3 (.t 2))), none⟩, ⟨none, (.op (.store 3 (.t 2) (.t 22))), none⟩, ⟨(some 3), (.op (.mv (.k (.slice none 0 0)))), none⟩, ⟨(some 4), (.op (.mv (.k (.bool false)))), none⟩])
  .ret)
  .skip))
  (.dreg (.quiet ⟨(some 23), (.op (.mv (.t 0))), none⟩ (.quiet ⟨(some 24), (.op (.iaddrS 1 (.t 23) (.k (.int .i64 0)))), none⟩ (.quiet ⟨(some 25), (.op (.load (.t 24))), none⟩ (.quiet ⟨(some 26), (.op (.conv (.int .i64) (.t 25))), none⟩ (.quiet ⟨(some 27), (.op (.mv (.t 0))), none⟩ (.quiet ⟨(some 28), (.op (.slice 1 (.t 27) (some (.k (.int .i64 1))) none none)), none⟩ (.quiet ⟨(some 29), (.op (.faddr 1 (.t 2))), none⟩ (.loud ⟨none, (.op (.store 1 (.t 29) (.t 26))), none⟩ [] (.loud ⟨(some 0), (.op (.mv (.t 28))), none⟩ [] .nil)))))))))))
  .skip))
  (.seq (.seq (.reg [⟨(some 30), (.op (.faddr 2 (.t 5))), none⟩, ⟨(some 31), (.op (.load (.t 30))), none⟩])
  (.cond (.t 31) (.seq (.seq (.reg [⟨(some 32), (.op (.mv (.t 0))), none⟩, ⟨(some 33), (.op (.lenS (.t 32))), none⟩, ⟨(some 34), (.op (.bin .lss (.t 33) (.k (.int .i64 8)))), none⟩])
  (.cond (.t 34) (.seq (.reg [⟨(some 35), (.op (.loadN 3 (.t 2))), none⟩, ⟨none, (.op (.store 3 (.t 2) (.t 35))), none⟩, ⟨(some 3), (.op (.mv (.k (.slice none 0 0)))), none⟩, ⟨(some 4), (.op (.mv (.k (.bool false)))), none⟩])
  .ret)
  .skip))
  (.seq (.seq (.reg [⟨(some 36), (.op (.mv (.t 0))), none⟩, ⟨(some 37), (.op (.slice 1 (.t 36) none (some (.k (.int .i64 8))) none)), none⟩, ⟨(some 38), (.op (.lenS (.t 37))), none⟩, ⟨(some 39), (.op (.mv (.k (.int .i64 0)))), none⟩])
  (.block 0 (.loop (.seq (.reg [⟨(some 40), (.op (.bin .lss (.t 39) (.t 38))), none⟩])
   (.seq (.cond (.t 40) .skip
   (.exit 0))
   (.seq (.block 1 (.seq (.reg [⟨(some 41), (.op (.iaddrS 1 (.t 37) (.t 39))), none⟩, ⟨(some 42), (.op (.load (.t 41))), none⟩, ⟨(some 7), (.op (.mv (.t 42))), none⟩])
   (.reg [⟨(some 43), (.op (.faddr 2 (.t 2))), none⟩, ⟨(some 44), (.op (.load (.t 43))), none⟩, ⟨(some 45), (.op (.bin .shl (.t 44) (.k (.int .u64 8)))), none⟩, ⟨(some 46), (.op (.mv (.t 7))), none⟩, ⟨(some 47), (.op (.conv (.int .u64) (.t 46))), none⟩, ⟨(some 48), (.op (.bin .or (.t 45) (.t 47))), none⟩, ⟨(some 49), (.op (.faddr 2 (.t 2))), none⟩, ⟨none, (.op (.store 1 (.t 49) (.t 48))), none⟩])))
   (.reg [⟨(some 50), (.op (.bin .add (.t 39) (.k (.int .i64 1)))), none⟩, ⟨(some 39), (.op (.mv (.t 50))), none⟩])))))))
  (.reg [⟨(some 51), (.op (.mv (.t 0))), none⟩, ⟨(some 52), (.op (.slice 1 (.t 51) (some (.k (.int .i64 8))) none none)), none⟩, ⟨(some 0), (.op (.mv (.t 52))), none⟩])))
  .skip))
  (.seq (.dreg (.quiet ⟨(some 53), (.op (.loadN 3 (.t 2))), none⟩ (.quiet ⟨(some 54), (.op (.mv (.t 0))), none⟩ (.quiet ⟨(some 55), (.op (.loadN 3 (.t 2))), none⟩ (.loud ⟨(some 56), (.call (.f 15) [(.t 55)]), none⟩ [⟨(some 53), (.op (.loadN 3 (.t 2))), none⟩] (.loud ⟨none, (.op (.store 3 (.t 2) (.t 53))), none⟩ [] (.loud ⟨(some 3), (.op (.mv (.t 54))), none⟩ [] (.loud ⟨(some 4), (.op (.mv (.t 56))), none⟩ [] .nil))))))))
  .ret))))))
def a32 : AF := ⟨57, [(.c 2 true 3), (.t 3), (.t 4)], .code b32, none⟩
theorem ok32 : AFOk Tryd.prog ext 32 a32 := .of Tryd.func32 (by kernel_rfl) (by kernel_rfl) (by kernel_rfl) (by kernel_rfl)
/-! 33: rowlock/code.limit -/
def b33 : AC :=
  (.seq (.reg [⟨(some 2), (.op (.mv (.k (.int .i64 0)))), none⟩])
  (.seq (.seq (.reg [⟨(some 3), (.op (.mv (.t 0))), none⟩])
  (.block 0 (.seq (.seq (.reg [⟨(some 5), (.op (.bin .eql (.t 3) (.k (.int .u8 2)))), none⟩, ⟨(some 4), (.op (.mv (.t 5))), none⟩])
  (.cond (.t 4) .skip
  (.reg [⟨(some 6), (.op (.bin .eql (.t 3) (.k (.int .u8 3)))), none⟩, ⟨(some 4), (.op (.mv (.t 6))), none⟩])))
  (.cond (.t 4) (.seq (.reg [⟨(some 2), (.op (.mv (.k (.int .i64 4)))), none⟩])
  .ret)
  (.seq (.seq (.reg [⟨(some 8), (.op (.bin .eql (.t 3) (.k (.int .u8 4)))), none⟩, ⟨(some 7), (.op (.mv (.t 8))), none⟩])
  (.cond (.t 7) .skip
  (.seq (.reg [⟨(some 9), (.op (.bin .eql (.t 3) (.k (.int .u8 5)))), none⟩, ⟨(some 7), (.op (.mv (.t 9))), none⟩])
  (.cond (.t 7) .skip
  (.seq (.reg [⟨(some 10), (.op (.bin .eql (.t 3) (.k (.int .u8 6)))), none⟩, ⟨(some 7), (.op (.mv (.t 10))), none⟩])
  (.cond (.t 7) .skip
  (.reg [⟨(some 11), (.op (.bin .eql (.t 3) (.k (.int .u8 7)))), none⟩, ⟨(some 7), (.op (.mv (.t 11))), none⟩])))))))
  (.cond (.t 7) (.seq (.reg [⟨(some 2), (.op (.mv (.k (.int .i64 12)))), none⟩])
  .ret)
  .skip))))))
  (.seq (.reg [⟨(some 2), (.op (.mv (.k (.int .i64 64)))), none⟩])
  .ret)))
def a33 : AF := ⟨12, [(.t 2)], .code b33, none⟩
theorem ok33 : AFOk Tryd.prog ext 33 a33 := .of Tryd.func33 (by kernel_rfl) (by kernel_rfl) (by kernel_rfl) (by kernel_rfl)
/-! 34: rowlock/value.Right -/
def b34 : AC :=
  (.seq (.reg [⟨(some 2), (.op (.mv (.k (.bool false)))), none⟩])
  (.seq (.reg [⟨(some 3), (.op (.mv (.t 0))), none⟩, ⟨(some 4), (.op (.bin .andNot (.t 3) (.k (.int .u64 9223372036854775808)))), none⟩, ⟨(some 5), (.op (.bin .leq (.t 4) (.k (.int .u64 9218868437227405312)))), none⟩, ⟨(some 6), (.op (.mv (.t 5))), none⟩, ⟨(some 7), (.op (.mv (.t 0))), (some (6, false))⟩, ⟨(some 8), (.op (.bin .eql (.t 7) (.k (.int .u64 9221120237041090560)))), (some (6, false))⟩, ⟨(some 9), (.op (.pick (.t 6) (.k (.bool true)) (.t 8))), none⟩, ⟨(some 2), (.op (.mv (.t 9))), none⟩])
  .ret))
def a34 : AF := ⟨10, [(.t 2)], .code b34, none⟩
theorem ok34 : AFOk Tryd.prog ext 34 a34 := .of Tryd.func34 (by kernel_rfl) (by kernel_rfl) (by kernel_rfl) (by kernel_rfl)
/-! 35: internal/strconv.Itoa -/
def b35 : AC :=
  (.seq (.reg [⟨(some 2), (.op (.mv (.k (.string ⟨#[]⟩)))), none⟩])
  (.seq (.reg [⟨(some 3), (.op (.mv (.t 0))), none⟩, ⟨(some 4), (.call (.f 47) [(.t 3), (.k (.int .i64 10))]), none⟩, ⟨(some 2), (.op (.mv (.t 4))), none⟩])
  .ret))
def a35 : AF := ⟨5, [(.t 2)], .code b35, none⟩
theorem ok35 : AFOk Tryd.prog ext 35 a35 := .of Tryd.func35 (by kernel_rfl) (by kernel_rfl) (by kernel_rfl) (by kernel_rfl)
/-! 36: rowlock/value.Canon -/
def b36 : AC :=
  (.seq (.reg [⟨(some 2), (.op (.mv (.k (.int .u64 0)))), none⟩])
  (.seq (.seq (.reg [⟨(some 3), (.op (.mv (.t 0))), none⟩, ⟨(some 4), (.call (.f 34) [(.t 3)]), none⟩])
  (.cond (.t 4) (.seq (.reg [⟨(some 5), (.op (.mv (.t 0))), none⟩, ⟨(some 2), (.op (.mv (.t 5))), none⟩])
  .ret)
  .skip))
  (.seq (.reg [⟨(some 2), (.op (.mv (.k (.int .u64 9221120237041090560)))), none⟩])
  .ret)))
def a36 : AF := ⟨6, [(.t 2)], .code b36, none⟩
theorem ok36 : AFOk Tryd.prog ext 36 a36 := .of Tryd.func36 (by kernel_rfl) (by kernel_rfl) (by kernel_rfl) (by kernel_rfl)
/-! 38: (*strings.Builder).WriteString -/
def b38 : AC :=
  (.seq (.reg [⟨(some 4), (.op (.mv (.k (.int .i64 0)))), none⟩, ⟨(some 5), (.op (.mv (.k .nilIface))), none⟩])
  (.seq (.reg [⟨(some 6), (.op (.mv (.t 0))), none⟩, ⟨(some 7), (.call (.f 48) [(.t 6)]), none⟩])
  (.seq (.reg [⟨(some 8), (.op (.mv (.t 0))), none⟩, ⟨(some 9), (.op (.mv (.t 0))), none⟩, ⟨(some 10), (.op (.nilchk (.t 9))), none⟩, ⟨(some 11), (.op (.faddr 1 (.t 10))), none⟩, ⟨(some 12), (.op (.load (.t 11))), none⟩, ⟨(some 13), (.op (.mv (.t 1))), none⟩, ⟨(some 14), (.op (.appendT 5 (.t 12) (.t 13))), none⟩, ⟨(some 15), (.op (.nilchk (.t 8))), none⟩, ⟨(some 16), (.op (.faddr 1 (.t 15))), none⟩, ⟨none, (.op (.store 1 (.t 16) (.t 14))), none⟩])
  (.seq (.reg [⟨(some 17), (.op (.mv (.t 1))), none⟩, ⟨(some 18), (.op (.lenT (.t 17))), none⟩, ⟨(some 4), (.op (.mv (.t 18))), none⟩, ⟨(some 5), (.op (.mv (.k .nilIface))), none⟩])
  .ret))))
def a38 : AF := ⟨19, [(.t 4), (.t 5)], .code b38, none⟩
theorem ok38 : AFOk Tryd.prog ext 38 a38 := .of Tryd.func38 (by kernel_rfl) (by kernel_rfl) (by kernel_rfl) (by kernel_rfl)
/-! 39: (*strings.Builder).String -/
def b39 : AC :=
  (.seq (.reg [⟨(some 2), (.op (.mv (.k (.string ⟨#[]⟩)))), none⟩])
  (.seq (.dreg (.quiet ⟨(some 3), (.op (.mv (.t 0))), none⟩ (.quiet ⟨(some 4), (.op (.nilchk (.t 3))), none⟩ (.quiet ⟨(some 5), (.op (.faddr 1 (.t 4))), none⟩ (.quiet ⟨(some 6), (.op (.load (.t 5))), none⟩ (.quiet ⟨(some 7), (.op (.sdata (.t 6))), none⟩ (.quiet ⟨(some 8), (.op (.mv (.t 0))), none⟩ (.quiet ⟨(some 9), (.op (.nilchk (.t 8))), none⟩ (.quiet ⟨(some 10), (.op (.faddr 1 (.t 9))), none⟩ (.quiet ⟨(some 11), (.op (.load (.t 10))), none⟩ (.quiet ⟨(some 12), (.op (.lenS (.t 11))), none⟩ (.loud ⟨(some 13), (.op (.ustr 5 (.t 7) (.t 12))), none⟩ [] (.loud ⟨(some 2), (.op (.mv (.t 13))), none⟩ [] .nil)))))))))))))
  .ret))
def a39 : AF := ⟨14, [(.t 2)], .code b39, none⟩
theorem ok39 : AFOk Tryd.prog ext 39 a39 := .of Tryd.func39 (by kernel_rfl) (by kernel_rfl) (by kernel_rfl) (by kernel_rfl)
/-! 40: rowlock/rowlockref14.most -/
def b40 : AC :=
  (.seq (.reg [⟨(some 2), (.op (.mv (.k (.int .i64 0)))), none⟩])
  (.seq (.seq (.reg [⟨(some 3), (.op (.mv (.t 0))), none⟩])
  (.block 0 (.seq (.seq (.reg [⟨(some 5), (.op (.bin .eql (.t 3) (.k (.int .u8 2)))), none⟩, ⟨(some 4), (.op (.mv (.t 5))), none⟩])
  (.cond (.t 4) .skip
  (.reg [⟨(some 6), (.op (.bin .eql (.t 3) (.k (.int .u8 3)))), none⟩, ⟨(some 4), (.op (.mv (.t 6))), none⟩])))
  (.cond (.t 4) (.seq (.reg [⟨(some 2), (.op (.mv (.k (.int .i64 4)))), none⟩])
  .ret)
  (.seq (.seq (.reg [⟨(some 8), (.op (.bin .eql (.t 3) (.k (.int .u8 4)))), none⟩, ⟨(some 7), (.op (.mv (.t 8))), none⟩])
  (.cond (.t 7) .skip
  (.seq (.reg [⟨(some 9), (.op (.bin .eql (.t 3) (.k (.int .u8 5)))), none⟩, ⟨(some 7), (.op (.mv (.t 9))), none⟩])
  (.cond (.t 7) .skip
  (.seq (.reg [⟨(some 10), (.op (.bin .eql (.t 3) (.k (.int .u8 6)))), none⟩, ⟨(some 7), (.op (.mv (.t 10))), none⟩])
  (.cond (.t 7) .skip
  (.reg [⟨(some 11), (.op (.bin .eql (.t 3) (.k (.int .u8 7)))), none⟩, ⟨(some 7), (.op (.mv (.t 11))), none⟩])))))))
  (.cond (.t 7) (.seq (.reg [⟨(some 2), (.op (.mv (.k (.int .i64 12)))), none⟩])
  .ret)
  .skip))))))
  (.seq (.reg [⟨(some 2), (.op (.mv (.k (.int .i64 64)))), none⟩])
  .ret)))
def a40 : AF := ⟨12, [(.t 2)], .code b40, none⟩
theorem ok40 : AFOk Tryd.prog ext 40 a40 := .of Tryd.func40 (by kernel_rfl) (by kernel_rfl) (by kernel_rfl) (by kernel_rfl)
/-! 41: rowlock/rowlockref01.Right -/
def b41 : AC :=
  (.seq (.reg [⟨(some 2), (.op (.mv (.k (.bool false)))), none⟩])
  (.seq (.reg [⟨(some 4), (.op (.mv (.t 0))), none⟩, ⟨(some 5), (.op (.frombits (.t 4))), none⟩, ⟨(some 3), (.op (.mv (.t 5))), none⟩])
  (.seq (.reg [⟨(some 6), (.op (.mv (.t 3))), none⟩, ⟨(some 7), (.op (.mv (.t 3))), none⟩, ⟨(some 8), (.op (.bin .eql (.t 6) (.t 7))), none⟩, ⟨(some 9), (.op (.mv (.t 8))), none⟩, ⟨(some 10), (.op (.mv (.t 0))), (some (9, false))⟩, ⟨(some 11), (.op (.bin .eql (.t 10) (.k (.int .u64 9221120237041090560)))), (some (9, false))⟩, ⟨(some 12), (.op (.pick (.t 9) (.k (.bool true)) (.t 11))), none⟩, ⟨(some 2), (.op (.mv (.t 12))), none⟩])
  .ret)))
def a41 : AF := ⟨13, [(.t 2)], .code b41, none⟩
theorem ok41 : AFOk Tryd.prog ext 41 a41 := .of Tryd.func41 (by kernel_rfl) (by kernel_rfl) (by kernel_rfl) (by kernel_rfl)
/-! 42: rowlock/rowlockref01.Canon -/
def b42 : AC :=
  (.seq (.reg [⟨(some 2), (.op (.mv (.k (.int .u64 0)))), none⟩])
  (.seq (.seq (.reg [⟨(some 3), (.op (.mv (.t 0))), none⟩, ⟨(some 4), (.call (.f 41) [(.t 3)]), none⟩, ⟨(some 5), (.op (.un .not (.t 4))), none⟩])
  (.cond (.t 5) (.seq (.reg [⟨(some 2), (.op (.mv (.k (.int .u64 9221120237041090560)))), none⟩])
  .ret)
  .skip))
  (.seq (.reg [⟨(some 6), (.op (.mv (.t 0))), none⟩, ⟨(some 2), (.op (.mv (.t 6))), none⟩])
  .ret)))
def a42 : AF := ⟨7, [(.t 2)], .code b42, none⟩
theorem ok42 : AFOk Tryd.prog ext 42 a42 := .of Tryd.func42 (by kernel_rfl) (by kernel_rfl) (by kernel_rfl) (by kernel_rfl)
/-! 43: internal/stringslite.Cut -/
def b43 : AC :=
  (.seq (.reg [⟨(some 4), (.op (.mv (.k (.string ⟨#[]⟩)))), none⟩, ⟨(some 5), (.op (.mv (.k (.string ⟨#[]⟩)))), none⟩, ⟨(some 6), (.op (.mv (.k (.bool false)))), none⟩])
  (.seq (.seq (.reg [⟨(some 8), (.op (.mv (.t 0))), none⟩, ⟨(some 9), (.op (.mv (.t 1))), none⟩, ⟨(some 10), (.call (.f 51) [(.t 8), (.t 9)]), none⟩, ⟨(some 7), (.op (.mv (.t 10))), none⟩])
  (.seq (.reg [⟨(some 11), (.op (.mv (.t 7))), none⟩, ⟨(some 12), (.op (.bin .geq (.t 11) (.k (.int .i64 0)))), none⟩])
  (.cond (.t 12) (.seq (.dreg (.quiet ⟨(some 13), (.op (.mv (.t 0))), none⟩ (.quiet ⟨(some 14), (.op (.mv (.t 7))), none⟩ (.quiet ⟨(some 15), (.op (.sliceS (.t 13) none (some (.t 14)))), none⟩ (.quiet ⟨(some 16), (.op (.mv (.t 0))), none⟩ (.quiet ⟨(some 17), (.op (.mv (.t 7))), none⟩ (.quiet ⟨(some 18), (.op (.mv (.t 1))), none⟩ (.quiet ⟨(some 19), (.op (.lenT (.t 18))), none⟩ (.quiet ⟨(some 20), (.op (.bin .add (.t 17) (.t 19))), none⟩ (.quiet ⟨(some 21), (.op (.sliceS (.t 16) (some (.t 20)) none)), none⟩ (.loud ⟨(some 4), (.op (.mv (.t 15))), none⟩ [] (.loud ⟨(some 5), (.op (.mv (.t 21))), none⟩ [] (.loud ⟨(some 6), (.op (.mv (.k (.bool true)))), none⟩ [] .nil)))))))))))))
  .ret)
  .skip)))
  (.seq (.reg [⟨(some 22), (.op (.mv (.t 0))), none⟩, ⟨(some 4), (.op (.mv (.t 22))), none⟩, ⟨(some 5), (.op (.mv (.k (.string ⟨#[]⟩)))), none⟩, ⟨(some 6), (.op (.mv (.k (.bool false)))), none⟩])
  .ret)))
def a43 : AF := ⟨23, [(.t 4), (.t 5), (.t 6)], .code b43, none⟩
theorem ok43 : AFOk Tryd.prog ext 43 a43 := .of Tryd.func43 (by kernel_rfl) (by kernel_rfl) (by kernel_rfl) (by kernel_rfl)
/-! 44: rowlock/code.words -/
def b44 : AC :=
  (.seq (.reg [⟨(some 0), (.op (.mv (.k (.map none)))), none⟩])
  (.seq (.reg [⟨(some 3), (.op (.mkmap)), none⟩, ⟨(some 1), (.op (.mv (.t 3))), none⟩])
  (.seq (.seq (.reg [⟨(some 2), (.op (.mv (.k (.int .u8 0)))), none⟩])
  (.block 0 (.loop (.seq (.seq (.reg [⟨(some 4), (.op (.mv (.t 2))), none⟩, ⟨(some 5), (.op (.bin .leq (.t 4) (.k (.int .u8 28)))), none⟩])
   (.cond (.t 5) .skip
   (.exit 0)))
   (.seq (.block 1 (.reg [⟨(some 8), (.op (.mv (.t 1))), none⟩, ⟨(some 9), (.op (.mv (.t 2))), none⟩, ⟨(some 10), (.call (.f 52) [(.t 9)]), none⟩, ⟨(some 11), (.op (.mv (.t 2))), none⟩, ⟨none, (.op (.mapupd true (.t 8) (.t 10) (.t 11))), none⟩]))
   (.reg [⟨(some 6), (.op (.mv (.t 2))), none⟩, ⟨(some 7), (.op (.bin .add (.t 6) (.k (.int .u8 1)))), none⟩, ⟨(some 2), (.op (.mv (.t 7))), none⟩]))))))
  (.seq (.reg [⟨(some 12), (.op (.mv (.t 1))), none⟩, ⟨(some 0), (.op (.mv (.t 12))), none⟩])
  .ret))))
def a44 : AF := ⟨13, [(.t 0)], .code b44, none⟩
theorem ok44 : AFOk Tryd.prog ext 44 a44 := .of Tryd.func44 (by kernel_rfl) (by kernel_rfl) (by kernel_rfl) (by kernel_rfl)
/-! 45: rowlock/value.Parse$1 -/
def b45 : AC :=
  (.seq (.reg [⟨(some 2), (.op (.mv (.t 5))), none⟩])
  (.seq (.reg [⟨(some 6), (.op (.mv (.t 2))), none⟩, ⟨(some 7), (.op (.ifnil true (.t 6))), none⟩])
  (.cond (.t 7) (.seq (.seq (.reg [⟨(some 9), (.op (.mv (.t 2))), none⟩, ⟨(some 10), (.op (.tassert 84 (.agg #[]) (.t 9))), none⟩, ⟨(some 8), (.op (.mv (.t 10))), none⟩, ⟨(some 11), (.op (.extract (.t 8) 0)), none⟩, ⟨(some 12), (.op (.extract (.t 8) 1)), none⟩, ⟨(some 3), (.op (.alloc 84 [])), none⟩, ⟨none, (.op (.store 0 (.t 3) (.t 11))), none⟩, ⟨(some 4), (.op (.mv (.t 12))), none⟩])
  (.seq (.reg [⟨(some 13), (.op (.mv (.t 4))), none⟩, ⟨(some 14), (.op (.un .not (.t 13))), none⟩])
  (.cond (.t 14) (.reg [⟨(some 15), (.op (.mv (.t 2))), none⟩, ⟨none, (.panic (.t 15)), none⟩])
  .skip)))
  (.reg [⟨none, (.op (.store 1 (.t 0) (.k (.int .u64 0)))), none⟩, ⟨none, (.op (.store 1 (.t 1) (.k (.int .i64 3)))), none⟩]))
  .skip)))
def a45 : AF := ⟨16, [], .code b45, some 5⟩
theorem ok45 : AFOk Tryd.prog ext 45 a45 := .of Tryd.func45 (by kernel_rfl) (by kernel_rfl) (by kernel_rfl) (by kernel_rfl)
/-! 46: rowlock/value.bits -/
def b46 : AC :=
  (.seq (.reg [⟨(some 2), (.op (.mv (.k (.int .u64 0)))), none⟩])
  (.seq (.seq (.reg [⟨(some 5), (.op (.mv (.t 0))), none⟩, ⟨(some 6), (.op (.lenT (.t 5))), none⟩, ⟨(some 7), (.op (.bin .neq (.t 6) (.k (.int .i64 16)))), none⟩])
  (.cond (.t 7) (.reg [⟨(some 8), (.op (.build [] [])), none⟩, ⟨(some 9), (.op (.mkiface 84 (.t 8))), none⟩, ⟨none, (.panic (.t 9)), none⟩])
  .skip))
  (.seq (.reg [⟨(some 3), (.op (.mv (.k (.int .u64 0)))), none⟩])
  (.seq (.seq (.reg [⟨(some 10), (.op (.mv (.t 0))), none⟩, ⟨(some 11), (.op (.lenT (.t 10))), none⟩, ⟨(some 12), (.op (.mv (.k (.int .i64 0)))), none⟩])
  (.block 0 (.loop (.seq (.reg [⟨(some 13), (.op (.bin .lss (.t 12) (.t 11))), none⟩])
   (.seq (.cond (.t 13) .skip
   (.exit 0))
   (.seq (.block 1 (.seq (.reg [⟨(some 14), (.op (.mv (.t 12))), none⟩, ⟨(some 4), (.op (.mv (.t 14))), none⟩])
   (.reg [⟨(some 15), (.op (.mv (.t 3))), none⟩, ⟨(some 16), (.op (.bin .shl (.t 15) (.k (.int .u64 4)))), none⟩, ⟨(some 17), (.op (.mv (.t 0))), none⟩, ⟨(some 18), (.op (.mv (.t 4))), none⟩, ⟨(some 19), (.op (.indexS (.t 17) (.t 18))), none⟩, ⟨(some 20), (.call (.f 53) [(.t 19)]), none⟩, ⟨(some 21), (.op (.bin .or (.t 16) (.t 20))), none⟩, ⟨(some 3), (.op (.mv (.t 21))), none⟩])))
   (.reg [⟨(some 22), (.op (.bin .add (.t 12) (.k (.int .i64 1)))), none⟩, ⟨(some 12), (.op (.mv (.t 22))), none⟩])))))))
  (.seq (.seq (.reg [⟨(some 23), (.op (.mv (.t 3))), none⟩, ⟨(some 24), (.call (.f 34) [(.t 23)]), none⟩, ⟨(some 25), (.op (.un .not (.t 24))), none⟩])
  (.cond (.t 25) (.reg [⟨(some 26), (.op (.build [] [])), none⟩, ⟨(some 27), (.op (.mkiface 84 (.t 26))), none⟩, ⟨none, (.panic (.t 27)), none⟩])
  .skip))
  (.seq (.reg [⟨(some 28), (.op (.mv (.t 3))), none⟩, ⟨(some 2), (.op (.mv (.t 28))), none⟩])
  .ret))))))
def a46 : AF := ⟨29, [(.t 2)], .code b46, none⟩
theorem ok46 : AFOk Tryd.prog ext 46 a46 := .of Tryd.func46 (by kernel_rfl) (by kernel_rfl) (by kernel_rfl) (by kernel_rfl)
/-! 47: internal/strconv.FormatInt -/
def b47 : AC :=
  (.seq (.reg [⟨(some 4), (.op (.mv (.k (.string ⟨#[]⟩)))), none⟩])
  (.seq (.seq (.reg [⟨(some 10), (.op (.mv (.t 1))), none⟩, ⟨(some 11), (.op (.bin .eql (.t 10) (.k (.int .i64 10)))), none⟩])
  (.cond (.t 11) (.seq (.seq (.reg [⟨(some 12), (.op (.mv (.t 0))), none⟩, ⟨(some 13), (.op (.bin .leq (.k (.int .i64 0)) (.t 12))), none⟩, ⟨(some 14), (.op (.mv (.t 13))), none⟩, ⟨(some 15), (.op (.mv (.t 0))), (some (14, true))⟩, ⟨(some 16), (.op (.bin .lss (.t 15) (.k (.int .i64 100)))), (some (14, true))⟩, ⟨(some 17), (.op (.pick (.t 14) (.t 16) (.k (.bool false)))), none⟩])
  (.cond (.t 17) (.seq (.reg [⟨(some 18), (.op (.mv (.t 0))), none⟩, ⟨(some 19), (.call (.f 54) [(.t 18)]), none⟩, ⟨(some 4), (.op (.mv (.t 19))), none⟩])
  .ret)
  .skip))
  (.seq (.reg [⟨(some 5), (.op (.alloc 94 [(.int .u8 0), (.int .u8 0), (.int .u8 0), (.int .u8 0), (.int .u8 0), (.int .u8 0), (.int .u8 0), (.int .u8 0), (.int .u8 0), (.int .u8 0), (.int .u8 0), (.int .u8 0), (.int .u8 0), (.int .u8 0), (.int .u8 0), (.int .u8 0), (.int .u8 0), (.int .u8 0), (.int .u8 0), (.int .u8 0), (.int .u8 0), (.int .u8 0), (.int .u8 0), (.int .u8 0)])), none⟩])
  (.seq (.reg [⟨(some 20), (.op (.mv (.t 0))), none⟩, ⟨(some 21), (.op (.conv (.int .u64) (.t 20))), none⟩, ⟨(some 6), (.op (.mv (.t 21))), none⟩])
  (.seq (.seq (.reg [⟨(some 22), (.op (.mv (.t 0))), none⟩, ⟨(some 23), (.op (.bin .lss (.t 22) (.k (.int .i64 0)))), none⟩])
  (.cond (.t 23) (.reg [⟨(some 24), (.op (.mv (.t 6))), none⟩, ⟨(some 25), (.op (.un .neg (.t 24))), none⟩, ⟨(some 6), (.op (.mv (.t 25))), none⟩])
  .skip))
  (.seq (.reg [⟨(some 26), (.op (.mv (.t 6))), none⟩, ⟨(some 27), (.call (.f 55) [(.t 26)]), none⟩, ⟨(some 7), (.op (.mv (.t 27))), none⟩])
  (.seq (.reg [⟨(some 28), (.op (.mv (.t 7))), none⟩, ⟨(some 29), (.op (.bin .add (.k (.int .i64 1)) (.t 28))), none⟩, ⟨(some 30), (.op (.sliceA 24 1 (.t 5) (some (.k (.int .i64 1))) (some (.t 29)))), none⟩, ⟨(some 31), (.op (.mv (.t 6))), none⟩, ⟨(some 32), (.call (.f 56) [(.t 30), (.t 31)]), none⟩])
  (.seq (.seq (.reg [⟨(some 33), (.op (.mv (.t 0))), none⟩, ⟨(some 34), (.op (.bin .lss (.t 33) (.k (.int .i64 0)))), none⟩])
  (.cond (.t 34) (.seq (.reg [⟨(some 35), (.op (.iaddrA 24 1 (.t 5) (.k (.int .i64 0)))), none⟩, ⟨none, (.op (.store 1 (.t 35) (.k (.int .u8 45)))), none⟩])
  (.seq (.reg [⟨(some 36), (.op (.mv (.t 7))), none⟩, ⟨(some 37), (.op (.bin .add (.k (.int .i64 1)) (.t 36))), none⟩, ⟨(some 38), (.op (.sliceA 24 1 (.t 5) none (some (.t 37)))), none⟩, ⟨(some 39), (.op (.tostr (.t 38))), none⟩, ⟨(some 4), (.op (.mv (.t 39))), none⟩])
  .ret))
  .skip))
  (.seq (.reg [⟨(some 40), (.op (.mv (.t 7))), none⟩, ⟨(some 41), (.op (.bin .add (.k (.int .i64 1)) (.t 40))), none⟩, ⟨(some 42), (.op (.sliceA 24 1 (.t 5) (some (.k (.int .i64 1))) (some (.t 41)))), none⟩, ⟨(some 43), (.op (.tostr (.t 42))), none⟩, ⟨(some 4), (.op (.mv (.t 43))), none⟩])
  .ret))))))))
  .skip))
  (.seq (.reg [⟨(some 45), (.op (.mv (.t 0))), none⟩, ⟨(some 46), (.op (.conv (.int .u64) (.t 45))), none⟩, ⟨(some 47), (.op (.mv (.t 1))), none⟩, ⟨(some 48), (.op (.mv (.t 0))), none⟩, ⟨(some 49), (.op (.bin .lss (.t 48) (.k (.int .i64 0)))), none⟩, ⟨(some 50), (.call (.f 57) [(.k (.slice none 0 0)), (.t 46), (.t 47), (.t 49), (.k (.bool false))]), none⟩, ⟨(some 44), (.op (.mv (.t 50))), none⟩, ⟨(some 51), (.op (.extract (.t 44) 0)), none⟩, ⟨(some 52), (.op (.extract (.t 44) 1)), none⟩, ⟨(some 8), (.op (.mv (.t 51))), none⟩, ⟨(some 9), (.op (.mv (.t 52))), none⟩])
  (.seq (.reg [⟨(some 53), (.op (.mv (.t 9))), none⟩, ⟨(some 4), (.op (.mv (.t 53))), none⟩])
  .ret))))
def a47 : AF := ⟨54, [(.t 4)], .code b47, none⟩
theorem ok47 : AFOk Tryd.prog ext 47 a47 := .of Tryd.func47 (by kernel_rfl) (by kernel_rfl) (by kernel_rfl) (by kernel_rfl)
/-! 52: rowlock/code.Word -/
def b52 : AC :=
  (.seq (.reg [⟨(some 2), (.op (.mv (.k (.string ⟨#[]⟩)))), none⟩])
  (.seq (.reg [⟨(some 3), (.op (.mv (.t 0))), none⟩, ⟨(some 4), (.call (.f 16) [(.t 3)]), none⟩, ⟨(some 5), (.op (.field false 0 1 (.t 4))), none⟩, ⟨(some 2), (.op (.mv (.t 5))), none⟩])
  .ret))
def a52 : AF := ⟨6, [(.t 2)], .code b52, none⟩
theorem ok52 : AFOk Tryd.prog ext 52 a52 := .of Tryd.func52 (by kernel_rfl) (by kernel_rfl) (by kernel_rfl) (by kernel_rfl)
/-! 53: rowlock/value.digit -/
def b53 : AC :=
  (.seq (.reg [⟨(some 2), (.op (.mv (.k (.int .u64 0)))), none⟩])
  (.seq (.block 0 (.seq (.reg [⟨(some 4), (.op (.mv (.t 0))), none⟩, ⟨(some 5), (.op (.bin .geq (.t 4) (.k (.int .u8 48)))), none⟩, ⟨(some 6), (.op (.mv (.t 5))), none⟩, ⟨(some 7), (.op (.mv (.t 0))), (some (6, true))⟩, ⟨(some 8), (.op (.bin .leq (.t 7) (.k (.int .u8 57)))), (some (6, true))⟩, ⟨(some 9), (.op (.pick (.t 6) (.t 8) (.k (.bool false)))), none⟩, ⟨(some 3), (.op (.mv (.t 9))), none⟩])
  (.cond (.t 3) (.seq (.reg [⟨(some 10), (.op (.mv (.t 0))), none⟩, ⟨(some 11), (.op (.bin .sub (.t 10) (.k (.int .u8 48)))), none⟩, ⟨(some 12), (.op (.conv (.int .u64) (.t 11))), none⟩, ⟨(some 2), (.op (.mv (.t 12))), none⟩])
  .ret)
  (.seq (.reg [⟨(some 14), (.op (.mv (.t 0))), none⟩, ⟨(some 15), (.op (.bin .geq (.t 14) (.k (.int .u8 97)))), none⟩, ⟨(some 16), (.op (.mv (.t 15))), none⟩, ⟨(some 17), (.op (.mv (.t 0))), (some (16, true))⟩, ⟨(some 18), (.op (.bin .leq (.t 17) (.k (.int .u8 102)))), (some (16, true))⟩, ⟨(some 19), (.op (.pick (.t 16) (.t 18) (.k (.bool false)))), none⟩, ⟨(some 13), (.op (.mv (.t 19))), none⟩])
  (.cond (.t 13) (.seq (.reg [⟨(some 20), (.op (.mv (.t 0))), none⟩, ⟨(some 21), (.op (.bin .sub (.t 20) (.k (.int .u8 97)))), none⟩, ⟨(some 22), (.op (.conv (.int .u64) (.t 21))), none⟩, ⟨(some 23), (.op (.bin .add (.t 22) (.k (.int .u64 10)))), none⟩, ⟨(some 2), (.op (.mv (.t 23))), none⟩])
  .ret)
  .skip)))))
  (.reg [⟨(some 24), (.op (.build [] [])), none⟩, ⟨(some 25), (.op (.mkiface 84 (.t 24))), none⟩, ⟨none, (.panic (.t 25)), none⟩])))
def a53 : AF := ⟨26, [(.t 2)], .code b53, none⟩
theorem ok53 : AFOk Tryd.prog ext 53 a53 := .of Tryd.func53 (by kernel_rfl) (by kernel_rfl) (by kernel_rfl) (by kernel_rfl)
/-! 54: internal/strconv.small -/
def b54 : AC :=
  (.seq (.reg [⟨(some 2), (.op (.mv (.k (.string ⟨#[]⟩)))), none⟩])
  (.seq (.seq (.reg [⟨(some 3), (.op (.mv (.t 0))), none⟩, ⟨(some 4), (.op (.bin .lss (.t 3) (.k (.int .i64 10)))), none⟩])
  (.cond (.t 4) (.seq (.reg [⟨(some 5), (.op (.mv (.t 0))), none⟩, ⟨(some 6), (.op (.mv (.t 0))), none⟩, ⟨(some 7), (.op (.bin .add (.t 6) (.k (.int .i64 1)))), none⟩, ⟨(some 8), (.op (.sliceS (.k (.string ⟨#[48, 49, 50, 51, 52, 53, 54, 55, 56, 57, 97, 98, 99, 100, 101, 102, 103, 104, 105, 106, 107, 108, 109, 110, 111, 112, 113, 114, 115, 116, 117, 118, 119, 120, 121, 122]⟩)) (some (.t 5)) (some (.t 7)))), none⟩, ⟨(some 2), (.op (.mv (.t 8))), none⟩])
  .ret)
  .skip))
  (.seq (.reg [⟨(some 9), (.op (.mv (.t 0))), none⟩, ⟨(some 10), (.op (.bin .mul (.t 9) (.k (.int .i64 2)))), none⟩, ⟨(some 11), (.op (.mv (.t 0))), none⟩, ⟨(some 12), (.op (.bin .mul (.t 11) (.k (.int .i64 2)))), none⟩, ⟨(some 13), (.op (.bin .add (.t 12) (.k (.int .i64 2)))), none⟩, ⟨(some 14), (.op (.sliceS (.k (.string ⟨#[48, 48, 48, 49, 48, 50, 48, 51, 48, 52, 48, 53, 48, 54, 48, 55, 48, 56, 48, 57, 49, 48, 49, 49, 49, 50, 49, 51, 49, 52, 49, 53, 49, 54, 49, 55, 49, 56, 49, 57, 50, 48, 50, 49, 50, 50, 50, 51, 50, 52, 50, 53, 50, 54, 50, 55, 50, 56, 50, 57, 51, 48, 51, 49, 51, 50, 51, 51, 51, 52, 51, 53, 51, 54, 51, 55, 51, 56, 51, 57, 52, 48, 52, 49, 52, 50, 52, 51, 52, 52, 52, 53, 52, 54, 52, 55, 52, 56, 52, 57, 53, 48, 53, 49, 53, 50, 53, 51, 53, 52, 53, 53, 53, 54, 53, 55, 53, 56, 53, 57, 54, 48, 54, 49, 54, 50, 54, 51, 54, 52, 54, 53, 54, 54, 54, 55, 54, 56, 54, 57, 55, 48, 55, 49, 55, 50, 55, 51, 55, 52, 55, 53, 55, 54, 55, 55, 55, 56, 55, 57, 56, 48, 56, 49, 56, 50, 56, 51, 56, 52, 56, 53, 56, 54, 56, 55, 56, 56, 56, 57, 57, 48, 57, 49, 57, 50, 57, 51, 57, 52, 57, 53, 57, 54, 57, 55, 57, 56, 57, 57]⟩)) (some (.t 10)) (some (.t 13)))), none⟩, ⟨(some 2), (.op (.mv (.t 14))), none⟩])
  .ret)))
def a54 : AF := ⟨15, [(.t 2)], .code b54, none⟩
theorem ok54 : AFOk Tryd.prog ext 54 a54 := .of Tryd.func54 (by kernel_rfl) (by kernel_rfl) (by kernel_rfl) (by kernel_rfl)
/-! 56: internal/strconv.formatBase10 -/
def b56 : AC :=
  (.seq (.reg [⟨(some 17), (.op (.mv (.t 0))), none⟩, ⟨(some 18), (.op (.lenS (.t 17))), none⟩, ⟨(some 4), (.op (.mv (.t 18))), none⟩])
  (.seq (.block 0 (.loop (.seq (.seq (.reg [⟨(some 19), (.op (.mv (.t 4))), none⟩, ⟨(some 20), (.op (.bin .geq (.t 19) (.k (.int .i64 8)))), none⟩])
   (.cond (.t 20) .skip
   (.exit 0)))
   (.block 1 (.seq (.reg [⟨(some 21), (.op (.mv (.t 1))), none⟩, ⟨(some 22), (.op (.bin .rem (.t 21) (.k (.int .u64 100000000)))), none⟩, ⟨(some 23), (.op (.conv (.int .u32) (.t 22))), none⟩, ⟨(some 5), (.op (.mv (.t 23))), none⟩])
   (.seq (.reg [⟨(some 24), (.op (.mv (.t 1))), none⟩, ⟨(some 25), (.op (.bin .quo (.t 24) (.k (.int .u64 100000000)))), none⟩, ⟨(some 1), (.op (.mv (.t 25))), none⟩])
   (.seq (.reg [⟨(some 26), (.op (.mv (.t 5))), none⟩, ⟨(some 27), (.op (.bin .quo (.t 26) (.k (.int .u32 10000)))), none⟩, ⟨(some 28), (.op (.mv (.t 5))), none⟩, ⟨(some 29), (.op (.bin .rem (.t 28) (.k (.int .u32 10000)))), none⟩, ⟨(some 6), (.op (.mv (.t 27))), none⟩, ⟨(some 7), (.op (.mv (.t 29))), none⟩])
   (.seq (.reg [⟨(some 30), (.op (.mv (.t 7))), none⟩, ⟨(some 31), (.op (.bin .quo (.t 30) (.k (.int .u32 100)))), none⟩, ⟨(some 32), (.op (.bin .mul (.t 31) (.k (.int .u32 2)))), none⟩, ⟨(some 33), (.op (.mv (.t 7))), none⟩, ⟨(some 34), (.op (.bin .rem (.t 33) (.k (.int .u32 100)))), none⟩, ⟨(some 35), (.op (.bin .mul (.t 34) (.k (.int .u32 2)))), none⟩, ⟨(some 8), (.op (.mv (.t 32))), none⟩, ⟨(some 9), (.op (.mv (.t 35))), none⟩])
   (.seq (.reg [⟨(some 36), (.op (.mv (.t 6))), none⟩, ⟨(some 37), (.op (.bin .quo (.t 36) (.k (.int .u32 100)))), none⟩, ⟨(some 38), (.op (.bin .mul (.t 37) (.k (.int .u32 2)))), none⟩, ⟨(some 39), (.op (.mv (.t 6))), none⟩, ⟨(some 40), (.op (.bin .rem (.t 39) (.k (.int .u32 100)))), none⟩, ⟨(some 41), (.op (.bin .mul (.t 40) (.k (.int .u32 2)))), none⟩, ⟨(some 10), (.op (.mv (.t 38))), none⟩, ⟨(some 11), (.op (.mv (.t 41))), none⟩])
   (.seq (.dreg (.quiet ⟨(some 42), (.op (.mv (.t 0))), none⟩ (.quiet ⟨(some 43), (.op (.mv (.t 4))), none⟩ (.quiet ⟨(some 44), (.op (.bin .sub (.t 43) (.k (.int .i64 1)))), none⟩ (.quiet ⟨(some 45), (.op (.mv (.t 0))), none⟩ (.quiet ⟨(some 46), (.op (.mv (.t 4))), none⟩ (.quiet ⟨(some 47), (.op (.bin .sub (.t 46) (.k (.int .i64 2)))), none⟩ (.quiet ⟨(some 48), (.op (.mv (.t 9))), none⟩ (.quiet ⟨(some 49), (.op (.bin .add (.t 48) (.k (.int .u32 1)))), none⟩ (.quiet ⟨(some 50), (.op (.indexS (.k (.string ⟨#[48, 48, 48, 49, 48, 50, 48, 51, 48, 52, 48, 53, 48, 54, 48, 55, 48, 56, 48, 57, 49, 48, 49, 49, 49, 50, 49, 51, 49, 52, 49, 53, 49, 54, 49, 55, 49, 56, 49, 57, 50, 48, 50, 49, 50, 50, 50, 51, 50, 52, 50, 53, 50, 54, 50, 55, 50, 56, 50, 57, 51, 48, 51, 49, 51, 50, 51, 51, 51, 52, 51, 53, 51, 54, 51, 55, 51, 56, 51, 57, 52, 48, 52, 49, 52, 50, 52, 51, 52, 52, 52, 53, 52, 54, 52, 55, 52, 56, 52, 57, 53, 48, 53, 49, 53, 50, 53, 51, 53, 52, 53, 53, 53, 54, 53, 55, 53, 56, 53, 57, 54, 48, 54, 49, 54, 50, 54, 51, 54, 52, 54, 53, 54, 54, 54, 55, 54, 56, 54, 57, 55, 48, 55, 49, 55, 50, 55, 51, 55, 52, 55, 53, 55, 54, 55, 55, 55, 56, 55, 57, 56, 48, 56, 49, 56, 50, 56, 51, 56, 52, 56, 53, 56, 54, 56, 55, 56, 56, 56, 57, 57, 48, 57, 49, 57, 50, 57, 51, 57, 52, 57, 53, 57, 54, 57, 55, 57, 56, 57, 57]⟩)) (.t 49))), none⟩ (.quiet ⟨(some 51), (.op (.mv (.t 9))), none⟩ (.quiet ⟨(some 52), (.op (.indexS (.k (.string ⟨#[48, 48, 48, 49, 48, 50, 48, 51, 48, 52, 48, 53, 48, 54, 48, 55, 48, 56, 48, 57, 49, 48, 49, 49, 49, 50, 49, 51, 49, 52, 49, 53, 49, 54, 49, 55, 49, 56, 49, 57, 50, 48, 50, 49, 50, 50, 50, 51, 50, 52, 50, 53, 50, 54, 50, 55, 50, 56, 50, 57, 51, 48, 51, 49, 51, 50, 51, 51, 51, 52, 51, 53, 51, 54, 51, 55, 51, 56, 51, 57, 52, 48, 52, 49, 52, 50, 52, 51, 52, 52, 52, 53, 52, 54, 52, 55, 52, 56, 52, 57, 53, 48, 53, 49, 53, 50, 53, 51, 53, 52, 53, 53, 53, 54, 53, 55, 53, 56, 53, 57, 54, 48, 54, 49, 54, 50, 54, 51, 54, 52, 54, 53, 54, 54, 54, 55, 54, 56, 54, 57, 55, 48, 55, 49, 55, 50, 55, 51, 55, 52, 55, 53, 55, 54, 55, 55, 55, 56, 55, 57, 56, 48, 56, 49, 56, 50, 56, 51, 56, 52, 56, 53, 56, 54, 56, 55, 56, 56, 56, 57, 57, 48, 57, 49, 57, 50, 57, 51, 57, 52, 57, 53, 57, 54, 57, 55, 57, 56, 57, 57]⟩)) (.t 51))), none⟩ (.quiet ⟨(some 53), (.op (.iaddrS 1 (.t 42) (.t 44))), none⟩ (.loud ⟨none, (.op (.store 1 (.t 53) (.t 50))), none⟩ [] (.quiet ⟨(some 54), (.op (.iaddrS 1 (.t 45) (.t 47))), none⟩ (.loud ⟨none, (.op (.store 1 (.t 54) (.t 52))), none⟩ [] .nil))))))))))))))))
   (.seq (.dreg (.quiet ⟨(some 55), (.op (.mv (.t 0))), none⟩ (.quiet ⟨(some 56), (.op (.mv (.t 4))), none⟩ (.quiet ⟨(some 57), (.op (.bin .sub (.t 56) (.k (.int .i64 3)))), none⟩ (.quiet ⟨(some 58), (.op (.mv (.t 0))), none⟩ (.quiet ⟨(some 59), (.op (.mv (.t 4))), none⟩ (.quiet ⟨(some 60), (.op (.bin .sub (.t 59) (.k (.int .i64 4)))), none⟩ (.quiet ⟨(some 61), (.op (.mv (.t 8))), none⟩ (.quiet ⟨(some 62), (.op (.bin .add (.t 61) (.k (.int .u32 1)))), none⟩ (.quiet ⟨(some 63), (.op (.indexS (.k (.string ⟨#[48, 48, 48, 49, 48, 50, 48, 51, 48, 52, 48, 53, 48, 54, 48, 55, 48, 56, 48, 57, 49, 48, 49, 49, 49, 50, 49, 51, 49, 52, 49, 53, 49, 54, 49, 55, 49, 56, 49, 57, 50, 48, 50, 49, 50, 50, 50, 51, 50, 52, 50, 53, 50, 54, 50, 55, 50, 56, 50, 57, 51, 48, 51, 49, 51, 50, 51, 51, 51, 52, 51, 53, 51, 54, 51, 55, 51, 56, 51, 57, 52, 48, 52, 49, 52, 50, 52, 51, 52, 52, 52, 53, 52, 54, 52, 55, 52, 56, 52, 57, 53, 48, 53, 49, 53, 50, 53, 51, 53, 52, 53, 53, 53, 54, 53, 55, 53, 56, 53, 57, 54, 48, 54, 49, 54, 50, 54, 51, 54, 52, 54, 53, 54, 54, 54, 55, 54, 56, 54, 57, 55, 48, 55, 49, 55, 50, 55, 51, 55, 52, 55, 53, 55, 54, 55, 55, 55, 56, 55, 57, 56, 48, 56, 49, 56, 50, 56, 51, 56, 52, 56, 53, 56, 54, 56, 55, 56, 56, 56, 57, 57, 48, 57, 49, 57, 50, 57, 51, 57, 52, 57, 53, 57, 54, 57, 55, 57, 56, 57, 57]⟩)) (.t 62))), none⟩ (.quiet ⟨(some 64), (.op (.mv (.t 8))), none⟩ (.quiet ⟨(some 65), (.op (.indexS (.k (.string ⟨#[48, 48, 48, 49, 48, 50, 48, 51, 48, 52, 48, 53, 48, 54, 48, 55, 48, 56, 48, 57, 49, 48, 49, 49, 49, 50, 49, 51, 49, 52, 49, 53, 49, 54, 49, 55, 49, 56, 49, 57, 50, 48, 50, 49, 50, 50, 50, 51, 50, 52, 50, 53, 50, 54, 50, 55, 50, 56, 50, 57, 51, 48, 51, 49, 51, 50, 51, 51, 51, 52, 51, 53, 51, 54, 51, 55, 51, 56, 51, 57, 52, 48, 52, 49, 52, 50, 52, 51, 52, 52, 52, 53, 52, 54, 52, 55, 52, 56, 52, 57, 53, 48, 53, 49, 53, 50, 53, 51, 53, 52, 53, 53, 53, 54, 53, 55, 53, 56, 53, 57, 54, 48, 54, 49, 54, 50, 54, 51, 54, 52, 54, 53, 54, 54, 54, 55, 54, 56, 54, 57, 55, 48, 55, 49, 55, 50, 55, 51, 55, 52, 55, 53, 55, 54, 55, 55, 55, 56, 55, 57, 56, 48, 56, 49, 56, 50, 56, 51, 56, 52, 56, 53, 56, 54, 56, 55, 56, 56, 56, 57, 57, 48, 57, 49, 57, 50, 57, 51, 57, 52, 57, 53, 57, 54, 57, 55, 57, 56, 57, 57]⟩)) (.t 64))), none⟩ (.quiet ⟨(some 66), (.op (.iaddrS 1 (.t 55) (.t 57))), none⟩ (.loud ⟨none, (.op (.store 1 (.t 66) (.t 63))), none⟩ [] (.quiet ⟨(some 67), (.op (.iaddrS 1 (.t 58) (.t 60))), none⟩ (.loud ⟨none, (.op (.store 1 (.t 67) (.t 65))), none⟩ [] .nil))))))))))))))))
   (.seq (.dreg (.quiet ⟨(some 68), (.op (.mv (.t 0))), none⟩ (.quiet ⟨(some 69), (.op (.mv (.t 4))), none⟩ (.quiet ⟨(some 70), (.op (.bin .sub (.t 69) (.k (.int .i64 5)))), none⟩ (.quiet ⟨(some 71), (.op (.mv (.t 0))), none⟩ (.quiet ⟨(some 72), (.op (.mv (.t 4))), none⟩ (.quiet ⟨(some 73), (.op (.bin .sub (.t 72) (.k (.int .i64 6)))), none⟩ (.quiet ⟨(some 74), (.op (.mv (.t 11))), none⟩ (.quiet ⟨(some 75), (.op (.bin .add (.t 74) (.k (.int .u32 1)))), none⟩ (.quiet ⟨(some 76), (.op (.indexS (.k (.string ⟨#[48, 48, 48, 49, 48, 50, 48, 51, 48, 52, 48, 53, 48, 54, 48, 55, 48, 56, 48, 57, 49, 48, 49, 49, 49, 50, 49, 51, 49, 52, 49, 53, 49, 54, 49, 55, 49, 56, 49, 57, 50, 48, 50, 49, 50, 50, 50, 51, 50, 52, 50, 53, 50, 54, 50, 55, 50, 56, 50, 57, 51, 48, 51, 49, 51, 50, 51, 51, 51, 52, 51, 53, 51, 54, 51, 55, 51, 56, 51, 57, 52, 48, 52, 49, 52, 50, 52, 51, 52, 52, 52, 53, 52, 54, 52, 55, 52, 56, 52, 57, 53, 48, 53, 49, 53, 50, 53, 51, 53, 52, 53, 53, 53, 54, 53, 55, 53, 56, 53, 57, 54, 48, 54, 49, 54, 50, 54, 51, 54, 52, 54, 53, 54, 54, 54, 55, 54, 56, 54, 57, 55, 48, 55, 49, 55, 50, 55, 51, 55, 52, 55, 53, 55, 54, 55, 55, 55, 56, 55, 57, 56, 48, 56, 49, 56, 50, 56, 51, 56, 52, 56, 53, 56, 54, 56, 55, 56, 56, 56, 57, 57, 48, 57, 49, 57, 50, 57, 51, 57, 52, 57, 53, 57, 54, 57, 55, 57, 56, 57, 57]⟩)) (.t 75))), none⟩ (.quiet ⟨(some 77), (.op (.mv (.t 11))), none⟩ (.quiet ⟨(some 78), (.op (.indexS (.k (.string ⟨#[48, 48, 48, 49, 48, 50, 48, 51, 48, 52, 48, 53, 48, 54, 48, 55, 48, 56, 48, 57, 49, 48, 49, 49, 49, 50, 49, 51, 49, 52, 49, 53, 49, 54, 49, 55, 49, 56, 49, 57, 50, 48, 50, 49, 50, 50, 50, 51, 50, 52, 50, 53, 50, 54, 50, 55, 50, 56, 50, 57, 51, 48, 51, 49, 51, 50, 51, 51, 51, 52, 51, 53, 51, 54, 51, 55, 51, 56, 51, 57, 52, 48, 52, 49, 52, 50, 52, 51, 52, 52, 52, 53, 52, 54, 52, 55, 52, 56, 52, 57, 53, 48, 53, 49, 53, 50, 53, 51, 53, 52, 53, 53, 53, 54, 53, 55, 53, 56, 53, 57, 54, 48, 54, 49, 54, 50, 54, 51, 54, 52, 54, 53, 54, 54, 54, 55, 54, 56, 54, 57, 55, 48, 55, 49, 55, 50, 55, 51, 55, 52, 55, 53, 55, 54, 55, 55, 55, 56, 55, 57, 56, 48, 56, 49, 56, 50, 56, 51, 56, 52, 56, 53, 56, 54, 56, 55, 56, 56, 56, 57, 57, 48, 57, 49, 57, 50, 57, 51, 57, 52, 57, 53, 57, 54, 57, 55, 57, 56, 57, 57]⟩)) (.t 77))), none⟩ (.quiet ⟨(some 79), (.op (.iaddrS 1 (.t 68) (.t 70))), none⟩ (.loud ⟨none, (.op (.store 1 (.t 79) (.t 76))), none⟩ [] (.quiet ⟨(some 80), (.op (.iaddrS 1 (.t 71) (.t 73))), none⟩ (.loud ⟨none, (.op (.store 1 (.t 80) (.t 78))), none⟩ [] .nil))))))))))))))))
   (.seq (.dreg (.quiet ⟨(some 81), (.op (.mv (.t 0))), none⟩ (.quiet ⟨(some 82), (.op (.mv (.t 4))), none⟩ (.quiet ⟨(some 83), (.op (.bin .sub (.t 82) (.k (.int .i64 7)))), none⟩ (.quiet ⟨(some 84), (.op (.mv (.t 0))), none⟩ (.quiet ⟨(some 85), (.op (.mv (.t 4))), none⟩ (.quiet ⟨(some 86), (.op (.bin .sub (.t 85) (.k (.int .i64 8)))), none⟩ (.quiet ⟨(some 87), (.op (.mv (.t 10))), none⟩ (.quiet ⟨(some 88), (.op (.bin .add (.t 87) (.k (.int .u32 1)))), none⟩ (.quiet ⟨(some 89), (.op (.indexS (.k (.string ⟨#[48, 48, 48, 49, 48, 50, 48, 51, 48, 52, 48, 53, 48, 54, 48, 55, 48, 56, 48, 57, 49, 48, 49, 49, 49, 50, 49, 51, 49, 52, 49, 53, 49, 54, 49, 55, 49, 56, 49, 57, 50, 48, 50, 49, 50, 50, 50, 51, 50, 52, 50, 53, 50, 54, 50, 55, 50, 56, 50, 57, 51, 48, 51, 49, 51, 50, 51, 51, 51, 52, 51, 53, 51, 54, 51, 55, 51, 56, 51, 57, 52, 48, 52, 49, 52, 50, 52, 51, 52, 52, 52, 53, 52, 54, 52, 55, 52, 56, 52, 57, 53, 48, 53, 49, 53, 50, 53, 51, 53, 52, 53, 53, 53, 54, 53, 55, 53, 56, 53, 57, 54, 48, 54, 49, 54, 50, 54, 51, 54, 52, 54, 53, 54, 54, 54, 55, 54, 56, 54, 57, 55, 48, 55, 49, 55, 50, 55, 51, 55, 52, 55, 53, 55, 54, 55, 55, 55, 56, 55, 57, 56, 48, 56, 49, 56, 50, 56, 51, 56, 52, 56, 53, 56, 54, 56, 55, 56, 56, 56, 57, 57, 48, 57, 49, 57, 50, 57, 51, 57, 52, 57, 53, 57, 54, 57, 55, 57, 56, 57, 57]⟩)) (.t 88))), none⟩ (.quiet ⟨(some 90), (.op (.mv (.t 10))), none⟩ (.quiet ⟨(some 91), (.op (.indexS (.k (.string ⟨#[48, 48, 48, 49, 48, 50, 48, 51, 48, 52, 48, 53, 48, 54, 48, 55, 48, 56, 48, 57, 49, 48, 49, 49, 49, 50, 49, 51, 49, 52, 49, 53, 49, 54, 49, 55, 49, 56, 49, 57, 50, 48, 50, 49, 50, 50, 50, 51, 50, 52, 50, 53, 50, 54, 50, 55, 50, 56, 50, 57, 51, 48, 51, 49, 51, 50, 51, 51, 51, 52, 51, 53, 51, 54, 51, 55, 51, 56, 51, 57, 52, 48, 52, 49, 52, 50, 52, 51, 52, 52, 52, 53, 52, 54, 52, 55, 52, 56, 52, 57, 53, 48, 53, 49, 53, 50, 53, 51, 53, 52, 53, 53, 53, 54, 53, 55, 53, 56, 53, 57, 54, 48, 54, 49, 54, 50, 54, 51, 54, 52, 54, 53, 54, 54, 54, 55, 54, 56, 54, 57, 55, 48, 55, 49, 55, 50, 55, 51, 55, 52, 55, 53, 55, 54, 55, 55, 55, 56, 55, 57, 56, 48, 56, 49, 56, 50, 56, 51, 56, 52, 56, 53, 56, 54, 56, 55, 56, 56, 56, 57, 57, 48, 57, 49, 57, 50, 57, 51, 57, 52, 57, 53, 57, 54, 57, 55, 57, 56, 57, 57]⟩)) (.t 90))), none⟩ (.quiet ⟨(some 92), (.op (.iaddrS 1 (.t 81) (.t 83))), none⟩ (.loud ⟨none, (.op (.store 1 (.t 92) (.t 89))), none⟩ [] (.quiet ⟨(some 93), (.op (.iaddrS 1 (.t 84) (.t 86))), none⟩ (.loud ⟨none, (.op (.store 1 (.t 93) (.t 91))), none⟩ [] .nil))))))))))))))))
   (.reg [⟨(some 94), (.op (.mv (.t 4))), none⟩, ⟨(some 95), (.op (.bin .sub (.t 94) (.k (.int .i64 8)))), none⟩, ⟨(some 4), (.op (.mv (.t 95))), none⟩]))))))))))))))
  (.seq (.reg [⟨(some 96), (.op (.mv (.t 1))), none⟩, ⟨(some 97), (.op (.conv (.int .u32) (.t 96))), none⟩, ⟨(some 12), (.op (.mv (.t 97))), none⟩])
  (.seq (.seq (.reg [⟨(some 98), (.op (.mv (.t 4))), none⟩, ⟨(some 99), (.op (.bin .geq (.t 98) (.k (.int .i64 4)))), none⟩])
  (.cond (.t 99) (.seq (.reg [⟨(some 100), (.op (.mv (.t 12))), none⟩, ⟨(some 101), (.op (.bin .rem (.t 100) (.k (.int .u32 10000)))), none⟩, ⟨(some 13), (.op (.mv (.t 101))), none⟩])
  (.seq (.reg [⟨(some 102), (.op (.mv (.t 12))), none⟩, ⟨(some 103), (.op (.bin .quo (.t 102) (.k (.int .u32 10000)))), none⟩, ⟨(some 12), (.op (.mv (.t 103))), none⟩])
  (.seq (.reg [⟨(some 104), (.op (.mv (.t 13))), none⟩, ⟨(some 105), (.op (.bin .quo (.t 104) (.k (.int .u32 100)))), none⟩, ⟨(some 106), (.op (.bin .mul (.t 105) (.k (.int .u32 2)))), none⟩, ⟨(some 107), (.op (.mv (.t 13))), none⟩, ⟨(some 108), (.op (.bin .rem (.t 107) (.k (.int .u32 100)))), none⟩, ⟨(some 109), (.op (.bin .mul (.t 108) (.k (.int .u32 2)))), none⟩, ⟨(some 14), (.op (.mv (.t 106))), none⟩, ⟨(some 15), (.op (.mv (.t 109))), none⟩])
  (.seq (.dreg (.quiet ⟨(some 110), (.op (.mv (.t 0))), none⟩ (.quiet ⟨(some 111), (.op (.mv (.t 4))), none⟩ (.quiet ⟨(some 112), (.op (.bin .sub (.t 111) (.k (.int .i64 1)))), none⟩ (.quiet ⟨(some 113), (.op (.mv (.t 0))), none⟩ (.quiet ⟨(some 114), (.op (.mv (.t 4))), none⟩ (.quiet ⟨(some 115), (.op (.bin .sub (.t 114) (.k (.int .i64 2)))), none⟩ (.quiet ⟨(some 116), (.op (.mv (.t 15))), none⟩ (.quiet ⟨(some 117), (.op (.bin .add (.t 116) (.k (.int .u32 1)))), none⟩ (.quiet ⟨(some 118), (.op (.indexS (.k (.string ⟨#[48, 48, 48, 49, 48, 50, 48, 51, 48, 52, 48, 53, 48, 54, 48, 55, 48, 56, 48, 57, 49, 48, 49, 49, 49, 50, 49, 51, 49, 52, 49, 53, 49, 54, 49, 55, 49, 56, 49, 57, 50, 48, 50, 49, 50, 50, 50, 51, 50, 52, 50, 53, 50, 54, 50, 55, 50, 56, 50, 57, 51, 48, 51, 49, 51, 50, 51, 51, 51, 52, 51, 53, 51, 54, 51, 55, 51, 56, 51, 57, 52, 48, 52, 49, 52, 50, 52, 51, 52, 52, 52, 53, 52, 54, 52, 55, 52, 56, 52, 57, 53, 48, 53, 49, 53, 50, 53, 51, 53, 52, 53, 53, 53, 54, 53, 55, 53, 56, 53, 57, 54, 48, 54, 49, 54, 50, 54, 51, 54, 52, 54, 53, 54, 54, 54, 55, 54, 56, 54, 57, 55, 48, 55, 49, 55, 50, 55, 51, 55, 52, 55, 53, 55, 54, 55, 55, 55, 56, 55, 57, 56, 48, 56, 49, 56, 50, 56, 51, 56, 52, 56, 53, 56, 54, 56, 55, 56, 56, 56, 57, 57, 48, 57, 49, 57, 50, 57, 51, 57, 52, 57, 53, 57, 54, 57, 55, 57, 56, 57, 57]⟩)) (.t 117))), none⟩ (.quiet ⟨(some 119), (.op (.mv (.t 15))), none⟩ (.quiet ⟨(some 120), (.op (.indexS (.k (.string ⟨#[48, 48, 48, 49, 48, 50, 48, 51, 48, 52, 48, 53, 48, 54, 48, 55, 48, 56, 48, 57, 49, 48, 49, 49, 49, 50, 49, 51, 49, 52, 49, 53, 49, 54, 49, 55, 49, 56, 49, 57, 50, 48, 50, 49, 50, 50, 50, 51, 50, 52, 50, 53, 50, 54, 50, 55, 50, 56, 50, 57, 51, 48, 51, 49, 51, 50, 51, 51, 51, 52, 51, 53, 51, 54, 51, 55, 51, 56, 51, 57, 52, 48, 52, 49, 52, 50, 52, 51, 52, 52, 52, 53, 52, 54, 52, 55, 52, 56, 52, 57, 53, 48, 53, 49, 53, 50, 53, 51, 53, 52, 53, 53, 53, 54, 53, 55, 53, 56, 53, 57, 54, 48, 54, 49, 54, 50, 54, 51, 54, 52, 54, 53, 54, 54, 54, 55, 54, 56, 54, 57, 55, 48, 55, 49, 55, 50, 55, 51, 55, 52, 55, 53, 55, 54, 55, 55, 55, 56, 55, 57, 56, 48, 56, 49, 56, 50, 56, 51, 56, 52, 56, 53, 56, 54, 56, 55, 56, 56, 56, 57, 57, 48, 57, 49, 57, 50, 57, 51, 57, 52, 57, 53, 57, 54, 57, 55, 57, 56, 57, 57]⟩)) (.t 119))), none⟩ (.quiet ⟨(some 121), (.op (.iaddrS 1 (.t 110) (.t 112))), none⟩ (.loud ⟨none, (.op (.store 1 (.t 121) (.t 118))), none⟩ [] (.quiet ⟨(some 122), (.op (.iaddrS 1 (.t 113) (.t 115))), none⟩ (.loud ⟨none, (.op (.store 1 (.t 122) (.t 120))), none⟩ [] .nil))))))))))))))))
  (.seq (.dreg (.quiet ⟨(some 123), (.op (.mv (.t 0))), none⟩ (.quiet ⟨(some 124), (.op (.mv (.t 4))), none⟩ (.quiet ⟨(some 125), (.op (.bin .sub (.t 124) (.k (.int .i64 3)))), none⟩ (.quiet ⟨(some 126), (.op (.mv (.t 0))), none⟩ (.quiet ⟨(some 127), (.op (.mv (.t 4))), none⟩ (.quiet ⟨(some 128), (.op (.bin .sub (.t 127) (.k (.int .i64 4)))), none⟩ (.quiet ⟨(some 129), (.op (.mv (.t 14))), none⟩ (.quiet ⟨(some 130), (.op (.bin .add (.t 129) (.k (.int .u32 1)))), none⟩ (.quiet ⟨(some 131), (.op (.indexS (.k (.string ⟨#[48, 48, 48, 49, 48, 50, 48, 51, 48, 52, 48, 53, 48, 54, 48, 55, 48, 56, 48, 57, 49, 48, 49, 49, 49, 50, 49, 51, 49, 52, 49, 53, 49, 54, 49, 55, 49, 56, 49, 57, 50, 48, 50, 49, 50, 50, 50, 51, 50, 52, 50, 53, 50, 54, 50, 55, 50, 56, 50, 57, 51, 48, 51, 49, 51, 50, 51, 51, 51, 52, 51, 53, 51, 54, 51, 55, 51, 56, 51, 57, 52, 48, 52, 49, 52, 50, 52, 51, 52, 52, 52, 53, 52, 54, 52, 55, 52, 56, 52, 57, 53, 48, 53, 49, 53, 50, 53, 51, 53, 52, 53, 53, 53, 54, 53, 55, 53, 56, 53, 57, 54, 48, 54, 49, 54, 50, 54, 51, 54, 52, 54, 53, 54, 54, 54, 55, 54, 56, 54, 57, 55, 48, 55, 49, 55, 50, 55, 51, 55, 52, 55, 53, 55, 54, 55, 55, 55, 56, 55, 57, 56, 48, 56, 49, 56, 50, 56, 51, 56, 52, 56, 53, 56, 54, 56, 55, 56, 56, 56, 57, 57, 48, 57, 49, 57, 50, 57, 51, 57, 52, 57, 53, 57, 54, 57, 55, 57, 56, 57, 57]⟩)) (.t 130))), none⟩ (.quiet ⟨(some 132), (.op (.mv (.t 14))), none⟩ (.quiet ⟨(some 133), (.op (.indexS (.k (.string ⟨#[48, 48, 48, 49, 48, 50, 48, 51, 48, 52, 48, 53, 48, 54, 48, 55, 48, 56, 48, 57, 49, 48, 49, 49, 49, 50, 49, 51, 49, 52, 49, 53, 49, 54, 49, 55, 49, 56, 49, 57, 50, 48, 50, 49, 50, 50, 50, 51, 50, 52, 50, 53, 50, 54, 50, 55, 50, 56, 50, 57, 51, 48, 51, 49, 51, 50, 51, 51, 51, 52, 51, 53, 51, 54, 51, 55, 51, 56, 51, 57, 52, 48, 52, 49, 52, 50, 52, 51, 52, 52, 52, 53, 52, 54, 52, 55, 52, 56, 52, 57, 53, 48, 53, 49, 53, 50, 53, 51, 53, 52, 53, 53, 53, 54, 53, 55, 53, 56, 53, 57, 54, 48, 54, 49, 54, 50, 54, 51, 54, 52, 54, 53, 54, 54, 54, 55, 54, 56, 54, 57, 55, 48, 55, 49, 55, 50, 55, 51, 55, 52, 55, 53, 55, 54, 55, 55, 55, 56, 55, 57, 56, 48, 56, 49, 56, 50, 56, 51, 56, 52, 56, 53, 56, 54, 56, 55, 56, 56, 56, 57, 57, 48, 57, 49, 57, 50, 57, 51, 57, 52, 57, 53, 57, 54, 57, 55, 57, 56, 57, 57]⟩)) (.t 132))), none⟩ (.quiet ⟨(some 134), (.op (.iaddrS 1 (.t 123) (.t 125))), none⟩ (.loud ⟨none, (.op (.store 1 (.t 134) (.t 131))), none⟩ [] (.quiet ⟨(some 135), (.op (.iaddrS 1 (.t 126) (.t 128))), none⟩ (.loud ⟨none, (.op (.store 1 (.t 135) (.t 133))), none⟩ [] .nil))))))))))))))))
  (.reg [⟨(some 136), (.op (.mv (.t 4))), none⟩, ⟨(some 137), (.op (.bin .sub (.t 136) (.k (.int .i64 4)))), none⟩, ⟨(some 4), (.op (.mv (.t 137))), none⟩]))))))
  .skip))
  (.seq (.seq (.reg [⟨(some 138), (.op (.mv (.t 4))), none⟩, ⟨(some 139), (.op (.bin .geq (.t 138) (.k (.int .i64 2)))), none⟩])
  (.cond (.t 139) (.seq (.reg [⟨(some 140), (.op (.mv (.t 12))), none⟩, ⟨(some 141), (.op (.bin .rem (.t 140) (.k (.int .u32 100)))), none⟩, ⟨(some 142), (.op (.bin .mul (.t 141) (.k (.int .u32 2)))), none⟩, ⟨(some 16), (.op (.mv (.t 142))), none⟩])
  (.seq (.reg [⟨(some 143), (.op (.mv (.t 12))), none⟩, ⟨(some 144), (.op (.bin .quo (.t 143) (.k (.int .u32 100)))), none⟩, ⟨(some 12), (.op (.mv (.t 144))), none⟩])
  (.seq (.dreg (.quiet ⟨(some 145), (.op (.mv (.t 0))), none⟩ (.quiet ⟨(some 146), (.op (.mv (.t 4))), none⟩ (.quiet ⟨(some 147), (.op (.bin .sub (.t 146) (.k (.int .i64 1)))), none⟩ (.quiet ⟨(some 148), (.op (.mv (.t 0))), none⟩ (.quiet ⟨(some 149), (.op (.mv (.t 4))), none⟩ (.quiet ⟨(some 150), (.op (.bin .sub (.t 149) (.k (.int .i64 2)))), none⟩ (.quiet ⟨(some 151), (.op (.mv (.t 16))), none⟩ (.quiet ⟨(some 152), (.op (.bin .add (.t 151) (.k (.int .u32 1)))), none⟩ (.quiet ⟨(some 153), (.op (.indexS (.k (.string ⟨#[48, 48, 48, 49, 48, 50, 48, 51, 48, 52, 48, 53, 48, 54, 48, 55, 48, 56, 48, 57, 49, 48, 49, 49, 49, 50, 49, 51, 49, 52, 49, 53, 49, 54, 49, 55, 49, 56, 49, 57, 50, 48, 50, 49, 50, 50, 50, 51, 50, 52, 50, 53, 50, 54, 50, 55, 50, 56, 50, 57, 51, 48, 51, 49, 51, 50, 51, 51, 51, 52, 51, 53, 51, 54, 51, 55, 51, 56, 51, 57, 52, 48, 52, 49, 52, 50, 52, 51, 52, 52, 52, 53, 52, 54, 52, 55, 52, 56, 52, 57, 53, 48, 53, 49, 53, 50, 53, 51, 53, 52, 53, 53, 53, 54, 53, 55, 53, 56, 53, 57, 54, 48, 54, 49, 54, 50, 54, 51, 54, 52, 54, 53, 54, 54, 54, 55, 54, 56, 54, 57, 55, 48, 55, 49, 55, 50, 55, 51, 55, 52, 55, 53, 55, 54, 55, 55, 55, 56, 55, 57, 56, 48, 56, 49, 56, 50, 56, 51, 56, 52, 56, 53, 56, 54, 56, 55, 56, 56, 56, 57, 57, 48, 57, 49, 57, 50, 57, 51, 57, 52, 57, 53, 57, 54, 57, 55, 57, 56, 57, 57]⟩)) (.t 152))), none⟩ (.quiet ⟨(some 154), (.op (.mv (.t 16))), none⟩ (.quiet ⟨(some 155), (.op (.indexS (.k (.string ⟨#[48, 48, 48, 49, 48, 50, 48, 51, 48, 52, 48, 53, 48, 54, 48, 55, 48, 56, 48, 57, 49, 48, 49, 49, 49, 50, 49, 51, 49, 52, 49, 53, 49, 54, 49, 55, 49, 56, 49, 57, 50, 48, 50, 49, 50, 50, 50, 51, 50, 52, 50, 53, 50, 54, 50, 55, 50, 56, 50, 57, 51, 48, 51, 49, 51, 50, 51, 51, 51, 52, 51, 53, 51, 54, 51, 55, 51, 56, 51, 57, 52, 48, 52, 49, 52, 50, 52, 51, 52, 52, 52, 53, 52, 54, 52, 55, 52, 56, 52, 57, 53, 48, 53, 49, 53, 50, 53, 51, 53, 52, 53, 53, 53, 54, 53, 55, 53, 56, 53, 57, 54, 48, 54, 49, 54, 50, 54, 51, 54, 52, 54, 53, 54, 54, 54, 55, 54, 56, 54, 57, 55, 48, 55, 49, 55, 50, 55, 51, 55, 52, 55, 53, 55, 54, 55, 55, 55, 56, 55, 57, 56, 48, 56, 49, 56, 50, 56, 51, 56, 52, 56, 53, 56, 54, 56, 55, 56, 56, 56, 57, 57, 48, 57, 49, 57, 50, 57, 51, 57, 52, 57, 53, 57, 54, 57, 55, 57, 56, 57, 57]⟩)) (.t 154))), none⟩ (.quiet ⟨(some 156), (.op (.iaddrS 1 (.t 145) (.t 147))), none⟩ (.loud ⟨none, (.op (.store 1 (.t 156) (.t 153))), none⟩ [] (.quiet ⟨(some 157), (.op (.iaddrS 1 (.t 148) (.t 150))), none⟩ (.loud ⟨none, (.op (.store 1 (.t 157) (.t 155))), none⟩ [] .nil))))))))))))))))
  (.reg [⟨(some 158), (.op (.mv (.t 4))), none⟩, ⟨(some 159), (.op (.bin .sub (.t 158) (.k (.int .i64 2)))), none⟩, ⟨(some 4), (.op (.mv (.t 159))), none⟩]))))
  .skip))
  (.seq (.reg [⟨(some 160), (.op (.mv (.t 4))), none⟩, ⟨(some 161), (.op (.bin .gtr (.t 160) (.k (.int .i64 0)))), none⟩])
  (.cond (.t 161) (.reg [⟨(some 162), (.op (.mv (.t 0))), none⟩, ⟨(some 163), (.op (.mv (.t 12))), none⟩, ⟨(some 164), (.op (.bin .add (.k (.int .u32 48)) (.t 163))), none⟩, ⟨(some 165), (.op (.conv (.int .u8) (.t 164))), none⟩, ⟨(some 166), (.op (.iaddrS 1 (.t 162) (.k (.int .i64 0)))), none⟩, ⟨none, (.op (.store 1 (.t 166) (.t 165))), none⟩])
  .skip)))))))
def a56 : AF := ⟨167, [], .code b56, none⟩
theorem ok56 : AFOk Tryd.prog ext 56 a56 := .of Tryd.func56 (by kernel_rfl) (by kernel_rfl) (by kernel_rfl) (by kernel_rfl)
/-! 57: internal/strconv.formatBits -/
def b57 : AC :=
  (.seq (.reg [⟨(some 10), (.op (.mv (.k (.slice none 0 0)))), none⟩, ⟨(some 11), (.op (.mv (.k (.string ⟨#[]⟩)))), none⟩])
  (.seq (.seq (.reg [⟨(some 19), (.op (.mv (.t 2))), none⟩, ⟨(some 20), (.op (.bin .lss (.t 19) (.k (.int .i64 2)))), none⟩, ⟨(some 21), (.op (.mv (.t 20))), none⟩, ⟨(some 22), (.op (.mv (.t 2))), (some (21, false))⟩, ⟨(some 23), (.op (.bin .eql (.t 22) (.k (.int .i64 10)))), (some (21, false))⟩, ⟨(some 24), (.op (.pick (.t 21) (.k (.bool true)) (.t 23))), none⟩, ⟨(some 25), (.op (.mv (.t 24))), none⟩, ⟨(some 26), (.op (.mv (.t 2))), (some (25, false))⟩, ⟨(some 27), (.op (.bin .gtr (.t 26) (.k (.int .i64 36)))), (some (25, false))⟩, ⟨(some 28), (.op (.pick (.t 25) (.k (.bool true)) (.t 27))), none⟩])
  (.cond (.t 28) (.reg [⟨(some 29), (.op (.mkiface 9 (.k (.string ⟨#[115, 116, 114, 99, 111, 110, 118, 58, 32, 105, 108, 108, 101, 103, 97, 108, 32, 65, 112, 112, 101, 110, 100, 73, 110, 116, 47, 70, 111, 114, 109, 97, 116, 73, 110, 116, 32, 98, 97, 115, 101]⟩)))), none⟩, ⟨none, (.panic (.t 29)), none⟩])
  .skip))
  (.seq (.reg [⟨(some 12), (.op (.alloc 107 [(.int .u8 0), (.int .u8 0), (.int .u8 0), (.int .u8 0), (.int .u8 0), (.int .u8 0), (.int .u8 0), (.int .u8 0), (.int .u8 0), (.int .u8 0), (.int .u8 0), (.int .u8 0), (.int .u8 0), (.int .u8 0), (.int .u8 0), (.int .u8 0), (.int .u8 0), (.int .u8 0), (.int .u8 0), (.int .u8 0), (.int .u8 0), (.int .u8 0), (.int .u8 0), (.int .u8 0), (.int .u8 0), (.int .u8 0), (.int .u8 0), (.int .u8 0), (.int .u8 0), (.int .u8 0), (.int .u8 0), (.int .u8 0), (.int .u8 0), (.int .u8 0), (.int .u8 0), (.int .u8 0), (.int .u8 0), (.int .u8 0), (.int .u8 0), (.int .u8 0), (.int .u8 0), (.int .u8 0), (.int .u8 0), (.int .u8 0), (.int .u8 0), (.int .u8 0), (.int .u8 0), (.int .u8 0), (.int .u8 0), (.int .u8 0), (.int .u8 0), (.int .u8 0), (.int .u8 0), (.int .u8 0), (.int .u8 0), (.int .u8 0), (.int .u8 0), (.int .u8 0), (.int .u8 0), (.int .u8 0), (.int .u8 0), (.int .u8 0), (.int .u8 0), (.int .u8 0), (.int .u8 0)])), none⟩])
  (.seq (.reg [⟨(some 13), (.op (.mv (.k (.int .i64 65)))), none⟩])
  (.seq (.seq (.reg [⟨(some 30), (.op (.mv (.t 3))), none⟩])
  (.cond (.t 30) (.reg [⟨(some 31), (.op (.mv (.t 1))), none⟩, ⟨(some 32), (.op (.un .neg (.t 31))), none⟩, ⟨(some 1), (.op (.mv (.t 32))), none⟩])
  .skip))
  (.seq (.seq (.reg [⟨(some 33), (.op (.mv (.t 2))), none⟩, ⟨(some 34), (.call (.f 67) [(.t 33)]), none⟩])
  (.cond (.t 34) (.seq (.reg [⟨(some 35), (.op (.mv (.t 2))), none⟩, ⟨(some 36), (.op (.conv (.int .u64) (.t 35))), none⟩, ⟨(some 37), (.call (.f 68) [(.t 36)]), none⟩, ⟨(some 38), (.op (.conv (.int .u64) (.t 37))), none⟩, ⟨(some 14), (.op (.mv (.t 38))), none⟩])
  (.seq (.reg [⟨(some 39), (.op (.mv (.t 2))), none⟩, ⟨(some 40), (.op (.conv (.int .u64) (.t 39))), none⟩, ⟨(some 15), (.op (.mv (.t 40))), none⟩])
  (.seq (.reg [⟨(some 41), (.op (.mv (.t 2))), none⟩, ⟨(some 42), (.op (.conv (.int .u64) (.t 41))), none⟩, ⟨(some 43), (.op (.bin .sub (.t 42) (.k (.int .u64 1)))), none⟩, ⟨(some 16), (.op (.mv (.t 43))), none⟩])
  (.seq (.block 0 (.loop (.seq (.seq (.reg [⟨(some 44), (.op (.mv (.t 1))), none⟩, ⟨(some 45), (.op (.mv (.t 15))), none⟩, ⟨(some 46), (.op (.bin .geq (.t 44) (.t 45))), none⟩])
   (.cond (.t 46) .skip
   (.exit 0)))
   (.block 1 (.seq (.reg [⟨(some 47), (.op (.mv (.t 13))), none⟩, ⟨(some 48), (.op (.bin .sub (.t 47) (.k (.int .i64 1)))), none⟩, ⟨(some 13), (.op (.mv (.t 48))), none⟩])
   (.seq (.reg [⟨(some 49), (.op (.mv (.t 13))), none⟩, ⟨(some 50), (.op (.mv (.t 1))), none⟩, ⟨(some 51), (.op (.mv (.t 16))), none⟩, ⟨(some 52), (.op (.bin .and (.t 50) (.t 51))), none⟩, ⟨(some 53), (.op (.indexS (.k (.string ⟨#[48, 49, 50, 51, 52, 53, 54, 55, 56, 57, 97, 98, 99, 100, 101, 102, 103, 104, 105, 106, 107, 108, 109, 110, 111, 112, 113, 114, 115, 116, 117, 118, 119, 120, 121, 122]⟩)) (.t 52))), none⟩, ⟨(some 54), (.op (.iaddrA 65 1 (.t 12) (.t 49))), none⟩, ⟨none, (.op (.store 1 (.t 54) (.t 53))), none⟩])
   (.reg [⟨(some 55), (.op (.mv (.t 1))), none⟩, ⟨(some 56), (.op (.mv (.t 14))), none⟩, ⟨(some 57), (.op (.bin .shr (.t 55) (.t 56))), none⟩, ⟨(some 1), (.op (.mv (.t 57))), none⟩])))))))
  (.seq (.reg [⟨(some 58), (.op (.mv (.t 13))), none⟩, ⟨(some 59), (.op (.bin .sub (.t 58) (.k (.int .i64 1)))), none⟩, ⟨(some 13), (.op (.mv (.t 59))), none⟩])
  (.reg [⟨(some 60), (.op (.mv (.t 13))), none⟩, ⟨(some 61), (.op (.mv (.t 1))), none⟩, ⟨(some 62), (.op (.indexS (.k (.string ⟨#[48, 49, 50, 51, 52, 53, 54, 55, 56, 57, 97, 98, 99, 100, 101, 102, 103, 104, 105, 106, 107, 108, 109, 110, 111, 112, 113, 114, 115, 116, 117, 118, 119, 120, 121, 122]⟩)) (.t 61))), none⟩, ⟨(some 63), (.op (.iaddrA 65 1 (.t 12) (.t 60))), none⟩, ⟨none, (.op (.store 1 (.t 63) (.t 62))), none⟩]))))))
  (.seq (.reg [⟨(some 64), (.op (.mv (.t 2))), none⟩, ⟨(some 65), (.op (.conv (.int .u64) (.t 64))), none⟩, ⟨(some 17), (.op (.mv (.t 65))), none⟩])
  (.seq (.block 2 (.loop (.seq (.seq (.reg [⟨(some 66), (.op (.mv (.t 1))), none⟩, ⟨(some 67), (.op (.mv (.t 17))), none⟩, ⟨(some 68), (.op (.bin .geq (.t 66) (.t 67))), none⟩])
   (.cond (.t 68) .skip
   (.exit 2)))
   (.block 3 (.seq (.reg [⟨(some 69), (.op (.mv (.t 13))), none⟩, ⟨(some 70), (.op (.bin .sub (.t 69) (.k (.int .i64 1)))), none⟩, ⟨(some 13), (.op (.mv (.t 70))), none⟩])
   (.seq (.reg [⟨(some 71), (.op (.mv (.t 1))), none⟩, ⟨(some 72), (.op (.mv (.t 17))), none⟩, ⟨(some 73), (.op (.bin .quo (.t 71) (.t 72))), none⟩, ⟨(some 18), (.op (.mv (.t 73))), none⟩])
   (.seq (.reg [⟨(some 74), (.op (.mv (.t 13))), none⟩, ⟨(some 75), (.op (.mv (.t 1))), none⟩, ⟨(some 76), (.op (.mv (.t 18))), none⟩, ⟨(some 77), (.op (.mv (.t 17))), none⟩, ⟨(some 78), (.op (.bin .mul (.t 76) (.t 77))), none⟩, ⟨(some 79), (.op (.bin .sub (.t 75) (.t 78))), none⟩, ⟨(some 80), (.op (.indexS (.k (.string ⟨#[48, 49, 50, 51, 52, 53, 54, 55, 56, 57, 97, 98, 99, 100, 101, 102, 103, 104, 105, 106, 107, 108, 109, 110, 111, 112, 113, 114, 115, 116, 117, 118, 119, 120, 121, 122]⟩)) (.t 79))), none⟩, ⟨(some 81), (.op (.iaddrA 65 1 (.t 12) (.t 74))), none⟩, ⟨none, (.op (.store 1 (.t 81) (.t 80))), none⟩])
   (.reg [⟨(some 82), (.op (.mv (.t 18))), none⟩, ⟨(some 1), (.op (.mv (.t 82))), none⟩]))))))))
  (.seq (.reg [⟨(some 83), (.op (.mv (.t 13))), none⟩, ⟨(some 84), (.op (.bin .sub (.t 83) (.k (.int .i64 1)))), none⟩, ⟨(some 13), (.op (.mv (.t 84))), none⟩])
  (.reg [⟨(some 85), (.op (.mv (.t 13))), none⟩, ⟨(some 86), (.op (.mv (.t 1))), none⟩, ⟨(some 87), (.op (.indexS (.k (.string ⟨#[48, 49, 50, 51, 52, 53, 54, 55, 56, 57, 97, 98, 99, 100, 101, 102, 103, 104, 105, 106, 107, 108, 109, 110, 111, 112, 113, 114, 115, 116, 117, 118, 119, 120, 121, 122]⟩)) (.t 86))), none⟩, ⟨(some 88), (.op (.iaddrA 65 1 (.t 12) (.t 85))), none⟩, ⟨none, (.op (.store 1 (.t 88) (.t 87))), none⟩]))))))
  (.seq (.seq (.reg [⟨(some 89), (.op (.mv (.t 3))), none⟩])
  (.cond (.t 89) (.seq (.reg [⟨(some 90), (.op (.mv (.t 13))), none⟩, ⟨(some 91), (.op (.bin .sub (.t 90) (.k (.int .i64 1)))), none⟩, ⟨(some 13), (.op (.mv (.t 91))), none⟩])
  (.reg [⟨(some 92), (.op (.mv (.t 13))), none⟩, ⟨(some 93), (.op (.iaddrA 65 1 (.t 12) (.t 92))), none⟩, ⟨none, (.op (.store 1 (.t 93) (.k (.int .u8 45)))), none⟩]))
  .skip))
  (.seq (.seq (.reg [⟨(some 94), (.op (.mv (.t 4))), none⟩])
  (.cond (.t 94) (.seq (.reg [⟨(some 95), (.op (.mv (.t 0))), none⟩, ⟨(some 96), (.op (.mv (.t 13))), none⟩, ⟨(some 97), (.op (.sliceA 65 1 (.t 12) (some (.t 96)) none)), none⟩, ⟨(some 98), (.op (.append 5 1 1 (.t 95) (.t 97))), none⟩, ⟨(some 10), (.op (.mv (.t 98))), none⟩])
  .ret)
  .skip))
  (.seq (.reg [⟨(some 99), (.op (.mv (.t 13))), none⟩, ⟨(some 100), (.op (.sliceA 65 1 (.t 12) (some (.t 99)) none)), none⟩, ⟨(some 101), (.op (.tostr (.t 100))), none⟩, ⟨(some 11), (.op (.mv (.t 101))), none⟩])
  .ret)))))))))
def a57 : AF := ⟨102, [(.t 10), (.t 11)], .code b57, none⟩
theorem ok57 : AFOk Tryd.prog ext 57 a57 := .of Tryd.func57 (by kernel_rfl) (by kernel_rfl) (by kernel_rfl) (by kernel_rfl)
/-! 60: internal/stringslite.IndexByte -/
def b60 : AC :=
  (.seq (.reg [⟨(some 4), (.op (.mv (.k (.int .i64 0)))), none⟩])
  (.seq (.reg [⟨(some 5), (.op (.mv (.t 0))), none⟩, ⟨(some 6), (.op (.mv (.t 1))), none⟩, ⟨(some 7), (.call (.f 69) [(.t 5), (.t 6)]), none⟩, ⟨(some 4), (.op (.mv (.t 7))), none⟩])
  .ret))
def a60 : AF := ⟨8, [(.t 4)], .code b60, none⟩
theorem ok60 : AFOk Tryd.prog ext 60 a60 := .of Tryd.func60 (by kernel_rfl) (by kernel_rfl) (by kernel_rfl) (by kernel_rfl)
/-! 62: internal/bytealg.Cutover -/
def b62 : AC :=
  (.seq (.reg [⟨(some 2), (.op (.mv (.k (.int .i64 0)))), none⟩])
  (.seq (.reg [⟨(some 3), (.op (.mv (.t 0))), none⟩, ⟨(some 4), (.op (.bin .add (.t 3) (.k (.int .i64 16)))), none⟩, ⟨(some 5), (.op (.bin .quo (.t 4) (.k (.int .i64 8)))), none⟩, ⟨(some 2), (.op (.mv (.t 5))), none⟩])
  .ret))
def a62 : AF := ⟨6, [(.t 2)], .code b62, none⟩
theorem ok62 : AFOk Tryd.prog ext 62 a62 := .of Tryd.func62 (by kernel_rfl) (by kernel_rfl) (by kernel_rfl) (by kernel_rfl)
/-! 63: internal/bytealg.IndexRabinKarp[string] -/
def b63 : AC :=
  (.seq (.reg [⟨(some 4), (.op (.mv (.k (.int .i64 0)))), none⟩])
  (.seq (.reg [⟨(some 12), (.op (.mv (.t 1))), none⟩, ⟨(some 13), (.call (.f 70) [(.t 12)]), none⟩, ⟨(some 11), (.op (.mv (.t 13))), none⟩, ⟨(some 14), (.op (.extract (.t 11) 0)), none⟩, ⟨(some 15), (.op (.extract (.t 11) 1)), none⟩, ⟨(some 5), (.op (.mv (.t 14))), none⟩, ⟨(some 6), (.op (.mv (.t 15))), none⟩])
  (.seq (.reg [⟨(some 16), (.op (.mv (.t 1))), none⟩, ⟨(some 17), (.op (.lenT (.t 16))), none⟩, ⟨(some 7), (.op (.mv (.t 17))), none⟩])
  (.seq (.reg [⟨(some 8), (.op (.mv (.k (.int .u32 0)))), none⟩])
  (.seq (.seq (.reg [⟨(some 9), (.op (.mv (.k (.int .i64 0)))), none⟩])
  (.block 0 (.loop (.seq (.seq (.reg [⟨(some 18), (.op (.mv (.t 9))), none⟩, ⟨(some 19), (.op (.mv (.t 7))), none⟩, ⟨(some 20), (.op (.bin .lss (.t 18) (.t 19))), none⟩])
   (.cond (.t 20) .skip
   (.exit 0)))
   (.seq (.block 1 (.reg [⟨(some 23), (.op (.mv (.t 8))), none⟩, ⟨(some 24), (.op (.bin .mul (.t 23) (.k (.int .u32 16777619)))), none⟩, ⟨(some 25), (.op (.mv (.t 0))), none⟩, ⟨(some 26), (.op (.mv (.t 9))), none⟩, ⟨(some 27), (.op (.indexS (.t 25) (.t 26))), none⟩, ⟨(some 28), (.op (.conv (.int .u32) (.t 27))), none⟩, ⟨(some 29), (.op (.bin .add (.t 24) (.t 28))), none⟩, ⟨(some 8), (.op (.mv (.t 29))), none⟩]))
   (.reg [⟨(some 21), (.op (.mv (.t 9))), none⟩, ⟨(some 22), (.op (.bin .add (.t 21) (.k (.int .i64 1)))), none⟩, ⟨(some 9), (.op (.mv (.t 22))), none⟩]))))))
  (.seq (.seq (.reg [⟨(some 30), (.op (.mv (.t 8))), none⟩, ⟨(some 31), (.op (.mv (.t 5))), none⟩, ⟨(some 32), (.op (.bin .eql (.t 30) (.t 31))), none⟩, ⟨(some 33), (.op (.mv (.t 32))), none⟩, ⟨(some 34), (.op (.mv (.t 0))), (some (33, true))⟩, ⟨(some 35), (.op (.mv (.t 7))), (some (33, true))⟩, ⟨(some 36), (.op (.sliceS (.t 34) none (some (.t 35)))), (some (33, true))⟩, ⟨(some 37), (.op (.mv (.t 1))), (some (33, true))⟩, ⟨(some 38), (.op (.bin .eql (.t 36) (.t 37))), (some (33, true))⟩, ⟨(some 39), (.op (.pick (.t 33) (.t 38) (.k (.bool false)))), none⟩])
  (.cond (.t 39) (.seq (.reg [⟨(some 4), (.op (.mv (.k (.int .i64 0)))), none⟩])
  .ret)
  .skip))
  (.seq (.seq (.reg [⟨(some 40), (.op (.mv (.t 7))), none⟩, ⟨(some 10), (.op (.mv (.t 40))), none⟩])
  (.block 2 (.loop (.seq (.seq (.reg [⟨(some 41), (.op (.mv (.t 10))), none⟩, ⟨(some 42), (.op (.mv (.t 0))), none⟩, ⟨(some 43), (.op (.lenT (.t 42))), none⟩, ⟨(some 44), (.op (.bin .lss (.t 41) (.t 43))), none⟩])
   (.cond (.t 44) .skip
   (.exit 2)))
   (.block 3 (.seq (.reg [⟨(some 45), (.op (.mv (.t 8))), none⟩, ⟨(some 46), (.op (.bin .mul (.t 45) (.k (.int .u32 16777619)))), none⟩, ⟨(some 8), (.op (.mv (.t 46))), none⟩])
   (.seq (.reg [⟨(some 47), (.op (.mv (.t 8))), none⟩, ⟨(some 48), (.op (.mv (.t 0))), none⟩, ⟨(some 49), (.op (.mv (.t 10))), none⟩, ⟨(some 50), (.op (.indexS (.t 48) (.t 49))), none⟩, ⟨(some 51), (.op (.conv (.int .u32) (.t 50))), none⟩, ⟨(some 52), (.op (.bin .add (.t 47) (.t 51))), none⟩, ⟨(some 8), (.op (.mv (.t 52))), none⟩])
   (.seq (.reg [⟨(some 53), (.op (.mv (.t 8))), none⟩, ⟨(some 54), (.op (.mv (.t 6))), none⟩, ⟨(some 55), (.op (.mv (.t 0))), none⟩, ⟨(some 56), (.op (.mv (.t 10))), none⟩, ⟨(some 57), (.op (.mv (.t 7))), none⟩, ⟨(some 58), (.op (.bin .sub (.t 56) (.t 57))), none⟩, ⟨(some 59), (.op (.indexS (.t 55) (.t 58))), none⟩, ⟨(some 60), (.op (.conv (.int .u32) (.t 59))), none⟩, ⟨(some 61), (.op (.bin .mul (.t 54) (.t 60))), none⟩, ⟨(some 62), (.op (.bin .sub (.t 53) (.t 61))), none⟩, ⟨(some 8), (.op (.mv (.t 62))), none⟩])
   (.seq (.reg [⟨(some 63), (.op (.mv (.t 10))), none⟩, ⟨(some 64), (.op (.bin .add (.t 63) (.k (.int .i64 1)))), none⟩, ⟨(some 10), (.op (.mv (.t 64))), none⟩])
   (.seq (.reg [⟨(some 65), (.op (.mv (.t 8))), none⟩, ⟨(some 66), (.op (.mv (.t 5))), none⟩, ⟨(some 67), (.op (.bin .eql (.t 65) (.t 66))), none⟩, ⟨(some 68), (.op (.mv (.t 67))), none⟩, ⟨(some 69), (.op (.mv (.t 0))), (some (68, true))⟩, ⟨(some 70), (.op (.mv (.t 10))), (some (68, true))⟩, ⟨(some 71), (.op (.mv (.t 7))), (some (68, true))⟩, ⟨(some 72), (.op (.bin .sub (.t 70) (.t 71))), (some (68, true))⟩, ⟨(some 73), (.op (.mv (.t 10))), (some (68, true))⟩, ⟨(some 74), (.op (.sliceS (.t 69) (some (.t 72)) (some (.t 73)))), (some (68, true))⟩, ⟨(some 75), (.op (.mv (.t 1))), (some (68, true))⟩, ⟨(some 76), (.op (.bin .eql (.t 74) (.t 75))), (some (68, true))⟩, ⟨(some 77), (.op (.pick (.t 68) (.t 76) (.k (.bool false)))), none⟩])
   (.cond (.t 77) (.seq (.reg [⟨(some 78), (.op (.mv (.t 10))), none⟩, ⟨(some 79), (.op (.mv (.t 7))), none⟩, ⟨(some 80), (.op (.bin .sub (.t 78) (.t 79))), none⟩, ⟨(some 4), (.op (.mv (.t 80))), none⟩])
   .ret)
   .skip)))))))))))
  (.seq (.reg [⟨(some 4), (.op (.mv (.k (.int .i64 (-1))))), none⟩])
  .ret))))))))
def a63 : AF := ⟨81, [(.t 4)], .code b63, none⟩
theorem ok63 : AFOk Tryd.prog ext 63 a63 := .of Tryd.func63 (by kernel_rfl) (by kernel_rfl) (by kernel_rfl) (by kernel_rfl)
/-! 64: internal/strconv.log10Pow2 -/
def b64 : AC :=
  (.seq (.reg [⟨(some 2), (.op (.mv (.k (.int .i64 0)))), none⟩])
  (.seq (.reg [⟨(some 3), (.op (.mv (.t 0))), none⟩, ⟨(some 4), (.op (.bin .mul (.t 3) (.k (.int .i64 78913)))), none⟩, ⟨(some 5), (.op (.bin .shr (.t 4) (.k (.int .u64 18)))), none⟩, ⟨(some 2), (.op (.mv (.t 5))), none⟩])
  .ret))
def a64 : AF := ⟨6, [(.t 2)], .code b64, none⟩
theorem ok64 : AFOk Tryd.prog ext 64 a64 := .of Tryd.func64 (by kernel_rfl) (by kernel_rfl) (by kernel_rfl) (by kernel_rfl)
/-! 65: math/bits.Len64 -/
def b65 : AC :=
  (.seq (.reg [⟨(some 2), (.op (.mv (.k (.int .i64 0)))), none⟩])
  (.seq (.seq (.reg [⟨(some 3), (.op (.mv (.t 0))), none⟩, ⟨(some 4), (.op (.bin .geq (.t 3) (.k (.int .u64 4294967296)))), none⟩])
  (.cond (.t 4) (.seq (.reg [⟨(some 5), (.op (.mv (.t 0))), none⟩, ⟨(some 6), (.op (.bin .shr (.t 5) (.k (.int .u64 32)))), none⟩, ⟨(some 0), (.op (.mv (.t 6))), none⟩])
  (.reg [⟨(some 2), (.op (.mv (.k (.int .i64 32)))), none⟩]))
  .skip))
  (.seq (.seq (.reg [⟨(some 7), (.op (.mv (.t 0))), none⟩, ⟨(some 8), (.op (.bin .geq (.t 7) (.k (.int .u64 65536)))), none⟩])
  (.cond (.t 8) (.seq (.reg [⟨(some 9), (.op (.mv (.t 0))), none⟩, ⟨(some 10), (.op (.bin .shr (.t 9) (.k (.int .u64 16)))), none⟩, ⟨(some 0), (.op (.mv (.t 10))), none⟩])
  (.reg [⟨(some 11), (.op (.mv (.t 2))), none⟩, ⟨(some 12), (.op (.bin .add (.t 11) (.k (.int .i64 16)))), none⟩, ⟨(some 2), (.op (.mv (.t 12))), none⟩]))
  .skip))
  (.seq (.seq (.reg [⟨(some 13), (.op (.mv (.t 0))), none⟩, ⟨(some 14), (.op (.bin .geq (.t 13) (.k (.int .u64 256)))), none⟩])
  (.cond (.t 14) (.seq (.reg [⟨(some 15), (.op (.mv (.t 0))), none⟩, ⟨(some 16), (.op (.bin .shr (.t 15) (.k (.int .u64 8)))), none⟩, ⟨(some 0), (.op (.mv (.t 16))), none⟩])
  (.reg [⟨(some 17), (.op (.mv (.t 2))), none⟩, ⟨(some 18), (.op (.bin .add (.t 17) (.k (.int .i64 8)))), none⟩, ⟨(some 2), (.op (.mv (.t 18))), none⟩]))
  .skip))
  (.seq (.reg [⟨(some 19), (.op (.mv (.t 2))), none⟩, ⟨(some 20), (.op (.mv (.t 0))), none⟩, ⟨(some 21), (.op (.conv (.int .u8) (.t 20))), none⟩, ⟨(some 22), (.op (.indexS (.k (.string ⟨#[0, 1, 2, 2, 3, 3, 3, 3, 4, 4, 4, 4, 4, 4, 4, 4, 5, 5, 5, 5, 5, 5, 5, 5, 5, 5, 5, 5, 5, 5, 5, 5, 6, 6, 6, 6, 6, 6, 6, 6, 6, 6, 6, 6, 6, 6, 6, 6, 6, 6, 6, 6, 6, 6, 6, 6, 6, 6, 6, 6, 6, 6, 6, 6, 7, 7, 7, 7, 7, 7, 7, 7, 7, 7, 7, 7, 7, 7, 7, 7, 7, 7, 7, 7, 7, 7, 7, 7, 7, 7, 7, 7, 7, 7, 7, 7, 7, 7, 7, 7, 7, 7, 7, 7, 7, 7, 7, 7, 7, 7, 7, 7, 7, 7, 7, 7, 7, 7, 7, 7, 7, 7, 7, 7, 7, 7, 7, 7, 8, 8, 8, 8, 8, 8, 8, 8, 8, 8, 8, 8, 8, 8, 8, 8, 8, 8, 8, 8, 8, 8, 8, 8, 8, 8, 8, 8, 8, 8, 8, 8, 8, 8, 8, 8, 8, 8, 8, 8, 8, 8, 8, 8, 8, 8, 8, 8, 8, 8, 8, 8, 8, 8, 8, 8, 8, 8, 8, 8, 8, 8, 8, 8, 8, 8, 8, 8, 8, 8, 8, 8, 8, 8, 8, 8, 8, 8, 8, 8, 8, 8, 8, 8, 8, 8, 8, 8, 8, 8, 8, 8, 8, 8, 8, 8, 8, 8, 8, 8, 8, 8, 8, 8, 8, 8, 8, 8, 8, 8, 8, 8, 8, 8, 8, 8, 8, 8, 8, 8, 8, 8, 8, 8, 8, 8, 8, 8]⟩)) (.t 21))), none⟩, ⟨(some 23), (.op (.conv (.int .i64) (.t 22))), none⟩, ⟨(some 24), (.op (.bin .add (.t 19) (.t 23))), none⟩, ⟨(some 2), (.op (.mv (.t 24))), none⟩])
  .ret)))))
def a65 : AF := ⟨25, [(.t 2)], .code b65, none⟩
theorem ok65 : AFOk Tryd.prog ext 65 a65 := .of Tryd.func65 (by kernel_rfl) (by kernel_rfl) (by kernel_rfl) (by kernel_rfl)
/-! 66: internal/strconv.bool2[int] -/
def b66 : AC :=
  (.seq (.reg [⟨(some 2), (.op (.mv (.k (.int .i64 0)))), none⟩])
  (.seq (.seq (.reg [⟨(some 3), (.op (.mv (.t 0))), none⟩])
  (.cond (.t 3) (.seq (.reg [⟨(some 2), (.op (.mv (.k (.int .i64 1)))), none⟩])
  .ret)
  .skip))
  (.seq (.reg [⟨(some 2), (.op (.mv (.k (.int .i64 0)))), none⟩])
  .ret)))
def a66 : AF := ⟨4, [(.t 2)], .code b66, none⟩
theorem ok66 : AFOk Tryd.prog ext 66 a66 := .of Tryd.func66 (by kernel_rfl) (by kernel_rfl) (by kernel_rfl) (by kernel_rfl)
/-! 67: internal/strconv.isPowerOfTwo -/
def b67 : AC :=
  (.seq (.reg [⟨(some 2), (.op (.mv (.k (.bool false)))), none⟩])
  (.seq (.reg [⟨(some 3), (.op (.mv (.t 0))), none⟩, ⟨(some 4), (.op (.mv (.t 0))), none⟩, ⟨(some 5), (.op (.bin .sub (.t 4) (.k (.int .i64 1)))), none⟩, ⟨(some 6), (.op (.bin .and (.t 3) (.t 5))), none⟩, ⟨(some 7), (.op (.bin .eql (.t 6) (.k (.int .i64 0)))), none⟩, ⟨(some 2), (.op (.mv (.t 7))), none⟩])
  .ret))
def a67 : AF := ⟨8, [(.t 2)], .code b67, none⟩
theorem ok67 : AFOk Tryd.prog ext 67 a67 := .of Tryd.func67 (by kernel_rfl) (by kernel_rfl) (by kernel_rfl) (by kernel_rfl)
/-! 68: math/bits.TrailingZeros -/
def b68 : AC :=
  (.seq (.reg [⟨(some 2), (.op (.mv (.k (.int .i64 0)))), none⟩])
  (.seq (.cond (.k (.bool false)) (.seq (.reg [⟨(some 3), (.op (.mv (.t 0))), none⟩, ⟨(some 4), (.op (.conv (.int .u32) (.t 3))), none⟩, ⟨(some 5), (.call (.f 71) [(.t 4)]), none⟩, ⟨(some 2), (.op (.mv (.t 5))), none⟩])
  .ret)
  .skip)
  (.seq (.reg [⟨(some 6), (.op (.mv (.t 0))), none⟩, ⟨(some 7), (.call (.f 72) [(.t 6)]), none⟩, ⟨(some 2), (.op (.mv (.t 7))), none⟩])
  .ret)))
def a68 : AF := ⟨8, [(.t 2)], .code b68, none⟩
theorem ok68 : AFOk Tryd.prog ext 68 a68 := .of Tryd.func68 (by kernel_rfl) (by kernel_rfl) (by kernel_rfl) (by kernel_rfl)
/-! 70: internal/bytealg.hashStr[string] -/
def b70 : AC :=
  (.seq (.reg [⟨(some 2), (.op (.mv (.k (.int .u32 0)))), none⟩, ⟨(some 3), (.op (.mv (.k (.int .u32 0)))), none⟩])
  (.seq (.reg [⟨(some 4), (.op (.mv (.k (.int .u32 0)))), none⟩])
  (.seq (.seq (.reg [⟨(some 5), (.op (.mv (.k (.int .i64 0)))), none⟩])
  (.block 0 (.loop (.seq (.seq (.reg [⟨(some 9), (.op (.mv (.t 5))), none⟩, ⟨(some 10), (.op (.mv (.t 0))), none⟩, ⟨(some 11), (.op (.lenT (.t 10))), none⟩, ⟨(some 12), (.op (.bin .lss (.t 9) (.t 11))), none⟩])
   (.cond (.t 12) .skip
   (.exit 0)))
   (.seq (.block 1 (.reg [⟨(some 15), (.op (.mv (.t 4))), none⟩, ⟨(some 16), (.op (.bin .mul (.t 15) (.k (.int .u32 16777619)))), none⟩, ⟨(some 17), (.op (.mv (.t 0))), none⟩, ⟨(some 18), (.op (.mv (.t 5))), none⟩, ⟨(some 19), (.op (.indexS (.t 17) (.t 18))), none⟩, ⟨(some 20), (.op (.conv (.int .u32) (.t 19))), none⟩, ⟨(some 21), (.op (.bin .add (.t 16) (.t 20))), none⟩, ⟨(some 4), (.op (.mv (.t 21))), none⟩]))
   (.reg [⟨(some 13), (.op (.mv (.t 5))), none⟩, ⟨(some 14), (.op (.bin .add (.t 13) (.k (.int .i64 1)))), none⟩, ⟨(some 5), (.op (.mv (.t 14))), none⟩]))))))
  (.seq (.reg [⟨(some 6), (.op (.mv (.k (.int .u32 1)))), none⟩, ⟨(some 7), (.op (.mv (.k (.int .u32 16777619)))), none⟩])
  (.seq (.seq (.reg [⟨(some 22), (.op (.mv (.t 0))), none⟩, ⟨(some 23), (.op (.lenT (.t 22))), none⟩, ⟨(some 8), (.op (.mv (.t 23))), none⟩])
  (.block 2 (.loop (.seq (.seq (.reg [⟨(some 24), (.op (.mv (.t 8))), none⟩, ⟨(some 25), (.op (.bin .gtr (.t 24) (.k (.int .i64 0)))), none⟩])
   (.cond (.t 25) .skip
   (.exit 2)))
   (.seq (.block 3 (.seq (.seq (.reg [⟨(some 28), (.op (.mv (.t 8))), none⟩, ⟨(some 29), (.op (.bin .and (.t 28) (.k (.int .i64 1)))), none⟩, ⟨(some 30), (.op (.bin .neq (.t 29) (.k (.int .i64 0)))), none⟩])
   (.cond (.t 30) (.reg [⟨(some 31), (.op (.mv (.t 6))), none⟩, ⟨(some 32), (.op (.mv (.t 7))), none⟩, ⟨(some 33), (.op (.bin .mul (.t 31) (.t 32))), none⟩, ⟨(some 6), (.op (.mv (.t 33))), none⟩])
   .skip))
   (.reg [⟨(some 34), (.op (.mv (.t 7))), none⟩, ⟨(some 35), (.op (.mv (.t 7))), none⟩, ⟨(some 36), (.op (.bin .mul (.t 34) (.t 35))), none⟩, ⟨(some 7), (.op (.mv (.t 36))), none⟩])))
   (.reg [⟨(some 26), (.op (.mv (.t 8))), none⟩, ⟨(some 27), (.op (.bin .shr (.t 26) (.k (.int .u64 1)))), none⟩, ⟨(some 8), (.op (.mv (.t 27))), none⟩]))))))
  (.seq (.reg [⟨(some 37), (.op (.mv (.t 4))), none⟩, ⟨(some 38), (.op (.mv (.t 6))), none⟩, ⟨(some 2), (.op (.mv (.t 37))), none⟩, ⟨(some 3), (.op (.mv (.t 38))), none⟩])
  .ret))))))
def a70 : AF := ⟨39, [(.t 2), (.t 3)], .code b70, none⟩
theorem ok70 : AFOk Tryd.prog ext 70 a70 := .of Tryd.func70 (by kernel_rfl) (by kernel_rfl) (by kernel_rfl) (by kernel_rfl)
def forms : FuncId → Option AF
  | 2 => some a2
  | 3 => some a3
  | 4 => some a4
  | 5 => some a5
  | 6 => some a6
  | 7 => some a7
  | 8 => some a8
  | 9 => some a9
  | 10 => some a10
  | 11 => some a11
  | 12 => some a12
  | 13 => some a13
  | 14 => some a14
  | 15 => some a15
  | 16 => some a16
  | 17 => some a17
  | 18 => some a18
  | 19 => some a19
  | 20 => some a20
  | 21 => some a21
  | 22 => some a22
  | 23 => some a23
  | 24 => some a24
  | 25 => some a25
  | 26 => some a26
  | 27 => some a27
  | 28 => some a28
  | 29 => some a29
  | 30 => some a30
  | 31 => some a31
  | 32 => some a32
  | 33 => some a33
  | 34 => some a34
  | 35 => some a35
  | 36 => some a36
  | 38 => some a38
  | 39 => some a39
  | 40 => some a40
  | 41 => some a41
  | 42 => some a42
  | 43 => some a43
  | 44 => some a44
  | 45 => some a45
  | 46 => some a46
  | 47 => some a47
  | 52 => some a52
  | 53 => some a53
  | 54 => some a54
  | 56 => some a56
  | 57 => some a57
  | 60 => some a60
  | 62 => some a62
  | 63 => some a63
  | 64 => some a64
  | 65 => some a65
  | 66 => some a66
  | 67 => some a67
  | 68 => some a68
  | 70 => some a70
  | _ => none
theorem forms2 : forms 2 = some a2 := rfl
theorem forms3 : forms 3 = some a3 := rfl
theorem forms4 : forms 4 = some a4 := rfl
theorem forms5 : forms 5 = some a5 := rfl
theorem forms6 : forms 6 = some a6 := rfl
theorem forms7 : forms 7 = some a7 := rfl
theorem forms8 : forms 8 = some a8 := rfl
theorem forms9 : forms 9 = some a9 := rfl
theorem forms10 : forms 10 = some a10 := rfl
theorem forms11 : forms 11 = some a11 := rfl
theorem forms12 : forms 12 = some a12 := rfl
theorem forms13 : forms 13 = some a13 := rfl
theorem forms14 : forms 14 = some a14 := rfl
theorem forms15 : forms 15 = some a15 := rfl
theorem forms16 : forms 16 = some a16 := rfl
theorem forms17 : forms 17 = some a17 := rfl
theorem forms18 : forms 18 = some a18 := rfl
theorem forms19 : forms 19 = some a19 := rfl
theorem forms20 : forms 20 = some a20 := rfl
theorem forms21 : forms 21 = some a21 := rfl
theorem forms22 : forms 22 = some a22 := rfl
theorem forms23 : forms 23 = some a23 := rfl
theorem forms24 : forms 24 = some a24 := rfl
theorem forms25 : forms 25 = some a25 := rfl
theorem forms26 : forms 26 = some a26 := rfl
theorem forms27 : forms 27 = some a27 := rfl
theorem forms28 : forms 28 = some a28 := rfl
theorem forms29 : forms 29 = some a29 := rfl
theorem forms30 : forms 30 = some a30 := rfl
theorem forms31 : forms 31 = some a31 := rfl
theorem forms32 : forms 32 = some a32 := rfl
theorem forms33 : forms 33 = some a33 := rfl
theorem forms34 : forms 34 = some a34 := rfl
theorem forms35 : forms 35 = some a35 := rfl
theorem forms36 : forms 36 = some a36 := rfl
theorem forms38 : forms 38 = some a38 := rfl
theorem forms39 : forms 39 = some a39 := rfl
theorem forms40 : forms 40 = some a40 := rfl
theorem forms41 : forms 41 = some a41 := rfl
theorem forms42 : forms 42 = some a42 := rfl
theorem forms43 : forms 43 = some a43 := rfl
theorem forms44 : forms 44 = some a44 := rfl
theorem forms45 : forms 45 = some a45 := rfl
theorem forms46 : forms 46 = some a46 := rfl
theorem forms47 : forms 47 = some a47 := rfl
theorem forms52 : forms 52 = some a52 := rfl
theorem forms53 : forms 53 = some a53 := rfl
theorem forms54 : forms 54 = some a54 := rfl
theorem forms56 : forms 56 = some a56 := rfl
theorem forms57 : forms 57 = some a57 := rfl
theorem forms60 : forms 60 = some a60 := rfl
theorem forms62 : forms 62 = some a62 := rfl
theorem forms63 : forms 63 = some a63 := rfl
theorem forms64 : forms 64 = some a64 := rfl
theorem forms65 : forms 65 = some a65 := rfl
theorem forms66 : forms 66 = some a66 := rfl
theorem forms67 : forms 67 = some a67 := rfl
theorem forms68 : forms 68 = some a68 := rfl
theorem forms70 : forms 70 = some a70 := rfl
theorem forms_ok : ∀ f af, forms f = some af → AFOk Tryd.prog ext f af := by
  intro f af h
  unfold forms at h
  split at h
  · cases h; exact ok2
  · cases h; exact ok3
  · cases h; exact ok4
  · cases h; exact ok5
  · cases h; exact ok6
  · cases h; exact ok7
  · cases h; exact ok8
  · cases h; exact ok9
  · cases h; exact ok10
  · cases h; exact ok11
  · cases h; exact ok12
  · cases h; exact ok13
  · cases h; exact ok14
  · cases h; exact ok15
  · cases h; exact ok16
  · cases h; exact ok17
  · cases h; exact ok18
  · cases h; exact ok19
  · cases h; exact ok20
  · cases h; exact ok21
  · cases h; exact ok22
  · cases h; exact ok23
  · cases h; exact ok24
  · cases h; exact ok25
  · cases h; exact ok26
  · cases h; exact ok27
  · cases h; exact ok28
  · cases h; exact ok29
  · cases h; exact ok30
  · cases h; exact ok31
  · cases h; exact ok32
  · cases h; exact ok33
  · cases h; exact ok34
  · cases h; exact ok35
  · cases h; exact ok36
  · cases h; exact ok38
  · cases h; exact ok39
  · cases h; exact ok40
  · cases h; exact ok41
  · cases h; exact ok42
  · cases h; exact ok43
  · cases h; exact ok44
  · cases h; exact ok45
  · cases h; exact ok46
  · cases h; exact ok47
  · cases h; exact ok52
  · cases h; exact ok53
  · cases h; exact ok54
  · cases h; exact ok56
  · cases h; exact ok57
  · cases h; exact ok60
  · cases h; exact ok62
  · cases h; exact ok63
  · cases h; exact ok64
  · cases h; exact ok65
  · cases h; exact ok66
  · cases h; exact ok67
  · cases h; exact ok68
  · cases h; exact ok70
  · cases h
theorem hext : ExtOk Tryd.prog ext := .one fun args w => run_callFunc_extern Tryd.func50 (by kernel_rfl) (by kernel_rfl) (by kernel_rfl) (by kernel_rfl) args w
theorem hmix : Tryd.prog.follows .mixedOrders = true := by kernel_rfl
end YteegnbbblcokdaaDoor
end Go.Proofs
