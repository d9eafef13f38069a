/-
  CodeBack: the tied card.
-/
import Derived.Test.YteegnbbblcokdaaDoorPR1
import Derived.Test.YteegnbbblcokdaaDoorCards
import Derived.Test.YteegnbbblcokdaaDoorTie
import Derived.SevenTiedAt
set_option linter.unusedSimpArgs false
set_option linter.unusedVariables false
set_option linter.unnecessarySimpa false
set_option linter.unusedSectionVars false
namespace Go.Proofs
namespace YteegnbbblcokdaaDoor.codeBack
open Go
theorem carded : Rows.CodeBackCardSaid :=
  Claim7.holds_tied_plain_at .later [] [.data, .data, .data] true (true, "ad0c6d72fd06118d1aa8975e565bd1dba8a82e191e647e075710ed7889cd256e") true
    proved (fun _ h => by cases h) (by kernel_rfl) (fun _ h => by cases h) codeBack_row_tie rfl ⟨rfl, rfl⟩ (by kernel_rfl) rfl
    (fun f fn hf hfn => by
      obtain rfl : f = 4 := Option.some.inj ((show Tryd.prog.funcNamed "rowlock/rowlocklaw14.CodeBack" = some 4 by kernel_rfl).symm.trans hf) |>.symm
      obtain rfl : fn = Tryd.f4 := (Option.some.inj (Tryd.func4.symm.trans hfn)).symm
      exact ⟨by kernel_rfl, fun j t ht => by
        rw [Tryd.params4] at ht
        have hm : t ∈ [35, 36] := by simpa using Array.mem_of_getElem? ht
        have hall : ([35, 36].all fun u => !Tryd.prog.wantsStandIn u) = true := by kernel_rfl
        exact (show Tryd.prog.wantsStandIn t = false by simpa using List.all_eq_true.1 hall t hm)⟩)
    (by kernel_rfl)
end YteegnbbblcokdaaDoor.codeBack
theorem YteegnbbblcokdaaDoor.codeBackCard_holds : YteegnbbblcokdaaDoor.Rows.CodeBackCardSaid := YteegnbbblcokdaaDoor.codeBack.carded
#print axioms YteegnbbblcokdaaDoor.codeBackCard_holds
end Go.Proofs
