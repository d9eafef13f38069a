/-
  CodeTexts: the tied card.
-/
import Derived.Test.YteegnbbblcokdaaDoorPR1
import Derived.Test.YteegnbbblcokdaaDoorCards
import Derived.Test.YteegnbbblcokdaaDoorTie
import Derived.SevenTiedAt
set_option linter.unusedSimpArgs false
set_option linter.unusedVariables false
set_option linter.unnecessarySimpa false
set_option linter.unusedSectionVars false
namespace Go.Proofs
namespace YteegnbbblcokdaaDoor.codeTexts
open Go
theorem carded : Rows.CodeTextsCardSaid :=
  Claim7.holds_tied_plain_at .later [] [.data, .data, .data] true (true, "ad0c6d72fd06118d1aa8975e565bd1dba8a82e191e647e075710ed7889cd256e") true
    proved (fun _ h => by cases h) (by kernel_rfl) (fun _ h => by cases h) codeTexts_row_tie rfl ⟨rfl, rfl⟩ (by kernel_rfl) rfl
    (fun f fn hf hfn => by
      obtain rfl : f = 3 := Option.some.inj ((show Tryd.prog.funcNamed "rowlock/rowlocklaw14.CodeTexts" = some 3 by kernel_rfl).symm.trans hf) |>.symm
      obtain rfl : fn = Tryd.f3 := (Option.some.inj (Tryd.func3.symm.trans hfn)).symm
      exact ⟨by kernel_rfl, fun j t ht => by
        rw [Tryd.params3] at ht
        have hm : t ∈ [26, 9] := by simpa using Array.mem_of_getElem? ht
        have hall : ([26, 9].all fun u => !Tryd.prog.wantsStandIn u) = true := by kernel_rfl
        exact (show Tryd.prog.wantsStandIn t = false by simpa using List.all_eq_true.1 hall t hm)⟩)
    (by kernel_rfl)
end YteegnbbblcokdaaDoor.codeTexts
theorem YteegnbbblcokdaaDoor.codeTextsCard_holds : YteegnbbblcokdaaDoor.Rows.CodeTextsCardSaid := YteegnbbblcokdaaDoor.codeTexts.carded
#print axioms YteegnbbblcokdaaDoor.codeTextsCard_holds
end Go.Proofs
