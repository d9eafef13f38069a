/-
  TraceMerges: the tied card.
-/
import Derived.Test.YtmhkpababjdnbaaDoorPR3
import Derived.Test.YtmhkpababjdnbaaDoorCards
import Derived.Test.YtmhkpababjdnbaaDoorTie
import Derived.SevenTiedAt
set_option linter.unusedSimpArgs false
set_option linter.unusedVariables false
set_option linter.unnecessarySimpa false
set_option linter.unusedSectionVars false
namespace Go.Proofs
namespace YtmhkpababjdnbaaDoor.traceMerges
open Go
theorem carded : Rows.TraceMergesCardSaid :=
  Claim7.holds_tied_plain_at .later [] [.data, .data, .data] true (true, "910707b73742af5648748bcd29f1c3d3c7c2ff4c3c9ff8f8375468aae7907662") true
    proved (fun _ h => by cases h) (by kernel_rfl) (fun _ h => by cases h) traceMerges_row_tie rfl ⟨rfl, rfl⟩ (by kernel_rfl) rfl
    (fun f fn hf hfn => by
      obtain rfl : f = 4 := Option.some.inj ((show Tryd.prog.funcNamed "rowlock/rowlocklaw25.TraceMerges" = some 4 by kernel_rfl).symm.trans hf) |>.symm
      obtain rfl : fn = Tryd.f4 := (Option.some.inj (Tryd.func4.symm.trans hfn)).symm
      exact ⟨by kernel_rfl, fun j t ht => by
        rw [Tryd.params4] at ht
        have hm : t ∈ [22, 22] := by simpa using Array.mem_of_getElem? ht
        have hall : ([22, 22].all fun u => !Tryd.prog.wantsStandIn u) = true := by kernel_rfl
        exact (show Tryd.prog.wantsStandIn t = false by simpa using List.all_eq_true.1 hall t hm)⟩)
    (by kernel_rfl)
end YtmhkpababjdnbaaDoor.traceMerges
theorem YtmhkpababjdnbaaDoor.traceMergesCard_holds : YtmhkpababjdnbaaDoor.Rows.TraceMergesCardSaid := YtmhkpababjdnbaaDoor.traceMerges.carded
#print axioms YtmhkpababjdnbaaDoor.traceMergesCard_holds
end Go.Proofs
