/-
  TraceCounts: the tied card.
-/
import Derived.Test.YtmhkpababjdnbaaDoorPR3
import Derived.Test.YtmhkpababjdnbaaDoorCards
import Derived.Test.YtmhkpababjdnbaaDoorTie
import Derived.SevenTiedAt
set_option linter.unusedSimpArgs false
set_option linter.unusedVariables false
set_option linter.unnecessarySimpa false
set_option linter.unusedSectionVars false
namespace Go.Proofs
namespace YtmhkpababjdnbaaDoor.traceCounts
open Go
theorem carded : Rows.TraceCountsCardSaid :=
  Claim7.holds_tied_plain_at .later [] [.data, .data, .data] true (true, "910707b73742af5648748bcd29f1c3d3c7c2ff4c3c9ff8f8375468aae7907662") true
    proved (fun _ h => by cases h) (by kernel_rfl) (fun _ h => by cases h) traceCounts_row_tie rfl ⟨rfl, rfl⟩ (by kernel_rfl) rfl
    (fun f fn hf hfn => by
      obtain rfl : f = 6 := Option.some.inj ((show Tryd.prog.funcNamed "rowlock/rowlocklaw25.TraceCounts" = some 6 by kernel_rfl).symm.trans hf) |>.symm
      obtain rfl : fn = Tryd.f6 := (Option.some.inj (Tryd.func6.symm.trans hfn)).symm
      exact ⟨by kernel_rfl, fun j t ht => by
        rw [Tryd.params6] at ht
        have hm : t ∈ [22] := by simpa using Array.mem_of_getElem? ht
        have hall : ([22].all fun u => !Tryd.prog.wantsStandIn u) = true := by kernel_rfl
        exact (show Tryd.prog.wantsStandIn t = false by simpa using List.all_eq_true.1 hall t hm)⟩)
    (by kernel_rfl)
end YtmhkpababjdnbaaDoor.traceCounts
theorem YtmhkpababjdnbaaDoor.traceCountsCard_holds : YtmhkpababjdnbaaDoor.Rows.TraceCountsCardSaid := YtmhkpababjdnbaaDoor.traceCounts.carded
#print axioms YtmhkpababjdnbaaDoor.traceCountsCard_holds
end Go.Proofs
