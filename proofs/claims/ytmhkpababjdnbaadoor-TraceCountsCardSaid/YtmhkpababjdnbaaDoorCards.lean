/-
  DERIVED. GIVEN WITH THE SEED: THE CARDS: each row of YtmhkpababjdnbaaDoorRows.lean that lists a variable, with what it lists TIED to the program's text (the seventh form; the later family's looks); each row that meets fmt, with fmt's text TOLD by the authors' own Lean function (tested against real Go, not proved from fmt's source: count such statements apart). THE CARD IS WHAT COUNTS. Prove the row's statement (the work); the ties are given (YtmhkpababjdnbaaDoorTie.lean); close each card by the builder's one call (the guide's Derived/Test/ToyasCard.lean, 'card_holds'). Laid BY PROGRAM, IN A SANDBOX (cutbox-door.mjs). By AI agents, Wed Nov 11 2026. No macro, syntax, notation, axiom, sorry.
-/
import Derived.Test.YtmhkpababjdnbaaDoorRows
import GoSem.ClaimSeven
namespace Go.Proofs.YtmhkpababjdnbaaDoor
namespace Rows

/-- THE TIED CARD OF 'rowlocklaw25.TraceBoth'. -/
def traceBothCard : Claim7 := { stood := { row := traceBothRow, standIns := [], harness := (true, "910707b73742af5648748bcd29f1c3d3c7c2ff4c3c9ff8f8375468aae7907662"), looks := true }, kinds := [], alts := [], laidByText := true, laidKinds := [.data, .data, .data], laidTests := true, laidLooks := .later }
def TraceBothCardSaid : Prop := Claim7.holds Tryd.pinned (.plain (OpenSpec.ofChange traceBothSpec)) traceBothCard

/-- THE TIED CARD OF 'rowlocklaw25.TraceMerges'. -/
def traceMergesCard : Claim7 := { stood := { row := traceMergesRow, standIns := [], harness := (true, "910707b73742af5648748bcd29f1c3d3c7c2ff4c3c9ff8f8375468aae7907662"), looks := true }, kinds := [], alts := [], laidByText := true, laidKinds := [.data, .data, .data], laidTests := true, laidLooks := .later }
def TraceMergesCardSaid : Prop := Claim7.holds Tryd.pinned (.plain (OpenSpec.ofChange traceMergesSpec)) traceMergesCard

/-- THE TIED CARD OF 'rowlocklaw25.TraceAlone'. -/
def traceAloneCard : Claim7 := { stood := { row := traceAloneRow, standIns := [], harness := (true, "910707b73742af5648748bcd29f1c3d3c7c2ff4c3c9ff8f8375468aae7907662"), looks := true }, kinds := [], alts := [], laidByText := true, laidKinds := [.data, .data, .data], laidTests := true, laidLooks := .later }
def TraceAloneCardSaid : Prop := Claim7.holds Tryd.pinned (.plain (OpenSpec.ofChange traceAloneSpec)) traceAloneCard

/-- THE TIED CARD OF 'rowlocklaw25.TraceCounts'. -/
def traceCountsCard : Claim7 := { stood := { row := traceCountsRow, standIns := [], harness := (true, "910707b73742af5648748bcd29f1c3d3c7c2ff4c3c9ff8f8375468aae7907662"), looks := true }, kinds := [], alts := [], laidByText := true, laidKinds := [.data, .data, .data], laidTests := true, laidLooks := .later }
def TraceCountsCardSaid : Prop := Claim7.holds Tryd.pinned (.plain (OpenSpec.ofChange traceCountsSpec)) traceCountsCard

/-- THE SECOND FORM's CARD OF 'rowlocklaw25.TraceBoth'. -/
def traceBothUptoCard : Claim7 := { stood := { row := traceBothUptoRow, standIns := [], harness := (true, "910707b73742af5648748bcd29f1c3d3c7c2ff4c3c9ff8f8375468aae7907662"), looks := true }, kinds := [], alts := [], laidByText := true, laidKinds := [.data, .data, .data], laidTests := true, laidLooks := .later }
def TraceBothUptoCardSaid : Prop := Claim7.holds Tryd.pinned (.plain (OpenSpec.upto traceBothSpec)) traceBothUptoCard

/-- THE SECOND FORM's CARD OF 'rowlocklaw25.TraceMerges'. -/
def traceMergesUptoCard : Claim7 := { stood := { row := traceMergesUptoRow, standIns := [], harness := (true, "910707b73742af5648748bcd29f1c3d3c7c2ff4c3c9ff8f8375468aae7907662"), looks := true }, kinds := [], alts := [], laidByText := true, laidKinds := [.data, .data, .data], laidTests := true, laidLooks := .later }
def TraceMergesUptoCardSaid : Prop := Claim7.holds Tryd.pinned (.plain (OpenSpec.upto traceMergesSpec)) traceMergesUptoCard

/-- THE SECOND FORM's CARD OF 'rowlocklaw25.TraceAlone'. -/
def traceAloneUptoCard : Claim7 := { stood := { row := traceAloneUptoRow, standIns := [], harness := (true, "910707b73742af5648748bcd29f1c3d3c7c2ff4c3c9ff8f8375468aae7907662"), looks := true }, kinds := [], alts := [], laidByText := true, laidKinds := [.data, .data, .data], laidTests := true, laidLooks := .later }
def TraceAloneUptoCardSaid : Prop := Claim7.holds Tryd.pinned (.plain (OpenSpec.upto traceAloneSpec)) traceAloneUptoCard

/-- THE SECOND FORM's CARD OF 'rowlocklaw25.TraceCounts'. -/
def traceCountsUptoCard : Claim7 := { stood := { row := traceCountsUptoRow, standIns := [], harness := (true, "910707b73742af5648748bcd29f1c3d3c7c2ff4c3c9ff8f8375468aae7907662"), looks := true }, kinds := [], alts := [], laidByText := true, laidKinds := [.data, .data, .data], laidTests := true, laidLooks := .later }
def TraceCountsUptoCardSaid : Prop := Claim7.holds Tryd.pinned (.plain (OpenSpec.upto traceCountsSpec)) traceCountsUptoCard
end Rows
end Go.Proofs.YtmhkpababjdnbaaDoor
