/-
  No cell of these rows narrows 'for every input' (looked for: loops, veiled, ifaces, maps, wideKeys, modest, calm, conditions, laid).
  DERIVED. THE GIVEN ROWS OF THIS SEAT. 5 by the template 'for every input the law returns true; each argument reads behind the call as it read before'; 0 by the template 'total and deterministic' (their statements: YtaajajcdgaaloaaTotals.lean).
  GIVEN WITH THE SEED: the statements are not yours to turn. If you find one false, say at which input.
  Laid BY PROGRAM, IN A SANDBOX (cutbox-rows.mjs): the forced cells as the released guide's own fill.sh prints them over the translation c91266dd9105b34e… (all of the seat's roots in one cut). By AI agents, Wed Nov 11 2026. No macro, syntax, notation, axiom, sorry.
-/
import Derived.Test.YtaajajcdgaaloaaChecked
import GoSem.Claim
import GoSem.ClaimJoined
import GoSem.ClaimMapViews
import Derived.JoinedTies
import Derived.KernelRfl
namespace Go.Proofs.Ytaajajcdgaaloaa
/- THE CELL 'sum', in the pinned program and in every row, IS THE sha256 OF THE DUMP (.gsa) THAT YtaajajcdgaaloaaProg.lean LOADS. Nothing in Lean hashes anything: it is a label: what it is worth is what the hold of that sum in a sandbox is worth. -/
noncomputable def Try.pinned : Pinned := { name := "ytaajajcdgaaloaa", sum := "c91266dd9105b34e18d31fb3c9ab8d1c8d0950de541d72b1135807690fb1d85b", checked := Try.checked }
namespace Rows
def none {H : Type} : Left H := { results := [], args := [] }

/-- 'rowlocklaw04.StripesOne': WHATEVER THE INPUT: true; the input reads as it did. -/
def stripesOneSpec : ChangeSpec := { name := "stripesOne", fn := fun _ => fun
  | [d1, d2, d3] => { results := [.lit (.bool true)], args := [d1, d2, d3] }
  | _ => none }
def stripesOneRow : OpenClaim := { program := "ytaajajcdgaaloaa", sum := "c91266dd9105b34e18d31fb3c9ab8d1c8d0950de541d72b1135807690fb1d85b", func := "rowlock/rowlocklaw04.StripesOne", spec := "stripesOne", unfollowed := true, recurses := true, apart := false }
def StripesOneSaid : Prop := stripesOneRow.holds Try.pinned (OpenSpec.ofChange stripesOneSpec)

/-- ITS FALSE NEIGHBOUR: 'it returns false'. Refute it at one input. -/
def stripesOneWrong : ChangeSpec := { name := "stripesOne", fn := fun _ => fun
  | [d1, d2, d3] => { results := [.lit (.bool false)], args := [d1, d2, d3] }
  | _ => none }
def StripesOneWrongFalsely : Prop := stripesOneRow.holds Try.pinned (OpenSpec.ofChange stripesOneWrong)

/-- 'rowlocklaw04.StripesRise': WHATEVER THE INPUT: true; the input reads as it did. -/
def stripesRiseSpec : ChangeSpec := { name := "stripesRise", fn := fun _ => fun
  | [d1, d2] => { results := [.lit (.bool true)], args := [d1, d2] }
  | _ => none }
def stripesRiseRow : OpenClaim := { program := "ytaajajcdgaaloaa", sum := "c91266dd9105b34e18d31fb3c9ab8d1c8d0950de541d72b1135807690fb1d85b", func := "rowlock/rowlocklaw04.StripesRise", spec := "stripesRise", unfollowed := true, recurses := true, apart := false }
def StripesRiseSaid : Prop := stripesRiseRow.holds Try.pinned (OpenSpec.ofChange stripesRiseSpec)

/-- ITS FALSE NEIGHBOUR: 'it returns false'. Refute it at one input. -/
def stripesRiseWrong : ChangeSpec := { name := "stripesRise", fn := fun _ => fun
  | [d1, d2] => { results := [.lit (.bool false)], args := [d1, d2] }
  | _ => none }
def StripesRiseWrongFalsely : Prop := stripesRiseRow.holds Try.pinned (OpenSpec.ofChange stripesRiseWrong)

/-- 'rowlocklaw04.StripesPlays': WHATEVER THE INPUT: true; the input reads as it did. -/
def stripesPlaysSpec : ChangeSpec := { name := "stripesPlays", fn := fun _ => fun
  | [d1, d2] => { results := [.lit (.bool true)], args := [d1, d2] }
  | _ => none }
def stripesPlaysRow : OpenClaim := { program := "ytaajajcdgaaloaa", sum := "c91266dd9105b34e18d31fb3c9ab8d1c8d0950de541d72b1135807690fb1d85b", func := "rowlock/rowlocklaw04.StripesPlays", spec := "stripesPlays", unfollowed := true, recurses := true, apart := false }
def StripesPlaysSaid : Prop := stripesPlaysRow.holds Try.pinned (OpenSpec.ofChange stripesPlaysSpec)

/-- ITS FALSE NEIGHBOUR: 'it returns false'. Refute it at one input. -/
def stripesPlaysWrong : ChangeSpec := { name := "stripesPlays", fn := fun _ => fun
  | [d1, d2] => { results := [.lit (.bool false)], args := [d1, d2] }
  | _ => none }
def StripesPlaysWrongFalsely : Prop := stripesPlaysRow.holds Try.pinned (OpenSpec.ofChange stripesPlaysWrong)

/-- 'rowlocklaw04.StripesForks': WHATEVER THE INPUT: true; the input reads as it did. -/
def stripesForksSpec : ChangeSpec := { name := "stripesForks", fn := fun _ => fun
  | [d1, d2, d3] => { results := [.lit (.bool true)], args := [d1, d2, d3] }
  | _ => none }
def stripesForksRow : OpenClaim := { program := "ytaajajcdgaaloaa", sum := "c91266dd9105b34e18d31fb3c9ab8d1c8d0950de541d72b1135807690fb1d85b", func := "rowlock/rowlocklaw04.StripesForks", spec := "stripesForks", unfollowed := true, recurses := true, apart := false }
def StripesForksSaid : Prop := stripesForksRow.holds Try.pinned (OpenSpec.ofChange stripesForksSpec)

/-- ITS FALSE NEIGHBOUR: 'it returns false'. Refute it at one input. -/
def stripesForksWrong : ChangeSpec := { name := "stripesForks", fn := fun _ => fun
  | [d1, d2, d3] => { results := [.lit (.bool false)], args := [d1, d2, d3] }
  | _ => none }
def StripesForksWrongFalsely : Prop := stripesForksRow.holds Try.pinned (OpenSpec.ofChange stripesForksWrong)

/-- 'rowlocklaw04.StripesOf': WHATEVER THE INPUT: true; the input reads as it did. -/
def stripesOfSpec : ChangeSpec := { name := "stripesOf", fn := fun _ => fun
  | [d1, d2, d3] => { results := [.lit (.bool true)], args := [d1, d2, d3] }
  | _ => none }
def stripesOfRow : OpenClaim := { program := "ytaajajcdgaaloaa", sum := "c91266dd9105b34e18d31fb3c9ab8d1c8d0950de541d72b1135807690fb1d85b", func := "rowlock/rowlocklaw04.StripesOf", spec := "stripesOf", unfollowed := true, recurses := true, apart := false }
def StripesOfSaid : Prop := stripesOfRow.holds Try.pinned (OpenSpec.ofChange stripesOfSpec)

/-- ITS FALSE NEIGHBOUR: 'it returns false'. Refute it at one input. -/
def stripesOfWrong : ChangeSpec := { name := "stripesOf", fn := fun _ => fun
  | [d1, d2, d3] => { results := [.lit (.bool false)], args := [d1, d2, d3] }
  | _ => none }
def StripesOfWrongFalsely : Prop := stripesOfRow.holds Try.pinned (OpenSpec.ofChange stripesOfWrong)

/- THE SECOND FORM. 'bulk': how many values and letters a reading holds, each counted each time it is reached (what is shared counts as often as it is met; a slice's spare places count too). A statement '..UptoSaid' is the law's where the arguments, and the package variables that the reading takes, are together of bulk at most 1048576: NARROWER than '..Said'. Prove '..Said' where nothing that the law and all that it calls make is longer than what came in: it says more and counts as full. Else prove '..UptoSaid'. A law counts once. -/
mutual
def uptoBulk {H : Type} : DataW H → Nat
  | .lit (.string bytes) => bytes.length + 1
  | .lit _ => 1
  | .nil => 1
  | .ptr d => uptoBulk d + 1
  | .slice elems spare => uptoBulkAll elems + uptoBulkAll spare + 1
  | .agg parts => uptoBulkAll parts + 1
  | .iface _ d => uptoBulk d + 1
  | .map entries => uptoBulkEntries entries + 1
  | .held _ => 1
def uptoBulkAll {H : Type} : List (DataW H) → Nat
  | [] => 0
  | d :: r => uptoBulk d + uptoBulkAll r
def uptoBulkEntries {H : Type} : List (Lit × DataW H) → Nat
  | [] => 0
  | x :: r => uptoBulkEntry x + uptoBulkEntries r
def uptoBulkEntry {H : Type} : Lit × DataW H → Nat
  | (.string bytes, d) => bytes.length + uptoBulk d + 1
  | (_, d) => uptoBulk d + 1
 end
def uptoSmall : (H : Type) → List (DataW H) → Bool := fun _ ds => decide (uptoBulkAll ds ≤ 1048576)
def OpenSpec.upto (s : _root_.Go.ChangeSpec) : _root_.Go.OpenSpec := { _root_.Go.OpenSpec.ofChange s with cond := some uptoSmall }

/-- 'rowlocklaw04.StripesOne', WHERE WHAT IT READS IS OF BULK AT MOST 1048576: true; the input reads as it did. -/
def stripesOneUptoRow : OpenClaim := { program := "ytaajajcdgaaloaa", sum := "c91266dd9105b34e18d31fb3c9ab8d1c8d0950de541d72b1135807690fb1d85b", func := "rowlock/rowlocklaw04.StripesOne", spec := "stripesOne", unfollowed := true, recurses := true, apart := false, narrowed := true }
def StripesOneUptoSaid : Prop := stripesOneUptoRow.holds Try.pinned (OpenSpec.upto stripesOneSpec)

/-- 'rowlocklaw04.StripesRise', WHERE WHAT IT READS IS OF BULK AT MOST 1048576: true; the input reads as it did. -/
def stripesRiseUptoRow : OpenClaim := { program := "ytaajajcdgaaloaa", sum := "c91266dd9105b34e18d31fb3c9ab8d1c8d0950de541d72b1135807690fb1d85b", func := "rowlock/rowlocklaw04.StripesRise", spec := "stripesRise", unfollowed := true, recurses := true, apart := false, narrowed := true }
def StripesRiseUptoSaid : Prop := stripesRiseUptoRow.holds Try.pinned (OpenSpec.upto stripesRiseSpec)

/-- 'rowlocklaw04.StripesPlays', WHERE WHAT IT READS IS OF BULK AT MOST 1048576: true; the input reads as it did. -/
def stripesPlaysUptoRow : OpenClaim := { program := "ytaajajcdgaaloaa", sum := "c91266dd9105b34e18d31fb3c9ab8d1c8d0950de541d72b1135807690fb1d85b", func := "rowlock/rowlocklaw04.StripesPlays", spec := "stripesPlays", unfollowed := true, recurses := true, apart := false, narrowed := true }
def StripesPlaysUptoSaid : Prop := stripesPlaysUptoRow.holds Try.pinned (OpenSpec.upto stripesPlaysSpec)

/-- 'rowlocklaw04.StripesForks', WHERE WHAT IT READS IS OF BULK AT MOST 1048576: true; the input reads as it did. -/
def stripesForksUptoRow : OpenClaim := { program := "ytaajajcdgaaloaa", sum := "c91266dd9105b34e18d31fb3c9ab8d1c8d0950de541d72b1135807690fb1d85b", func := "rowlock/rowlocklaw04.StripesForks", spec := "stripesForks", unfollowed := true, recurses := true, apart := false, narrowed := true }
def StripesForksUptoSaid : Prop := stripesForksUptoRow.holds Try.pinned (OpenSpec.upto stripesForksSpec)

/-- 'rowlocklaw04.StripesOf', WHERE WHAT IT READS IS OF BULK AT MOST 1048576: true; the input reads as it did. -/
def stripesOfUptoRow : OpenClaim := { program := "ytaajajcdgaaloaa", sum := "c91266dd9105b34e18d31fb3c9ab8d1c8d0950de541d72b1135807690fb1d85b", func := "rowlock/rowlocklaw04.StripesOf", spec := "stripesOf", unfollowed := true, recurses := true, apart := false, narrowed := true }
def StripesOfUptoSaid : Prop := stripesOfUptoRow.holds Try.pinned (OpenSpec.upto stripesOfSpec)

end Rows
end Go.Proofs.Ytaajajcdgaaloaa
