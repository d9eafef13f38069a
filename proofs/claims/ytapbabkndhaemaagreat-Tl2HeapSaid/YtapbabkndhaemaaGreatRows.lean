/-
  No cell of these rows narrows 'for every input' (looked for: loops, veiled, ifaces, maps, wideKeys, modest, calm, conditions, laid).
  DERIVED. THE GIVEN ROWS OF THIS SEAT. 7 by the template 'for every input the law returns true; each argument reads behind the call as it read before'; 0 by the template 'total and deterministic' (their statements: YtapbabkndhaemaaGreatTotals.lean).
  GIVEN WITH THE SEED: the statements are not yours to turn. If you find one false, say at which input.
  Laid BY PROGRAM, IN A SANDBOX (cutbox-rows.mjs): the forced cells as the released guide's own fill.sh prints them over the translation d679134064356172… (all of the seat's roots in one cut). By AI agents, Wed Nov 11 2026. No macro, syntax, notation, axiom, sorry.
-/
import Derived.Test.YtapbabkndhaemaaGreatChecked
import GoSem.Claim
import GoSem.ClaimJoined
import GoSem.ClaimMapViews
import Derived.JoinedTies
import Derived.KernelRfl
namespace Go.Proofs.YtapbabkndhaemaaGreat
/- THE CELL 'sum', in the pinned program and in every row, IS THE sha256 OF THE DUMP (.gsa) THAT YtapbabkndhaemaaGreatProg.lean LOADS. Nothing in Lean hashes anything: it is a label: what it is worth is what the hold of that sum in a sandbox is worth. -/
noncomputable def Tryz.pinned : Pinned := { name := "ytapbabkndhaemaagreat", sum := "d6791340643561726d413f9ceb42f7b47f47990d4a56717cc7b44121c6354bed", checked := Tryz.checked }
namespace Rows
def none {H : Type} : Left H := { results := [], args := [] }

/-- 'rowlocklaw10.Tl2Alone': WHATEVER THE INPUT: true; the input reads as it did. -/
def tl2AloneSpec : ChangeSpec := { name := "tl2Alone", fn := fun _ => fun
  | [d] => { results := [.lit (.bool true)], args := [d] }
  | _ => none }
def tl2AloneRow : OpenClaim := { program := "ytapbabkndhaemaagreat", sum := "d6791340643561726d413f9ceb42f7b47f47990d4a56717cc7b44121c6354bed", func := "rowlock/rowlocklaw10.Tl2Alone", spec := "tl2Alone", unfollowed := true, recurses := true, apart := false }
def Tl2AloneSaid : Prop := tl2AloneRow.holds Tryz.pinned (OpenSpec.ofChange tl2AloneSpec)

/-- ITS FALSE NEIGHBOUR: 'it returns false'. Refute it at one input. -/
def tl2AloneWrong : ChangeSpec := { name := "tl2Alone", fn := fun _ => fun
  | [d] => { results := [.lit (.bool false)], args := [d] }
  | _ => none }
def Tl2AloneWrongFalsely : Prop := tl2AloneRow.holds Tryz.pinned (OpenSpec.ofChange tl2AloneWrong)

/-- 'rowlocklaw10.Tl2Clock': WHATEVER THE INPUT: true; the input reads as it did. -/
def tl2ClockSpec : ChangeSpec := { name := "tl2Clock", fn := fun _ => fun
  | [d1, d2] => { results := [.lit (.bool true)], args := [d1, d2] }
  | _ => none }
def tl2ClockRow : OpenClaim := { program := "ytapbabkndhaemaagreat", sum := "d6791340643561726d413f9ceb42f7b47f47990d4a56717cc7b44121c6354bed", func := "rowlock/rowlocklaw10.Tl2Clock", spec := "tl2Clock", unfollowed := true, recurses := true, apart := false }
def Tl2ClockSaid : Prop := tl2ClockRow.holds Tryz.pinned (OpenSpec.ofChange tl2ClockSpec)

/-- ITS FALSE NEIGHBOUR: 'it returns false'. Refute it at one input. -/
def tl2ClockWrong : ChangeSpec := { name := "tl2Clock", fn := fun _ => fun
  | [d1, d2] => { results := [.lit (.bool false)], args := [d1, d2] }
  | _ => none }
def Tl2ClockWrongFalsely : Prop := tl2ClockRow.holds Tryz.pinned (OpenSpec.ofChange tl2ClockWrong)

/-- 'rowlocklaw10.Tl2Gone': WHATEVER THE INPUT: true; the input reads as it did. -/
def tl2GoneSpec : ChangeSpec := { name := "tl2Gone", fn := fun _ => fun
  | [d1, d2] => { results := [.lit (.bool true)], args := [d1, d2] }
  | _ => none }
def tl2GoneRow : OpenClaim := { program := "ytapbabkndhaemaagreat", sum := "d6791340643561726d413f9ceb42f7b47f47990d4a56717cc7b44121c6354bed", func := "rowlock/rowlocklaw10.Tl2Gone", spec := "tl2Gone", unfollowed := true, recurses := true, apart := false }
def Tl2GoneSaid : Prop := tl2GoneRow.holds Tryz.pinned (OpenSpec.ofChange tl2GoneSpec)

/-- ITS FALSE NEIGHBOUR: 'it returns false'. Refute it at one input. -/
def tl2GoneWrong : ChangeSpec := { name := "tl2Gone", fn := fun _ => fun
  | [d1, d2] => { results := [.lit (.bool false)], args := [d1, d2] }
  | _ => none }
def Tl2GoneWrongFalsely : Prop := tl2GoneRow.holds Tryz.pinned (OpenSpec.ofChange tl2GoneWrong)

/-- 'rowlocklaw10.Tl2Opaque': WHATEVER THE INPUT: true; the input reads as it did. -/
def tl2OpaqueSpec : ChangeSpec := { name := "tl2Opaque", fn := fun _ => fun
  | [d] => { results := [.lit (.bool true)], args := [d] }
  | _ => none }
def tl2OpaqueRow : OpenClaim := { program := "ytapbabkndhaemaagreat", sum := "d6791340643561726d413f9ceb42f7b47f47990d4a56717cc7b44121c6354bed", func := "rowlock/rowlocklaw10.Tl2Opaque", spec := "tl2Opaque", inPlace := ["math.Float64frombits"], unfollowed := true, recurses := true, apart := false }
def Tl2OpaqueSaid : Prop := tl2OpaqueRow.holds Tryz.pinned (OpenSpec.ofChange tl2OpaqueSpec)

/-- ITS FALSE NEIGHBOUR: 'it returns false'. Refute it at one input. -/
def tl2OpaqueWrong : ChangeSpec := { name := "tl2Opaque", fn := fun _ => fun
  | [d] => { results := [.lit (.bool false)], args := [d] }
  | _ => none }
def Tl2OpaqueWrongFalsely : Prop := tl2OpaqueRow.holds Tryz.pinned (OpenSpec.ofChange tl2OpaqueWrong)

/-- 'rowlocklaw10.Tl2Heap': WHATEVER THE INPUT: true; the input reads as it did. -/
def tl2HeapSpec : ChangeSpec := { name := "tl2Heap", fn := fun _ => fun
  | [d] => { results := [.lit (.bool true)], args := [d] }
  | _ => none }
def tl2HeapRow : OpenClaim := { program := "ytapbabkndhaemaagreat", sum := "d6791340643561726d413f9ceb42f7b47f47990d4a56717cc7b44121c6354bed", func := "rowlock/rowlocklaw10.Tl2Heap", spec := "tl2Heap", inPlace := ["math.Float64frombits"], unfollowed := true, recurses := true, apart := false }
def Tl2HeapSaid : Prop := tl2HeapRow.holds Tryz.pinned (OpenSpec.ofChange tl2HeapSpec)

/-- ITS FALSE NEIGHBOUR: 'it returns false'. Refute it at one input. -/
def tl2HeapWrong : ChangeSpec := { name := "tl2Heap", fn := fun _ => fun
  | [d] => { results := [.lit (.bool false)], args := [d] }
  | _ => none }
def Tl2HeapWrongFalsely : Prop := tl2HeapRow.holds Tryz.pinned (OpenSpec.ofChange tl2HeapWrong)

/-- 'rowlocklaw10.Tl2Forks': WHATEVER THE INPUT: true; the input reads as it did. -/
def tl2ForksSpec : ChangeSpec := { name := "tl2Forks", fn := fun _ => fun
  | [d1, d2] => { results := [.lit (.bool true)], args := [d1, d2] }
  | _ => none }
def tl2ForksRow : OpenClaim := { program := "ytapbabkndhaemaagreat", sum := "d6791340643561726d413f9ceb42f7b47f47990d4a56717cc7b44121c6354bed", func := "rowlock/rowlocklaw10.Tl2Forks", spec := "tl2Forks", inPlace := ["math.Float64frombits"], unfollowed := true, recurses := true, apart := false }
def Tl2ForksSaid : Prop := tl2ForksRow.holds Tryz.pinned (OpenSpec.ofChange tl2ForksSpec)

/-- ITS FALSE NEIGHBOUR: 'it returns false'. Refute it at one input. -/
def tl2ForksWrong : ChangeSpec := { name := "tl2Forks", fn := fun _ => fun
  | [d1, d2] => { results := [.lit (.bool false)], args := [d1, d2] }
  | _ => none }
def Tl2ForksWrongFalsely : Prop := tl2ForksRow.holds Tryz.pinned (OpenSpec.ofChange tl2ForksWrong)

/-- 'rowlocklaw10.Tl2None': WHATEVER THE INPUT: true; the input reads as it did. -/
def tl2NoneSpec : ChangeSpec := { name := "tl2None", fn := fun _ => fun
  | [d1, d2, d3] => { results := [.lit (.bool true)], args := [d1, d2, d3] }
  | _ => none }
def tl2NoneRow : OpenClaim := { program := "ytapbabkndhaemaagreat", sum := "d6791340643561726d413f9ceb42f7b47f47990d4a56717cc7b44121c6354bed", func := "rowlock/rowlocklaw10.Tl2None", spec := "tl2None", inPlace := ["math.Float64frombits"], unfollowed := true, recurses := true, apart := false }
def Tl2NoneSaid : Prop := tl2NoneRow.holds Tryz.pinned (OpenSpec.ofChange tl2NoneSpec)

/-- ITS FALSE NEIGHBOUR: 'it returns false'. Refute it at one input. -/
def tl2NoneWrong : ChangeSpec := { name := "tl2None", fn := fun _ => fun
  | [d1, d2, d3] => { results := [.lit (.bool false)], args := [d1, d2, d3] }
  | _ => none }
def Tl2NoneWrongFalsely : Prop := tl2NoneRow.holds Tryz.pinned (OpenSpec.ofChange tl2NoneWrong)

/- THE SECOND FORM. 'bulk': how many values and letters a reading holds, each counted each time it is reached (what is shared counts as often as it is met; a slice's spare places count too). A statement '..UptoSaid' is the law's where the arguments, and the package variables that the reading takes, are together of bulk at most 1048576: NARROWER than '..Said'. Prove '..Said' where nothing that the law and all that it calls make is longer than what came in: it says more and counts as full. Else prove '..UptoSaid'. A law counts once. -/
mutual
def uptoBulk {H : Type} : DataW H → Nat
  | .lit (.string bytes) => bytes.length + 1
  | .lit _ => 1
  | .nil => 1
  | .ptr d => uptoBulk d + 1
  | .slice elems spare => uptoBulkAll elems + uptoBulkAll spare + 1
  | .agg parts => uptoBulkAll parts + 1
  | .iface _ d => uptoBulk d + 1
  | .map entries => uptoBulkEntries entries + 1
  | .held _ => 1
def uptoBulkAll {H : Type} : List (DataW H) → Nat
  | [] => 0
  | d :: r => uptoBulk d + uptoBulkAll r
def uptoBulkEntries {H : Type} : List (Lit × DataW H) → Nat
  | [] => 0
  | x :: r => uptoBulkEntry x + uptoBulkEntries r
def uptoBulkEntry {H : Type} : Lit × DataW H → Nat
  | (.string bytes, d) => bytes.length + uptoBulk d + 1
  | (_, d) => uptoBulk d + 1
 end
def uptoSmall : (H : Type) → List (DataW H) → Bool := fun _ ds => decide (uptoBulkAll ds ≤ 1048576)
def OpenSpec.upto (s : _root_.Go.ChangeSpec) : _root_.Go.OpenSpec := { _root_.Go.OpenSpec.ofChange s with cond := some uptoSmall }

/-- 'rowlocklaw10.Tl2Alone', WHERE WHAT IT READS IS OF BULK AT MOST 1048576: true; the input reads as it did. -/
def tl2AloneUptoRow : OpenClaim := { program := "ytapbabkndhaemaagreat", sum := "d6791340643561726d413f9ceb42f7b47f47990d4a56717cc7b44121c6354bed", func := "rowlock/rowlocklaw10.Tl2Alone", spec := "tl2Alone", unfollowed := true, recurses := true, apart := false, narrowed := true }
def Tl2AloneUptoSaid : Prop := tl2AloneUptoRow.holds Tryz.pinned (OpenSpec.upto tl2AloneSpec)

/-- 'rowlocklaw10.Tl2Clock', WHERE WHAT IT READS IS OF BULK AT MOST 1048576: true; the input reads as it did. -/
def tl2ClockUptoRow : OpenClaim := { program := "ytapbabkndhaemaagreat", sum := "d6791340643561726d413f9ceb42f7b47f47990d4a56717cc7b44121c6354bed", func := "rowlock/rowlocklaw10.Tl2Clock", spec := "tl2Clock", unfollowed := true, recurses := true, apart := false, narrowed := true }
def Tl2ClockUptoSaid : Prop := tl2ClockUptoRow.holds Tryz.pinned (OpenSpec.upto tl2ClockSpec)

/-- 'rowlocklaw10.Tl2Gone', WHERE WHAT IT READS IS OF BULK AT MOST 1048576: true; the input reads as it did. -/
def tl2GoneUptoRow : OpenClaim := { program := "ytapbabkndhaemaagreat", sum := "d6791340643561726d413f9ceb42f7b47f47990d4a56717cc7b44121c6354bed", func := "rowlock/rowlocklaw10.Tl2Gone", spec := "tl2Gone", unfollowed := true, recurses := true, apart := false, narrowed := true }
def Tl2GoneUptoSaid : Prop := tl2GoneUptoRow.holds Tryz.pinned (OpenSpec.upto tl2GoneSpec)

/-- 'rowlocklaw10.Tl2Opaque', WHERE WHAT IT READS IS OF BULK AT MOST 1048576: true; the input reads as it did. -/
def tl2OpaqueUptoRow : OpenClaim := { program := "ytapbabkndhaemaagreat", sum := "d6791340643561726d413f9ceb42f7b47f47990d4a56717cc7b44121c6354bed", func := "rowlock/rowlocklaw10.Tl2Opaque", spec := "tl2Opaque", inPlace := ["math.Float64frombits"], unfollowed := true, recurses := true, apart := false, narrowed := true }
def Tl2OpaqueUptoSaid : Prop := tl2OpaqueUptoRow.holds Tryz.pinned (OpenSpec.upto tl2OpaqueSpec)

/-- 'rowlocklaw10.Tl2Heap', WHERE WHAT IT READS IS OF BULK AT MOST 1048576: true; the input reads as it did. -/
def tl2HeapUptoRow : OpenClaim := { program := "ytapbabkndhaemaagreat", sum := "d6791340643561726d413f9ceb42f7b47f47990d4a56717cc7b44121c6354bed", func := "rowlock/rowlocklaw10.Tl2Heap", spec := "tl2Heap", inPlace := ["math.Float64frombits"], unfollowed := true, recurses := true, apart := false, narrowed := true }
def Tl2HeapUptoSaid : Prop := tl2HeapUptoRow.holds Tryz.pinned (OpenSpec.upto tl2HeapSpec)

/-- 'rowlocklaw10.Tl2Forks', WHERE WHAT IT READS IS OF BULK AT MOST 1048576: true; the input reads as it did. -/
def tl2ForksUptoRow : OpenClaim := { program := "ytapbabkndhaemaagreat", sum := "d6791340643561726d413f9ceb42f7b47f47990d4a56717cc7b44121c6354bed", func := "rowlock/rowlocklaw10.Tl2Forks", spec := "tl2Forks", inPlace := ["math.Float64frombits"], unfollowed := true, recurses := true, apart := false, narrowed := true }
def Tl2ForksUptoSaid : Prop := tl2ForksUptoRow.holds Tryz.pinned (OpenSpec.upto tl2ForksSpec)

/-- 'rowlocklaw10.Tl2None', WHERE WHAT IT READS IS OF BULK AT MOST 1048576: true; the input reads as it did. -/
def tl2NoneUptoRow : OpenClaim := { program := "ytapbabkndhaemaagreat", sum := "d6791340643561726d413f9ceb42f7b47f47990d4a56717cc7b44121c6354bed", func := "rowlock/rowlocklaw10.Tl2None", spec := "tl2None", inPlace := ["math.Float64frombits"], unfollowed := true, recurses := true, apart := false, narrowed := true }
def Tl2NoneUptoSaid : Prop := tl2NoneUptoRow.holds Tryz.pinned (OpenSpec.upto tl2NoneSpec)

end Rows
end Go.Proofs.YtapbabkndhaemaaGreat
