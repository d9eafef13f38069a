/-
  No cell of these rows narrows 'for every input' (looked for: loops, veiled, ifaces, maps, wideKeys, modest, calm, conditions, laid).
  DERIVED. THE GIVEN ROWS OF THIS SEAT. 6 by the template 'for every input the law returns true; each argument reads behind the call as it read before'; 0 by the template 'total and deterministic' (their statements: YtlecfiofljigbaaTotals.lean).
  GIVEN WITH THE SEED: the statements are not yours to turn. If you find one false, say at which input.
  Laid BY PROGRAM, IN A SANDBOX (cutbox-rows.mjs): the forced cells as the released guide's own fill.sh prints them over the translation 21549502e2a215df… (all of the seat's roots in one cut). By AI agents, Wed Nov 11 2026. No macro, syntax, notation, axiom, sorry.
-/
import Derived.Test.YtlecfiofljigbaaChecked
import GoSem.Claim
import GoSem.ClaimJoined
import GoSem.ClaimMapViews
import Derived.JoinedTies
import Derived.KernelRfl
namespace Go.Proofs.Ytlecfiofljigbaa
/- THE CELL 'sum', in the pinned program and in every row, IS THE sha256 OF THE DUMP (.gsa) THAT YtlecfiofljigbaaProg.lean LOADS. Nothing in Lean hashes anything: it is a label: what it is worth is what the hold of that sum in a sandbox is worth. -/
noncomputable def Try.pinned : Pinned := { name := "ytlecfiofljigbaa", sum := "21549502e2a215df5aa830682e65144b09b22b5960623810681cad73763d7160", checked := Try.checked }
namespace Rows
def none {H : Type} : Left H := { results := [], args := [] }

/-- 'rowlocklaw06.ReadsHangs': WHATEVER THE INPUT: true; the input reads as it did. -/
def readsHangsSpec : ChangeSpec := { name := "readsHangs", fn := fun _ => fun
  | [d1, d2, d3] => { results := [.lit (.bool true)], args := [d1, d2, d3] }
  | _ => none }
def readsHangsRow : OpenClaim := { program := "ytlecfiofljigbaa", sum := "21549502e2a215df5aa830682e65144b09b22b5960623810681cad73763d7160", func := "rowlock/rowlocklaw06.ReadsHangs", spec := "readsHangs", inPlace := ["math.Float64frombits"], apart := false }
def ReadsHangsSaid : Prop := readsHangsRow.holds Try.pinned (OpenSpec.ofChange readsHangsSpec)

/-- ITS FALSE NEIGHBOUR: 'it returns false'. Refute it at one input. -/
def readsHangsWrong : ChangeSpec := { name := "readsHangs", fn := fun _ => fun
  | [d1, d2, d3] => { results := [.lit (.bool false)], args := [d1, d2, d3] }
  | _ => none }
def ReadsHangsWrongFalsely : Prop := readsHangsRow.holds Try.pinned (OpenSpec.ofChange readsHangsWrong)

/-- 'rowlocklaw06.ReadsFirst': WHATEVER THE INPUT: true; the input reads as it did. -/
def readsFirstSpec : ChangeSpec := { name := "readsFirst", fn := fun _ => fun
  | [d1, d2] => { results := [.lit (.bool true)], args := [d1, d2] }
  | _ => none }
def readsFirstRow : OpenClaim := { program := "ytlecfiofljigbaa", sum := "21549502e2a215df5aa830682e65144b09b22b5960623810681cad73763d7160", func := "rowlock/rowlocklaw06.ReadsFirst", spec := "readsFirst", inPlace := ["math.Float64frombits"], apart := false }
def ReadsFirstSaid : Prop := readsFirstRow.holds Try.pinned (OpenSpec.ofChange readsFirstSpec)

/-- ITS FALSE NEIGHBOUR: 'it returns false'. Refute it at one input. -/
def readsFirstWrong : ChangeSpec := { name := "readsFirst", fn := fun _ => fun
  | [d1, d2] => { results := [.lit (.bool false)], args := [d1, d2] }
  | _ => none }
def ReadsFirstWrongFalsely : Prop := readsFirstRow.holds Try.pinned (OpenSpec.ofChange readsFirstWrong)

/-- 'rowlocklaw06.ReadsPlays': WHATEVER THE INPUT: true; the input reads as it did. -/
def readsPlaysSpec : ChangeSpec := { name := "readsPlays", fn := fun _ => fun
  | [d] => { results := [.lit (.bool true)], args := [d] }
  | _ => none }
def readsPlaysRow : OpenClaim := { program := "ytlecfiofljigbaa", sum := "21549502e2a215df5aa830682e65144b09b22b5960623810681cad73763d7160", func := "rowlock/rowlocklaw06.ReadsPlays", spec := "readsPlays", inPlace := ["math.Float64frombits"], recurses := true, apart := false }
def ReadsPlaysSaid : Prop := readsPlaysRow.holds Try.pinned (OpenSpec.ofChange readsPlaysSpec)

/-- ITS FALSE NEIGHBOUR: 'it returns false'. Refute it at one input. -/
def readsPlaysWrong : ChangeSpec := { name := "readsPlays", fn := fun _ => fun
  | [d] => { results := [.lit (.bool false)], args := [d] }
  | _ => none }
def ReadsPlaysWrongFalsely : Prop := readsPlaysRow.holds Try.pinned (OpenSpec.ofChange readsPlaysWrong)

/-- 'rowlocklaw06.ReadsForks': WHATEVER THE INPUT: true; the input reads as it did. -/
def readsForksSpec : ChangeSpec := { name := "readsForks", fn := fun _ => fun
  | [d1, d2] => { results := [.lit (.bool true)], args := [d1, d2] }
  | _ => none }
def readsForksRow : OpenClaim := { program := "ytlecfiofljigbaa", sum := "21549502e2a215df5aa830682e65144b09b22b5960623810681cad73763d7160", func := "rowlock/rowlocklaw06.ReadsForks", spec := "readsForks", inPlace := ["math.Float64frombits"], recurses := true, apart := false }
def ReadsForksSaid : Prop := readsForksRow.holds Try.pinned (OpenSpec.ofChange readsForksSpec)

/-- ITS FALSE NEIGHBOUR: 'it returns false'. Refute it at one input. -/
def readsForksWrong : ChangeSpec := { name := "readsForks", fn := fun _ => fun
  | [d1, d2] => { results := [.lit (.bool false)], args := [d1, d2] }
  | _ => none }
def ReadsForksWrongFalsely : Prop := readsForksRow.holds Try.pinned (OpenSpec.ofChange readsForksWrong)

/-- 'rowlocklaw06.ReadsMerges': WHATEVER THE INPUT: true; the input reads as it did. -/
def readsMergesSpec : ChangeSpec := { name := "readsMerges", fn := fun _ => fun
  | [d1, d2] => { results := [.lit (.bool true)], args := [d1, d2] }
  | _ => none }
def readsMergesRow : OpenClaim := { program := "ytlecfiofljigbaa", sum := "21549502e2a215df5aa830682e65144b09b22b5960623810681cad73763d7160", func := "rowlock/rowlocklaw06.ReadsMerges", spec := "readsMerges", inPlace := ["math.Float64frombits"], recurses := true, apart := false }
def ReadsMergesSaid : Prop := readsMergesRow.holds Try.pinned (OpenSpec.ofChange readsMergesSpec)

/-- ITS FALSE NEIGHBOUR: 'it returns false'. Refute it at one input. -/
def readsMergesWrong : ChangeSpec := { name := "readsMerges", fn := fun _ => fun
  | [d1, d2] => { results := [.lit (.bool false)], args := [d1, d2] }
  | _ => none }
def ReadsMergesWrongFalsely : Prop := readsMergesRow.holds Try.pinned (OpenSpec.ofChange readsMergesWrong)

/-- 'rowlocklaw06.ReadsNone': WHATEVER THE INPUT: true; the input reads as it did. -/
def readsNoneSpec : ChangeSpec := { name := "readsNone", fn := fun _ => fun
  | [d1, d2] => { results := [.lit (.bool true)], args := [d1, d2] }
  | _ => none }
def readsNoneRow : OpenClaim := { program := "ytlecfiofljigbaa", sum := "21549502e2a215df5aa830682e65144b09b22b5960623810681cad73763d7160", func := "rowlock/rowlocklaw06.ReadsNone", spec := "readsNone", recurses := true, apart := false }
def ReadsNoneSaid : Prop := readsNoneRow.holds Try.pinned (OpenSpec.ofChange readsNoneSpec)

/-- ITS FALSE NEIGHBOUR: 'it returns false'. Refute it at one input. -/
def readsNoneWrong : ChangeSpec := { name := "readsNone", fn := fun _ => fun
  | [d1, d2] => { results := [.lit (.bool false)], args := [d1, d2] }
  | _ => none }
def ReadsNoneWrongFalsely : Prop := readsNoneRow.holds Try.pinned (OpenSpec.ofChange readsNoneWrong)

/- THE SECOND FORM. 'bulk': how many values and letters a reading holds, each counted each time it is reached (what is shared counts as often as it is met; a slice's spare places count too). A statement '..UptoSaid' is the law's where the arguments, and the package variables that the reading takes, are together of bulk at most 1048576: NARROWER than '..Said'. Prove '..Said' where nothing that the law and all that it calls make is longer than what came in: it says more and counts as full. Else prove '..UptoSaid'. A law counts once. -/
mutual
def uptoBulk {H : Type} : DataW H → Nat
  | .lit (.string bytes) => bytes.length + 1
  | .lit _ => 1
  | .nil => 1
  | .ptr d => uptoBulk d + 1
  | .slice elems spare => uptoBulkAll elems + uptoBulkAll spare + 1
  | .agg parts => uptoBulkAll parts + 1
  | .iface _ d => uptoBulk d + 1
  | .map entries => uptoBulkEntries entries + 1
  | .held _ => 1
def uptoBulkAll {H : Type} : List (DataW H) → Nat
  | [] => 0
  | d :: r => uptoBulk d + uptoBulkAll r
def uptoBulkEntries {H : Type} : List (Lit × DataW H) → Nat
  | [] => 0
  | x :: r => uptoBulkEntry x + uptoBulkEntries r
def uptoBulkEntry {H : Type} : Lit × DataW H → Nat
  | (.string bytes, d) => bytes.length + uptoBulk d + 1
  | (_, d) => uptoBulk d + 1
 end
def uptoSmall : (H : Type) → List (DataW H) → Bool := fun _ ds => decide (uptoBulkAll ds ≤ 1048576)
def OpenSpec.upto (s : _root_.Go.ChangeSpec) : _root_.Go.OpenSpec := { _root_.Go.OpenSpec.ofChange s with cond := some uptoSmall }

/-- 'rowlocklaw06.ReadsHangs', WHERE WHAT IT READS IS OF BULK AT MOST 1048576: true; the input reads as it did. -/
def readsHangsUptoRow : OpenClaim := { program := "ytlecfiofljigbaa", sum := "21549502e2a215df5aa830682e65144b09b22b5960623810681cad73763d7160", func := "rowlock/rowlocklaw06.ReadsHangs", spec := "readsHangs", inPlace := ["math.Float64frombits"], apart := false, narrowed := true }
def ReadsHangsUptoSaid : Prop := readsHangsUptoRow.holds Try.pinned (OpenSpec.upto readsHangsSpec)

/-- 'rowlocklaw06.ReadsFirst', WHERE WHAT IT READS IS OF BULK AT MOST 1048576: true; the input reads as it did. -/
def readsFirstUptoRow : OpenClaim := { program := "ytlecfiofljigbaa", sum := "21549502e2a215df5aa830682e65144b09b22b5960623810681cad73763d7160", func := "rowlock/rowlocklaw06.ReadsFirst", spec := "readsFirst", inPlace := ["math.Float64frombits"], apart := false, narrowed := true }
def ReadsFirstUptoSaid : Prop := readsFirstUptoRow.holds Try.pinned (OpenSpec.upto readsFirstSpec)

/-- 'rowlocklaw06.ReadsPlays', WHERE WHAT IT READS IS OF BULK AT MOST 1048576: true; the input reads as it did. -/
def readsPlaysUptoRow : OpenClaim := { program := "ytlecfiofljigbaa", sum := "21549502e2a215df5aa830682e65144b09b22b5960623810681cad73763d7160", func := "rowlock/rowlocklaw06.ReadsPlays", spec := "readsPlays", inPlace := ["math.Float64frombits"], recurses := true, apart := false, narrowed := true }
def ReadsPlaysUptoSaid : Prop := readsPlaysUptoRow.holds Try.pinned (OpenSpec.upto readsPlaysSpec)

/-- 'rowlocklaw06.ReadsForks', WHERE WHAT IT READS IS OF BULK AT MOST 1048576: true; the input reads as it did. -/
def readsForksUptoRow : OpenClaim := { program := "ytlecfiofljigbaa", sum := "21549502e2a215df5aa830682e65144b09b22b5960623810681cad73763d7160", func := "rowlock/rowlocklaw06.ReadsForks", spec := "readsForks", inPlace := ["math.Float64frombits"], recurses := true, apart := false, narrowed := true }
def ReadsForksUptoSaid : Prop := readsForksUptoRow.holds Try.pinned (OpenSpec.upto readsForksSpec)

/-- 'rowlocklaw06.ReadsMerges', WHERE WHAT IT READS IS OF BULK AT MOST 1048576: true; the input reads as it did. -/
def readsMergesUptoRow : OpenClaim := { program := "ytlecfiofljigbaa", sum := "21549502e2a215df5aa830682e65144b09b22b5960623810681cad73763d7160", func := "rowlock/rowlocklaw06.ReadsMerges", spec := "readsMerges", inPlace := ["math.Float64frombits"], recurses := true, apart := false, narrowed := true }
def ReadsMergesUptoSaid : Prop := readsMergesUptoRow.holds Try.pinned (OpenSpec.upto readsMergesSpec)

/-- 'rowlocklaw06.ReadsNone', WHERE WHAT IT READS IS OF BULK AT MOST 1048576: true; the input reads as it did. -/
def readsNoneUptoRow : OpenClaim := { program := "ytlecfiofljigbaa", sum := "21549502e2a215df5aa830682e65144b09b22b5960623810681cad73763d7160", func := "rowlock/rowlocklaw06.ReadsNone", spec := "readsNone", recurses := true, apart := false, narrowed := true }
def ReadsNoneUptoSaid : Prop := readsNoneUptoRow.holds Try.pinned (OpenSpec.upto readsNoneSpec)

end Rows
end Go.Proofs.Ytlecfiofljigbaa
