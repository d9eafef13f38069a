/-
  No cell of these rows narrows 'for every input' (looked for: loops, veiled, ifaces, maps, wideKeys, modest, calm, conditions, laid).
  DERIVED. THE GIVEN ROWS OF THIS SEAT. 5 by the template 'for every input the law returns true; each argument reads behind the call as it read before'; 0 by the template 'total and deterministic' (their statements: YtnemoimbeefngaaGreatTotals.lean).
  GIVEN WITH THE SEED: the statements are not yours to turn. If you find one false, say at which input.
  Laid BY PROGRAM, IN A SANDBOX (cutbox-rows.mjs): the forced cells as the released guide's own fill.sh prints them over the translation 06612a6bf53645aa… (all of the seat's roots in one cut). By AI agents, Wed Nov 11 2026. No macro, syntax, notation, axiom, sorry.
-/
import Derived.Test.YtnemoimbeefngaaGreatChecked
import GoSem.Claim
import GoSem.ClaimJoined
import GoSem.ClaimMapViews
import Derived.JoinedTies
import Derived.KernelRfl
namespace Go.Proofs.YtnemoimbeefngaaGreat
/- THE CELL 'sum', in the pinned program and in every row, IS THE sha256 OF THE DUMP (.gsa) THAT YtnemoimbeefngaaGreatProg.lean LOADS. Nothing in Lean hashes anything: it is a label: what it is worth is what the hold of that sum in a sandbox is worth. -/
noncomputable def Tryz.pinned : Pinned := { name := "ytnemoimbeefngaagreat", sum := "06612a6bf53645aab1e5722067d5a012d2fcbe4da21ac46bd8671b3aef95cfd3", checked := Tryz.checked }
namespace Rows
def none {H : Type} : Left H := { results := [], args := [] }

/-- 'rowlocklaw11.NorecOpaque': WHATEVER THE INPUT: true; the input reads as it did. -/
def norecOpaqueSpec : ChangeSpec := { name := "norecOpaque", fn := fun _ => fun
  | [d] => { results := [.lit (.bool true)], args := [d] }
  | _ => none }
def norecOpaqueRow : OpenClaim := { program := "ytnemoimbeefngaagreat", sum := "06612a6bf53645aab1e5722067d5a012d2fcbe4da21ac46bd8671b3aef95cfd3", func := "rowlock/rowlocklaw11.NorecOpaque", spec := "norecOpaque", inPlace := ["math.Float64frombits"], unfollowed := true, recurses := true, apart := false }
def NorecOpaqueSaid : Prop := norecOpaqueRow.holds Tryz.pinned (OpenSpec.ofChange norecOpaqueSpec)

/-- ITS FALSE NEIGHBOUR: 'it returns false'. Refute it at one input. -/
def norecOpaqueWrong : ChangeSpec := { name := "norecOpaque", fn := fun _ => fun
  | [d] => { results := [.lit (.bool false)], args := [d] }
  | _ => none }
def NorecOpaqueWrongFalsely : Prop := norecOpaqueRow.holds Tryz.pinned (OpenSpec.ofChange norecOpaqueWrong)

/-- 'rowlocklaw11.NorecHeap': WHATEVER THE INPUT: true; the input reads as it did. -/
def norecHeapSpec : ChangeSpec := { name := "norecHeap", fn := fun _ => fun
  | [d] => { results := [.lit (.bool true)], args := [d] }
  | _ => none }
def norecHeapRow : OpenClaim := { program := "ytnemoimbeefngaagreat", sum := "06612a6bf53645aab1e5722067d5a012d2fcbe4da21ac46bd8671b3aef95cfd3", func := "rowlock/rowlocklaw11.NorecHeap", spec := "norecHeap", inPlace := ["math.Float64frombits"], unfollowed := true, recurses := true, apart := false }
def NorecHeapSaid : Prop := norecHeapRow.holds Tryz.pinned (OpenSpec.ofChange norecHeapSpec)

/-- ITS FALSE NEIGHBOUR: 'it returns false'. Refute it at one input. -/
def norecHeapWrong : ChangeSpec := { name := "norecHeap", fn := fun _ => fun
  | [d] => { results := [.lit (.bool false)], args := [d] }
  | _ => none }
def NorecHeapWrongFalsely : Prop := norecHeapRow.holds Tryz.pinned (OpenSpec.ofChange norecHeapWrong)

/-- 'rowlocklaw11.NorecPlays': WHATEVER THE INPUT: true; the input reads as it did. -/
def norecPlaysSpec : ChangeSpec := { name := "norecPlays", fn := fun _ => fun
  | [d] => { results := [.lit (.bool true)], args := [d] }
  | _ => none }
def norecPlaysRow : OpenClaim := { program := "ytnemoimbeefngaagreat", sum := "06612a6bf53645aab1e5722067d5a012d2fcbe4da21ac46bd8671b3aef95cfd3", func := "rowlock/rowlocklaw11.NorecPlays", spec := "norecPlays", inPlace := ["math.Float64frombits"], unfollowed := true, recurses := true, apart := false }
def NorecPlaysSaid : Prop := norecPlaysRow.holds Tryz.pinned (OpenSpec.ofChange norecPlaysSpec)

/-- ITS FALSE NEIGHBOUR: 'it returns false'. Refute it at one input. -/
def norecPlaysWrong : ChangeSpec := { name := "norecPlays", fn := fun _ => fun
  | [d] => { results := [.lit (.bool false)], args := [d] }
  | _ => none }
def NorecPlaysWrongFalsely : Prop := norecPlaysRow.holds Tryz.pinned (OpenSpec.ofChange norecPlaysWrong)

/-- 'rowlocklaw11.NorecForks': WHATEVER THE INPUT: true; the input reads as it did. -/
def norecForksSpec : ChangeSpec := { name := "norecForks", fn := fun _ => fun
  | [d1, d2] => { results := [.lit (.bool true)], args := [d1, d2] }
  | _ => none }
def norecForksRow : OpenClaim := { program := "ytnemoimbeefngaagreat", sum := "06612a6bf53645aab1e5722067d5a012d2fcbe4da21ac46bd8671b3aef95cfd3", func := "rowlock/rowlocklaw11.NorecForks", spec := "norecForks", inPlace := ["math.Float64frombits"], unfollowed := true, recurses := true, apart := false }
def NorecForksSaid : Prop := norecForksRow.holds Tryz.pinned (OpenSpec.ofChange norecForksSpec)

/-- ITS FALSE NEIGHBOUR: 'it returns false'. Refute it at one input. -/
def norecForksWrong : ChangeSpec := { name := "norecForks", fn := fun _ => fun
  | [d1, d2] => { results := [.lit (.bool false)], args := [d1, d2] }
  | _ => none }
def NorecForksWrongFalsely : Prop := norecForksRow.holds Tryz.pinned (OpenSpec.ofChange norecForksWrong)

/-- 'rowlocklaw11.NorecNone': WHATEVER THE INPUT: true; the input reads as it did. -/
def norecNoneSpec : ChangeSpec := { name := "norecNone", fn := fun _ => fun
  | [d1, d2, d3] => { results := [.lit (.bool true)], args := [d1, d2, d3] }
  | _ => none }
def norecNoneRow : OpenClaim := { program := "ytnemoimbeefngaagreat", sum := "06612a6bf53645aab1e5722067d5a012d2fcbe4da21ac46bd8671b3aef95cfd3", func := "rowlock/rowlocklaw11.NorecNone", spec := "norecNone", inPlace := ["math.Float64frombits"], unfollowed := true, recurses := true, apart := false }
def NorecNoneSaid : Prop := norecNoneRow.holds Tryz.pinned (OpenSpec.ofChange norecNoneSpec)

/-- ITS FALSE NEIGHBOUR: 'it returns false'. Refute it at one input. -/
def norecNoneWrong : ChangeSpec := { name := "norecNone", fn := fun _ => fun
  | [d1, d2, d3] => { results := [.lit (.bool false)], args := [d1, d2, d3] }
  | _ => none }
def NorecNoneWrongFalsely : Prop := norecNoneRow.holds Tryz.pinned (OpenSpec.ofChange norecNoneWrong)

/- THE SECOND FORM. 'bulk': how many values and letters a reading holds, each counted each time it is reached (what is shared counts as often as it is met; a slice's spare places count too). A statement '..UptoSaid' is the law's where the arguments, and the package variables that the reading takes, are together of bulk at most 1048576: NARROWER than '..Said'. Prove '..Said' where nothing that the law and all that it calls make is longer than what came in: it says more and counts as full. Else prove '..UptoSaid'. A law counts once. -/
mutual
def uptoBulk {H : Type} : DataW H → Nat
  | .lit (.string bytes) => bytes.length + 1
  | .lit _ => 1
  | .nil => 1
  | .ptr d => uptoBulk d + 1
  | .slice elems spare => uptoBulkAll elems + uptoBulkAll spare + 1
  | .agg parts => uptoBulkAll parts + 1
  | .iface _ d => uptoBulk d + 1
  | .map entries => uptoBulkEntries entries + 1
  | .held _ => 1
def uptoBulkAll {H : Type} : List (DataW H) → Nat
  | [] => 0
  | d :: r => uptoBulk d + uptoBulkAll r
def uptoBulkEntries {H : Type} : List (Lit × DataW H) → Nat
  | [] => 0
  | x :: r => uptoBulkEntry x + uptoBulkEntries r
def uptoBulkEntry {H : Type} : Lit × DataW H → Nat
  | (.string bytes, d) => bytes.length + uptoBulk d + 1
  | (_, d) => uptoBulk d + 1
 end
def uptoSmall : (H : Type) → List (DataW H) → Bool := fun _ ds => decide (uptoBulkAll ds ≤ 1048576)
def OpenSpec.upto (s : _root_.Go.ChangeSpec) : _root_.Go.OpenSpec := { _root_.Go.OpenSpec.ofChange s with cond := some uptoSmall }

/-- 'rowlocklaw11.NorecOpaque', WHERE WHAT IT READS IS OF BULK AT MOST 1048576: true; the input reads as it did. -/
def norecOpaqueUptoRow : OpenClaim := { program := "ytnemoimbeefngaagreat", sum := "06612a6bf53645aab1e5722067d5a012d2fcbe4da21ac46bd8671b3aef95cfd3", func := "rowlock/rowlocklaw11.NorecOpaque", spec := "norecOpaque", inPlace := ["math.Float64frombits"], unfollowed := true, recurses := true, apart := false, narrowed := true }
def NorecOpaqueUptoSaid : Prop := norecOpaqueUptoRow.holds Tryz.pinned (OpenSpec.upto norecOpaqueSpec)

/-- 'rowlocklaw11.NorecHeap', WHERE WHAT IT READS IS OF BULK AT MOST 1048576: true; the input reads as it did. -/
def norecHeapUptoRow : OpenClaim := { program := "ytnemoimbeefngaagreat", sum := "06612a6bf53645aab1e5722067d5a012d2fcbe4da21ac46bd8671b3aef95cfd3", func := "rowlock/rowlocklaw11.NorecHeap", spec := "norecHeap", inPlace := ["math.Float64frombits"], unfollowed := true, recurses := true, apart := false, narrowed := true }
def NorecHeapUptoSaid : Prop := norecHeapUptoRow.holds Tryz.pinned (OpenSpec.upto norecHeapSpec)

/-- 'rowlocklaw11.NorecPlays', WHERE WHAT IT READS IS OF BULK AT MOST 1048576: true; the input reads as it did. -/
def norecPlaysUptoRow : OpenClaim := { program := "ytnemoimbeefngaagreat", sum := "06612a6bf53645aab1e5722067d5a012d2fcbe4da21ac46bd8671b3aef95cfd3", func := "rowlock/rowlocklaw11.NorecPlays", spec := "norecPlays", inPlace := ["math.Float64frombits"], unfollowed := true, recurses := true, apart := false, narrowed := true }
def NorecPlaysUptoSaid : Prop := norecPlaysUptoRow.holds Tryz.pinned (OpenSpec.upto norecPlaysSpec)

/-- 'rowlocklaw11.NorecForks', WHERE WHAT IT READS IS OF BULK AT MOST 1048576: true; the input reads as it did. -/
def norecForksUptoRow : OpenClaim := { program := "ytnemoimbeefngaagreat", sum := "06612a6bf53645aab1e5722067d5a012d2fcbe4da21ac46bd8671b3aef95cfd3", func := "rowlock/rowlocklaw11.NorecForks", spec := "norecForks", inPlace := ["math.Float64frombits"], unfollowed := true, recurses := true, apart := false, narrowed := true }
def NorecForksUptoSaid : Prop := norecForksUptoRow.holds Tryz.pinned (OpenSpec.upto norecForksSpec)

/-- 'rowlocklaw11.NorecNone', WHERE WHAT IT READS IS OF BULK AT MOST 1048576: true; the input reads as it did. -/
def norecNoneUptoRow : OpenClaim := { program := "ytnemoimbeefngaagreat", sum := "06612a6bf53645aab1e5722067d5a012d2fcbe4da21ac46bd8671b3aef95cfd3", func := "rowlock/rowlocklaw11.NorecNone", spec := "norecNone", inPlace := ["math.Float64frombits"], unfollowed := true, recurses := true, apart := false, narrowed := true }
def NorecNoneUptoSaid : Prop := norecNoneUptoRow.holds Tryz.pinned (OpenSpec.upto norecNoneSpec)

end Rows
end Go.Proofs.YtnemoimbeefngaaGreat
