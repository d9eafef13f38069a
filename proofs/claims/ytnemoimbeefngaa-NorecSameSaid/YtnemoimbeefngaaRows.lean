/-
  No cell of these rows narrows 'for every input' (looked for: loops, veiled, ifaces, maps, wideKeys, modest, calm, conditions, laid).
  DERIVED. THE GIVEN ROWS OF THIS SEAT. 3 by the template 'for every input the law returns true; each argument reads behind the call as it read before'; 0 by the template 'total and deterministic' (their statements: YtnemoimbeefngaaTotals.lean).
  GIVEN WITH THE SEED: the statements are not yours to turn. If you find one false, say at which input.
  Laid BY PROGRAM, IN A SANDBOX (cutbox-rows.mjs): the forced cells as the released guide's own fill.sh prints them over the translation 859adc70a2f30000… (all of the seat's roots in one cut). By AI agents, Wed Nov 11 2026. No macro, syntax, notation, axiom, sorry.
-/
import Derived.Test.YtnemoimbeefngaaChecked
import GoSem.Claim
import GoSem.ClaimJoined
import GoSem.ClaimMapViews
import Derived.JoinedTies
import Derived.KernelRfl
namespace Go.Proofs.Ytnemoimbeefngaa
/- THE CELL 'sum', in the pinned program and in every row, IS THE sha256 OF THE DUMP (.gsa) THAT YtnemoimbeefngaaProg.lean LOADS. Nothing in Lean hashes anything: it is a label: what it is worth is what the hold of that sum in a sandbox is worth. -/
noncomputable def Try.pinned : Pinned := { name := "ytnemoimbeefngaa", sum := "859adc70a2f30000005ae7071bf32d841478def55615446c81d84c31182e6e88", checked := Try.checked }
namespace Rows
def none {H : Type} : Left H := { results := [], args := [] }

/-- 'rowlocklaw11.NorecAlone': WHATEVER THE INPUT: true; the input reads as it did. -/
def norecAloneSpec : ChangeSpec := { name := "norecAlone", fn := fun _ => fun
  | [d] => { results := [.lit (.bool true)], args := [d] }
  | _ => none }
def norecAloneRow : OpenClaim := { program := "ytnemoimbeefngaa", sum := "859adc70a2f30000005ae7071bf32d841478def55615446c81d84c31182e6e88", func := "rowlock/rowlocklaw11.NorecAlone", spec := "norecAlone", unfollowed := true, recurses := true, apart := false }
def NorecAloneSaid : Prop := norecAloneRow.holds Try.pinned (OpenSpec.ofChange norecAloneSpec)

/-- ITS FALSE NEIGHBOUR: 'it returns false'. Refute it at one input. -/
def norecAloneWrong : ChangeSpec := { name := "norecAlone", fn := fun _ => fun
  | [d] => { results := [.lit (.bool false)], args := [d] }
  | _ => none }
def NorecAloneWrongFalsely : Prop := norecAloneRow.holds Try.pinned (OpenSpec.ofChange norecAloneWrong)

/-- 'rowlocklaw11.NorecSame': WHATEVER THE INPUT: true; the input reads as it did. -/
def norecSameSpec : ChangeSpec := { name := "norecSame", fn := fun _ => fun
  | [d1, d2] => { results := [.lit (.bool true)], args := [d1, d2] }
  | _ => none }
def norecSameRow : OpenClaim := { program := "ytnemoimbeefngaa", sum := "859adc70a2f30000005ae7071bf32d841478def55615446c81d84c31182e6e88", func := "rowlock/rowlocklaw11.NorecSame", spec := "norecSame", unfollowed := true, recurses := true, apart := false }
def NorecSameSaid : Prop := norecSameRow.holds Try.pinned (OpenSpec.ofChange norecSameSpec)

/-- ITS FALSE NEIGHBOUR: 'it returns false'. Refute it at one input. -/
def norecSameWrong : ChangeSpec := { name := "norecSame", fn := fun _ => fun
  | [d1, d2] => { results := [.lit (.bool false)], args := [d1, d2] }
  | _ => none }
def NorecSameWrongFalsely : Prop := norecSameRow.holds Try.pinned (OpenSpec.ofChange norecSameWrong)

/-- 'rowlocklaw11.NorecGone': WHATEVER THE INPUT: true; the input reads as it did. -/
def norecGoneSpec : ChangeSpec := { name := "norecGone", fn := fun _ => fun
  | [d1, d2] => { results := [.lit (.bool true)], args := [d1, d2] }
  | _ => none }
def norecGoneRow : OpenClaim := { program := "ytnemoimbeefngaa", sum := "859adc70a2f30000005ae7071bf32d841478def55615446c81d84c31182e6e88", func := "rowlock/rowlocklaw11.NorecGone", spec := "norecGone", unfollowed := true, recurses := true, apart := false }
def NorecGoneSaid : Prop := norecGoneRow.holds Try.pinned (OpenSpec.ofChange norecGoneSpec)

/-- ITS FALSE NEIGHBOUR: 'it returns false'. Refute it at one input. -/
def norecGoneWrong : ChangeSpec := { name := "norecGone", fn := fun _ => fun
  | [d1, d2] => { results := [.lit (.bool false)], args := [d1, d2] }
  | _ => none }
def NorecGoneWrongFalsely : Prop := norecGoneRow.holds Try.pinned (OpenSpec.ofChange norecGoneWrong)

/- THE SECOND FORM. 'bulk': how many values and letters a reading holds, each counted each time it is reached (what is shared counts as often as it is met; a slice's spare places count too). A statement '..UptoSaid' is the law's where the arguments, and the package variables that the reading takes, are together of bulk at most 1048576: NARROWER than '..Said'. Prove '..Said' where nothing that the law and all that it calls make is longer than what came in: it says more and counts as full. Else prove '..UptoSaid'. A law counts once. -/
mutual
def uptoBulk {H : Type} : DataW H → Nat
  | .lit (.string bytes) => bytes.length + 1
  | .lit _ => 1
  | .nil => 1
  | .ptr d => uptoBulk d + 1
  | .slice elems spare => uptoBulkAll elems + uptoBulkAll spare + 1
  | .agg parts => uptoBulkAll parts + 1
  | .iface _ d => uptoBulk d + 1
  | .map entries => uptoBulkEntries entries + 1
  | .held _ => 1
def uptoBulkAll {H : Type} : List (DataW H) → Nat
  | [] => 0
  | d :: r => uptoBulk d + uptoBulkAll r
def uptoBulkEntries {H : Type} : List (Lit × DataW H) → Nat
  | [] => 0
  | x :: r => uptoBulkEntry x + uptoBulkEntries r
def uptoBulkEntry {H : Type} : Lit × DataW H → Nat
  | (.string bytes, d) => bytes.length + uptoBulk d + 1
  | (_, d) => uptoBulk d + 1
 end
def uptoSmall : (H : Type) → List (DataW H) → Bool := fun _ ds => decide (uptoBulkAll ds ≤ 1048576)
def OpenSpec.upto (s : _root_.Go.ChangeSpec) : _root_.Go.OpenSpec := { _root_.Go.OpenSpec.ofChange s with cond := some uptoSmall }

/-- 'rowlocklaw11.NorecAlone', WHERE WHAT IT READS IS OF BULK AT MOST 1048576: true; the input reads as it did. -/
def norecAloneUptoRow : OpenClaim := { program := "ytnemoimbeefngaa", sum := "859adc70a2f30000005ae7071bf32d841478def55615446c81d84c31182e6e88", func := "rowlock/rowlocklaw11.NorecAlone", spec := "norecAlone", unfollowed := true, recurses := true, apart := false, narrowed := true }
def NorecAloneUptoSaid : Prop := norecAloneUptoRow.holds Try.pinned (OpenSpec.upto norecAloneSpec)

/-- 'rowlocklaw11.NorecSame', WHERE WHAT IT READS IS OF BULK AT MOST 1048576: true; the input reads as it did. -/
def norecSameUptoRow : OpenClaim := { program := "ytnemoimbeefngaa", sum := "859adc70a2f30000005ae7071bf32d841478def55615446c81d84c31182e6e88", func := "rowlock/rowlocklaw11.NorecSame", spec := "norecSame", unfollowed := true, recurses := true, apart := false, narrowed := true }
def NorecSameUptoSaid : Prop := norecSameUptoRow.holds Try.pinned (OpenSpec.upto norecSameSpec)

/-- 'rowlocklaw11.NorecGone', WHERE WHAT IT READS IS OF BULK AT MOST 1048576: true; the input reads as it did. -/
def norecGoneUptoRow : OpenClaim := { program := "ytnemoimbeefngaa", sum := "859adc70a2f30000005ae7071bf32d841478def55615446c81d84c31182e6e88", func := "rowlock/rowlocklaw11.NorecGone", spec := "norecGone", unfollowed := true, recurses := true, apart := false, narrowed := true }
def NorecGoneUptoSaid : Prop := norecGoneUptoRow.holds Try.pinned (OpenSpec.upto norecGoneSpec)

end Rows
end Go.Proofs.Ytnemoimbeefngaa
