/-
  TraceCounts: what a history comes to, the variable that was touched most, pairs that met, rows: both the same. For every events; the condition is the row’s own: three tables of the library read as they are laid.
-/
import Derived.Test.YtmhkpababjdnbaaDoorPR2
import Derived.Test.YtmhkpababjdnbaaDoorPA3
import Derived.LaidLaws
import Derived.JoinedAt
set_option linter.unusedSimpArgs false
set_option linter.unusedVariables false
set_option linter.unnecessarySimpa false
set_option linter.unusedSectionVars false
namespace Go.Proofs
namespace YtmhkpababjdnbaaDoor.traceCounts
open Go.Abs Go.ChangeShapes Go.WideShapes Go.ChangeAt Go.RowKit
set_option linter.unusedSimpArgs false
set_option linter.unusedVariables false
set_option maxRecDepth 100000

theorem contract (H : Type) (enc : TypeId × Value → H) (W : World) (base : Nat) (args : Array Value) (ds gs : List (DataW H)) (before : List MemPlace)
    (hval : ∀ (j : Nat) t v, Tryd.f6.params[j]? = some t → args[j]? = some v → Value.okWide Tryd.prog W .any base t v)
    (hW : DataW.Whole enc Tryd.prog Tryd.f6.params.toList Rows.traceCountsSpec.vars false W args.toList ds gs before) :
    Calls Tryd.prog 6 args W fun e W' => ∃ v, e = .returned v ∧ Rows.traceCountsSpec.post enc Tryd.prog Tryd.f6 false true false false W args v W' := by
  have hW' := hW
  obtain ⟨p, q, hA, hV, _, _, _⟩ := hW
  rw [Tryd.params6] at hA hval
  obtain ⟨v0, vs0, d0, ds0, p0, q0, hargs, rfl, rfl, h0, r0⟩ := trodAll_cons hA
  obtain ⟨rfl, rfl, rfl⟩ := trodAll_nil r0
  obtain rfl : args = #[v0] := by cases args; simp_all
  obtain ⟨x0, h0p, _, h0r⟩ := open_evs (hval 0 22 v0 rfl rfl) h0
  obtain ⟨ρ0, a0, m0, b0⟩ := (rel_nil (P := Tryd.prog) (cfg := cfg) (w := W)).addRo (fun _ _ h => h) (evs_ground x0) (evs_oneC x0) h0r
  rw [of_add] at a0
  refine (law_calls (runs6 x0 0 (by omega) h0p) (fun r H' h => h.1) a0 (fun _ _ h => h) (.cons _ _ _ _ b0 .nil)).mono fun en W' ⟨he, hb⟩ => ?_
  exact ⟨_, he, law_post rfl rfl hW' lclosed (by rw [Tryd.params6]; decide) (by kernel_rfl) Tryd.underlying4 hb⟩

def litCells : DataW Unit → Array Value
  | .agg l => (l.map fun d => match d with
    | .lit (.int k n) => Value.int k n
    | _ => .nilIface).toArray
  | _ => #[]
def setCells (cs : Array Value) : Obj → Obj
  | .cells _ t fr => .cells cs t fr
  | o => o
noncomputable def laidWorld (os : Os) : World :=
  let w0 := World.holding Tryd.prog os ⟨#[], #[], []⟩
  { w0 with heap := (((w0.heap.modify 1 (setCells (litCells Rows.laid_internal_strconv_uint64pow10))).modify 3 (setCells (litCells Rows.laid_math_bits_deBruijn32tab))).modify 4 (setCells (litCells Rows.laid_math_bits_deBruijn64tab))) }
theorem laidWorld_met (os : Os) (args : Array Value) : laidMet Tryd.prog Rows.traceCountsRow.laid ((laidWorld os).forCall (fun _ _ => 0) ⟨#[], args, []⟩).memory :=
  laidMet_of_run' 8 (by kernel_rfl) (by kernel_rfl)
set_option maxRecDepth 100000 in
theorem lifted (os : Os) (started : os.Started) (H : Type) (enc : TypeId × Value → H) :
    ReturnsInHanded {} Tryd.checked os 6 .any (fun w args => (Rows.traceCountsSpec.pre enc Tryd.prog Tryd.f6 Rows.traceCountsRow.domain false w args ∧ laidMet Tryd.prog Rows.traceCountsRow.laid w) ∧ sizedMet enc Tryd.prog Tryd.f6 (OpenSpec.ofChange Rows.traceCountsSpec) false w args)
      (Rows.traceCountsSpec.post enc Tryd.prog Tryd.f6 false true false false) := by
  refine returnsInHanded_of_change_and (C := Tryd.checked) (X := fun w _ => laidMet Tryd.prog Rows.traceCountsRow.laid w) (fun _ _ _ hh h => h.of_heap hh) own started (by kernel_rfl) Tryd.func6
    (ChangeSpec.witness_at (enc := enc) (C := Tryd.checked) (os := os) (X := fun w _ => laidMet Tryd.prog Rows.traceCountsRow.laid w) false (laidWorld os) #[.slice none 0 0] 8 rfl (by kernel_rfl) (by kernel_rfl) (by kernel_rfl) (by kernel_rfl) (by kernel_rfl) (laidWorld_met os _)) ?_
  intro W base args ds gs before hval hW _ _ _ _
  exact contract H enc W base args ds gs before hval hW

theorem proved : Rows.TraceCountsSaid :=
  OpenClaim.holds_of_wide 6 Tryd.f6 rfl rfl rfl rfl rfl rfl rfl ⟨rfl, rfl, rfl, rfl, rfl⟩ rfl rfl rfl rfl rfl (by kernel_rfl) Tryd.func6 (by kernel_rfl)
    (of_decide_eq_true (by kernel_rfl)) (by unfold Func.isWrapper; first | (rw [if_pos (by decide +kernel)]; kernel_rfl) | (rw [if_neg (by decide +kernel)]; exact ⟨rfl, rfl⟩))
    (fun os started H enc _ => lifted os started H enc)
end YtmhkpababjdnbaaDoor.traceCounts
theorem YtmhkpababjdnbaaDoor.traceCounts_holds : YtmhkpababjdnbaaDoor.Rows.TraceCountsSaid := YtmhkpababjdnbaaDoor.traceCounts.proved
#print axioms YtmhkpababjdnbaaDoor.traceCounts_holds
end Go.Proofs
