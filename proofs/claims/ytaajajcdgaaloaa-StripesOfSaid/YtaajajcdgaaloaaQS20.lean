/-
  StripesOf: the stripe of a variable; those of some, rising, each once. For every number of stripes, variable, and some; no condition.
-/
import Derived.Test.YtaajajcdgaaloaaPR1
set_option linter.unusedSimpArgs false
set_option linter.unusedVariables false
set_option linter.unnecessarySimpa false
set_option linter.unusedSectionVars false
namespace Go.Proofs
namespace Ytaajajcdgaaloaa.stripesOf
open Go.Abs Go.ChangeShapes Go.WideShapes Go.ChangeAt Go.RowKit
set_option linter.unusedSimpArgs false
set_option linter.unusedVariables false
set_option maxRecDepth 100000

theorem contract (H : Type) (enc : TypeId × Value → H) (W : World) (base : Nat) (args : Array Value) (ds gs : List (DataW H)) (before : List MemPlace)
    (hval : ∀ (j : Nat) t v, Try.f7.params[j]? = some t → args[j]? = some v → Value.okWide Try.prog W .any base t v)
    (hW : DataW.Whole enc Try.prog Try.f7.params.toList Rows.stripesOfSpec.vars false W args.toList ds gs before) :
    Calls Try.prog 7 args W fun e W' => ∃ v, e = .returned v ∧ Rows.stripesOfSpec.post enc Try.prog Try.f7 false true false false W args v W' := by
  have hW' := hW
  obtain ⟨p, q, hA, hV, _, _, _⟩ := hW
  rw [Try.params7] at hA hval
  obtain ⟨v0, vs0, d0, ds0, p0, q0, hargs, rfl, rfl, h0, r0⟩ := trodAll_cons hA
  obtain ⟨v1, vs1, d1, ds1, p1, q1, rfl, rfl, rfl, h1, r1⟩ := trodAll_cons r0
  obtain ⟨v2, vs2, d2, ds2, p2, q2, rfl, rfl, rfl, h2, r2⟩ := trodAll_cons r1
  obtain ⟨rfl, rfl, rfl⟩ := trodAll_nil r2
  obtain rfl : args = #[v0, v1, v2] := by cases args; simp_all
  obtain ⟨x0, rfl, h0p⟩ := open_u8 (hval 0 5 v0 rfl rfl) h0
  obtain ⟨x1, rfl, h1p⟩ := open_int (hval 1 3 v1 rfl rfl) h1
  obtain ⟨x2, h2p, _, h2r⟩ := open_ints (hval 2 36 v2 rfl rfl) h2
  obtain ⟨ρ2, a2, m2, b2⟩ := (rel_nil (P := Try.prog) (cfg := cfg) (w := W)).addRo (fun _ _ h => h) (ints_ground x2) (ints_oneC x2) h2r
  rw [of_add] at a2
  refine (law_calls (runs7 x0 h0p x1 x2 0) (fun r H' h => h.1) a2 (fun _ _ h => h) (.cons _ _ _ _ (VR.of_ground _ _ rfl) (.cons _ _ _ _ (VR.of_ground _ _ rfl) (.cons _ _ _ _ b2 .nil)))).mono fun en W' ⟨he, hb⟩ => ?_
  exact ⟨_, he, law_post rfl rfl hW' lclosed (by rw [Try.params7]; decide) (by kernel_rfl) Try.underlying4 hb⟩

set_option maxRecDepth 100000 in
theorem lifted (os : Os) (started : os.Started) (H : Type) (enc : TypeId × Value → H) :
    ReturnsInHanded {} Try.checked os 7 .any (Rows.stripesOfSpec.pre6 enc Try.prog Try.f7 Rows.stripesOfRow.domain false) (Rows.stripesOfSpec.post enc Try.prog Try.f7 false true false false) := by
  refine returnsInHanded_of_change (C := Try.checked) own started (by kernel_rfl) Try.func7
    (ChangeSpec.witness6 (enc := enc) (C := Try.checked) false ⟨#[], #[.int .u8 0, .int .i64 0, .slice none 0 0], []⟩ 8 (by kernel_rfl) (by kernel_rfl) (by kernel_rfl) (by kernel_rfl)) ?_
  intro W base args ds gs before hval hW _ _
  exact contract H enc W base args ds gs before hval hW

theorem proved : Rows.StripesOfSaid :=
  OpenClaim.holds_of_wide 7 Try.f7 rfl rfl rfl rfl rfl rfl rfl ⟨rfl, rfl, rfl, rfl, rfl⟩ rfl rfl rfl rfl rfl (by kernel_rfl) Try.func7 (by kernel_rfl)
    (of_decide_eq_true (by kernel_rfl)) (by unfold Func.isWrapper; first | (rw [if_pos (by decide +kernel)]; kernel_rfl) | (rw [if_neg (by decide +kernel)]; exact ⟨rfl, rfl⟩))
    (fun os started H enc _ => lifted os started H enc)
end Ytaajajcdgaaloaa.stripesOf
theorem Ytaajajcdgaaloaa.stripesOf_holds : Ytaajajcdgaaloaa.Rows.StripesOfSaid := Ytaajajcdgaaloaa.stripesOf.proved
#print axioms Ytaajajcdgaaloaa.stripesOf_holds
end Go.Proofs
