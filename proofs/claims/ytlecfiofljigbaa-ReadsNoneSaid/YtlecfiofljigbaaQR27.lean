/-
  ReadsNone: a nil set answers so. For every entry and heap; no condition.
-/
import Derived.Test.YtlecfiofljigbaaPR1
set_option linter.unusedSimpArgs false
set_option linter.unusedVariables false
set_option linter.unnecessarySimpa false
set_option linter.unusedSectionVars false
namespace Go.Proofs
namespace Ytlecfiofljigbaa.readsNone
open Go.Abs Go.ChangeShapes Go.WideShapes Go.ChangeAt Go.RowKit
set_option linter.unusedSimpArgs false
set_option linter.unusedVariables false

theorem contract (H : Type) (enc : TypeId × Value → H) (W : World) (base : Nat) (args : Array Value) (ds gs : List (DataW H)) (before : List MemPlace)
    (hval : ∀ (j : Nat) t v, Try.f8.params[j]? = some t → args[j]? = some v → Value.okWide Try.prog W .any base t v)
    (hW : DataW.Whole enc Try.prog Try.f8.params.toList Rows.readsNoneSpec.vars false W args.toList ds gs before) :
    Calls Try.prog 8 args W fun e W' => ∃ v, e = .returned v ∧ Rows.readsNoneSpec.post enc Try.prog Try.f8 false true false false W args v W' := by
  have hW' := hW
  obtain ⟨p, q, hA, hV, _, _, _⟩ := hW
  rw [Try.params8] at hA hval
  obtain ⟨v0, vs0, d0, ds0, p0, q0, hargs, rfl, rfl, h0, r0⟩ := trodAll_cons hA
  obtain ⟨v1, vs1, d1, ds1, p1, q1, rfl, rfl, rfl, h1, r1⟩ := trodAll_cons r0
  obtain ⟨rfl, rfl, rfl⟩ := trodAll_nil r1
  obtain rfl : args = #[v0, v1] := by cases args; simp_all
  obtain ⟨x0, rfl, h0p⟩ := open_ent (hval 0 32 v0 rfl rfl) h0
  obtain ⟨x1, h1p, _, h1r⟩ := open_words (hval 1 23 v1 rfl rfl) h1
  obtain ⟨ρ1, a1, m1, b1⟩ := (rel_nil (P := Try.prog) (cfg := cfg) (w := W)).addRo (fun _ _ h => h) (us_ground x1) (us_oneC x1) h1r
  rw [of_add] at a1
  refine (law_calls (runs8 x0.t x0.v x0.n x1 0) (fun r H' h => h.1) a1 (fun _ _ h => h) (.cons _ _ _ _ (VR.of_ground _ _ rfl) (.cons _ _ _ _ b1 .nil))).mono fun en W' ⟨he, hb⟩ => ?_
  exact ⟨_, he, law_post rfl rfl hW' lclosed (by rw [Try.params8]; decide) (by kernel_rfl) Try.underlying4 hb⟩

set_option maxRecDepth 100000 in
theorem lifted (os : Os) (started : os.Started) (H : Type) (enc : TypeId × Value → H) :
    ReturnsInHanded {} Try.checked os 8 .any (Rows.readsNoneSpec.pre6 enc Try.prog Try.f8 Rows.readsNoneRow.domain false) (Rows.readsNoneSpec.post enc Try.prog Try.f8 false true false false) := by
  refine returnsInHanded_of_change (C := Try.checked) own started (by kernel_rfl) Try.func8
    (ChangeSpec.witness6 (enc := enc) (C := Try.checked) false ⟨#[], #[.agg #[.int .i64 0, .int .u64 0, .int .u64 0], .slice none 0 0], []⟩ 8 (by kernel_rfl) (by kernel_rfl) (by kernel_rfl) (by kernel_rfl)) ?_
  intro W base args ds gs before hval hW _ _
  exact contract H enc W base args ds gs before hval hW

theorem proved : Rows.ReadsNoneSaid :=
  OpenClaim.holds_of_wide 8 Try.f8 rfl rfl rfl rfl rfl rfl rfl ⟨rfl, rfl, rfl, rfl, rfl⟩ rfl rfl rfl rfl rfl (by kernel_rfl) Try.func8 (by kernel_rfl)
    (of_decide_eq_true (by kernel_rfl)) (by unfold Func.isWrapper; first | (rw [if_pos (by decide +kernel)]; kernel_rfl) | (rw [if_neg (by decide +kernel)]; exact ⟨rfl, rfl⟩))
    (fun os started H enc _ => lifted os started H enc)
end Ytlecfiofljigbaa.readsNone
theorem Ytlecfiofljigbaa.readsNone_holds : Ytlecfiofljigbaa.Rows.ReadsNoneSaid := Ytlecfiofljigbaa.readsNone.proved
#print axioms Ytlecfiofljigbaa.readsNone_holds
end Go.Proofs
