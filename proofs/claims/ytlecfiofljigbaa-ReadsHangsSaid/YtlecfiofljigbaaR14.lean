/-
  ReadsHangs: Valid hangs on the variables that were read alone. For every entries and two heaps; no condition.
-/
import Derived.Test.YtlecfiofljigbaaR12
set_option linter.unusedSimpArgs false
set_option linter.unusedVariables false
set_option linter.unnecessarySimpa false
set_option linter.unusedSectionVars false
namespace Go.Proofs
namespace Ytlecfiofljigbaa.readsHangs
open Go.Abs Go.ChangeShapes Go.WideShapes Go.ChangeAt Go.RowKit
set_option linter.unusedSimpArgs false
set_option linter.unusedVariables false

theorem contract (H : Type) (enc : TypeId × Value → H) (W : World) (base : Nat) (args : Array Value) (ds gs : List (DataW H)) (before : List MemPlace)
    (hval : ∀ (j : Nat) t v, Try.f3.params[j]? = some t → args[j]? = some v → Value.okWide Try.prog W .any base t v)
    (hW : DataW.Whole enc Try.prog Try.f3.params.toList Rows.readsHangsSpec.vars false W args.toList ds gs before) :
    Calls Try.prog 3 args W fun e W' => ∃ v, e = .returned v ∧ Rows.readsHangsSpec.post enc Try.prog Try.f3 false true false false W args v W' := by
  have hW' := hW
  obtain ⟨p, q, hA, hV, _, _, _⟩ := hW
  rw [Try.params3] at hA hval
  obtain ⟨v0, vs0, d0, ds0, p0, q0, hargs, rfl, rfl, h0, r0⟩ := trodAll_cons hA
  obtain ⟨v1, vs1, d1, ds1, p1, q1, rfl, rfl, rfl, h1, r1⟩ := trodAll_cons r0
  obtain ⟨v2, vs2, d2, ds2, p2, q2, rfl, rfl, rfl, h2, r2⟩ := trodAll_cons r1
  obtain ⟨rfl, rfl, rfl⟩ := trodAll_nil r2
  obtain rfl : args = #[v0, v1, v2] := by cases args; simp_all
  obtain ⟨l, hl1, _, hl3⟩ := open_ents (hval 0 22 v0 rfl rfl) h0
  obtain ⟨h, _, _, hh3⟩ := open_words (hval 1 23 v1 rfl rfl) h1
  obtain ⟨o, _, _, ho3⟩ := open_words (hval 2 23 v2 rfl rfl) h2
  obtain ⟨ρ1, a1, a2, a3⟩ := (rel_nil (P := Try.prog) (cfg := cfg) (w := W)).addRo (fun _ _ h => h) (rows_ground l) (rows_one l) hl3
  rw [of_add] at a1
  obtain ⟨ρ2, b1, b2, b3⟩ := a1.addRo (fun _ _ h => h) (us_ground h) (us_oneC h) hh3
  rw [of_add] at b1
  obtain ⟨ρ3, c1, c2, c3⟩ := b1.addRo (fun _ _ h => h) (us_ground o) (us_oneC o) ho3
  rw [of_add] at c1
  refine (law_calls (runs3 l h o 0 0 0 hl1) (fun r H' h => h.1) c1 (fun _ _ h => h) (.cons _ _ _ _ ((a3.mono b2).mono c2) (.cons _ _ _ _ (b3.mono c2) (.cons _ _ _ _ c3 .nil)))).mono fun en W' ⟨he, hb⟩ => ?_
  exact ⟨_, he, law_post rfl rfl hW' lclosed (by rw [Try.params3]; decide) (by kernel_rfl) Try.underlying4 hb⟩

set_option maxRecDepth 100000 in
theorem lifted (os : Os) (started : os.Started) (H : Type) (enc : TypeId × Value → H) :
    ReturnsInHanded {} Try.checked os 3 .any (Rows.readsHangsSpec.pre6 enc Try.prog Try.f3 Rows.readsHangsRow.domain false) (Rows.readsHangsSpec.post enc Try.prog Try.f3 false true false false) := by
  refine returnsInHanded_of_change (C := Try.checked) own started (by kernel_rfl) Try.func3
    (ChangeSpec.witness6 (enc := enc) (C := Try.checked) false ⟨#[], #[.slice none 0 0, .slice none 0 0, .slice none 0 0], []⟩ 8 (by kernel_rfl) (by kernel_rfl) (by kernel_rfl) (by kernel_rfl)) ?_
  intro W base args ds gs before hval hW _ _
  exact contract H enc W base args ds gs before hval hW

theorem proved : Rows.ReadsHangsSaid :=
  OpenClaim.holds_of_wide 3 Try.f3 rfl rfl rfl rfl rfl rfl rfl ⟨rfl, rfl, rfl, rfl, rfl⟩ rfl rfl rfl rfl rfl (by kernel_rfl) Try.func3 (by kernel_rfl)
    (of_decide_eq_true (by kernel_rfl)) (by unfold Func.isWrapper; first | (rw [if_pos (by decide +kernel)]; kernel_rfl) | (rw [if_neg (by decide +kernel)]; exact ⟨rfl, rfl⟩))
    (fun os started H enc _ => lifted os started H enc)
end Ytlecfiofljigbaa.readsHangs
theorem Ytlecfiofljigbaa.readsHangs_holds : Ytlecfiofljigbaa.Rows.ReadsHangsSaid := Ytlecfiofljigbaa.readsHangs.proved
#print axioms Ytlecfiofljigbaa.readsHangs_holds
end Go.Proofs
