/-
  Tl2Gone: who ended by a reason leaves nothing: no lock, and the heap as it was. For every deeds and every thread; no condition.
-/
import Derived.Test.YtapbabkndhaemaaGreatPR3
set_option linter.unusedSimpArgs false
set_option linter.unusedVariables false
set_option linter.unnecessarySimpa false
set_option linter.unusedSectionVars false
namespace Go.Proofs
namespace YtapbabkndhaemaaGreat.tl2Gone
open Go.Abs Go.ChangeShapes Go.WideShapes Go.ChangeAt Go.RowKit
set_option maxRecDepth 100000
theorem contract (H : Type) (enc : TypeId × Value → H) (W : World) (base : Nat) (args : Array Value) (ds gs : List (DataW H)) (before : List MemPlace)
    (hval : ∀ (j : Nat) t v, Tryz.f5.params[j]? = some t → args[j]? = some v → Value.okWide Tryz.prog W .any base t v)
    (hW : DataW.Whole enc Tryz.prog Tryz.f5.params.toList Rows.tl2GoneSpec.vars false W args.toList ds gs before) :
    Calls Tryz.prog 5 args W fun e W' => ∃ v, e = .returned v ∧ Rows.tl2GoneSpec.post enc Tryz.prog Tryz.f5 false true false false W args v W' := by
  have hW' := hW
  obtain ⟨p, q, hA, hV, _, _, _⟩ := hW
  rw [Tryz.params5] at hA hval
  obtain ⟨v0, vs0, d0, ds0, p0, q0, hargs, rfl, rfl, h0, r0⟩ := trodAll_cons hA
  obtain ⟨v1, vs1, d1, ds1, p1, q1, rfl, rfl, rfl, h1, r1⟩ := trodAll_cons r0
  obtain ⟨rfl, rfl, rfl⟩ := trodAll_nil r1
  obtain rfl : args = #[v0, v1] := by cases args; simp_all
  obtain ⟨x0, h0p, _, h0r⟩ := open_ndeeds (hval 0 22 v0 rfl rfl) h0
  obtain ⟨x1, rfl, h1p⟩ := open_u8 (hval 1 5 v1 rfl rfl) h1
  obtain ⟨ρ0, a0, m0, b0⟩ := (rel_nil (P := Tryz.prog) (cfg := cfg) (w := W)).addRo (fun _ _ h => h) (dds_ground x0) (dds_one x0) h0r
  rw [of_add] at a0
  refine (law_calls (runs5 x0 0 h0p x1 h1p) (fun r H' h => h.1) a0 (fun _ _ h => h) (.cons _ _ _ _ b0 (.cons _ _ _ _ (VR.of_ground _ _ rfl) .nil))).mono fun en W' ⟨he, hb⟩ => ?_
  exact ⟨_, he, law_post rfl rfl hW' lclosed (by rw [Tryz.params5]; decide) (by kernel_rfl) Tryz.underlying4 hb⟩
set_option maxRecDepth 100000 in
theorem lifted (os : Os) (started : os.Started) (H : Type) (enc : TypeId × Value → H) :
    ReturnsInHanded {} Tryz.checked os 5 .any (Rows.tl2GoneSpec.pre6 enc Tryz.prog Tryz.f5 Rows.tl2GoneRow.domain false) (Rows.tl2GoneSpec.post enc Tryz.prog Tryz.f5 false true false false) := by
  refine returnsInHanded_of_change (C := Tryz.checked) own started (by kernel_rfl) Tryz.func5
    (ChangeSpec.witness6 (enc := enc) (C := Tryz.checked) false ⟨#[], #[.slice none 0 0, .int .u8 0], []⟩ 8 (by kernel_rfl) (by kernel_rfl) (by kernel_rfl) (by kernel_rfl)) ?_
  intro W base args ds gs before hval hW _ _
  exact contract H enc W base args ds gs before hval hW
theorem proved : Rows.Tl2GoneSaid :=
  OpenClaim.holds_of_wide 5 Tryz.f5 rfl rfl rfl rfl rfl rfl rfl ⟨rfl, rfl, rfl, rfl, rfl⟩ rfl rfl rfl rfl rfl (by kernel_rfl) Tryz.func5 (by kernel_rfl)
    (of_decide_eq_true (by kernel_rfl)) (by unfold Func.isWrapper; first | (rw [if_pos (by decide +kernel)]; kernel_rfl) | (rw [if_neg (by decide +kernel)]; exact ⟨rfl, rfl⟩))
    (fun os started H enc _ => lifted os started H enc)
end YtapbabkndhaemaaGreat.tl2Gone
theorem YtapbabkndhaemaaGreat.tl2Gone_holds : YtapbabkndhaemaaGreat.Rows.Tl2GoneSaid := YtapbabkndhaemaaGreat.tl2Gone.proved
#print axioms YtapbabkndhaemaaGreat.tl2Gone_holds
end Go.Proofs
