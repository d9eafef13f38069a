/-
  Tl2None: a nil engine answers nothing, and values that may not be make none; for every input.
-/
import Derived.Test.YtapbabkndhaemaaGreatPR3
set_option linter.unusedSimpArgs false
set_option linter.unusedVariables false
set_option linter.unnecessarySimpa false
set_option linter.unusedSectionVars false
namespace Go.Proofs
namespace YtapbabkndhaemaaGreat.tl2None
open Go.Abs Go.ChangeShapes Go.WideShapes Go.ChangeAt Go.RowKit
set_option maxRecDepth 100000
theorem contract (H : Type) (enc : TypeId × Value → H) (W : World) (base : Nat) (args : Array Value) (ds gs : List (DataW H)) (before : List MemPlace)
    (hval : ∀ (j : Nat) t v, Tryz.f9.params[j]? = some t → args[j]? = some v → Value.okWide Tryz.prog W .any base t v)
    (hW : DataW.Whole enc Tryz.prog Tryz.f9.params.toList Rows.tl2NoneSpec.vars false W args.toList ds gs before) :
    Calls Tryz.prog 9 args W fun e W' => ∃ v, e = .returned v ∧ Rows.tl2NoneSpec.post enc Tryz.prog Tryz.f9 false true false false W args v W' := by
  have hW' := hW
  obtain ⟨p, q, hA, hV, _, _, _⟩ := hW
  rw [Tryz.params9] at hA hval
  obtain ⟨v0, vs0, d0, ds0, p0, q0, hargs, rfl, rfl, h0, r0⟩ := trodAll_cons hA
  obtain ⟨v1, vs1, d1, ds1, p1, q1, rfl, rfl, rfl, h1, r1⟩ := trodAll_cons r0
  obtain ⟨v2, vs2, d2, ds2, p2, q2, rfl, rfl, rfl, h2, r2⟩ := trodAll_cons r1
  obtain ⟨rfl, rfl, rfl⟩ := trodAll_nil r2
  obtain rfl : args = #[v0, v1, v2] := by cases args; simp_all
  obtain ⟨x0, rfl, h0p⟩ := open_ndeed (hval 0 34 v0 rfl rfl) h0
  obtain ⟨x1, h1p, _, h1r⟩ := open_words (hval 1 25 v1 rfl rfl) h1
  obtain ⟨x2, rfl, h2p⟩ := open_int (hval 2 3 v2 rfl rfl) h2
  obtain ⟨ρ1, a1, m1, b1⟩ := (rel_nil (P := Tryz.prog) (cfg := cfg) (w := W)).addRo (fun _ _ h => h) (us_ground x1) (us_oneC x1) h1r
  rw [of_add] at a1
  refine (law_calls (runs9 x0 x1 0 x2 h1p) (fun r H' h => h.1) a1 (fun _ _ h => h) (.cons _ _ _ _ (VR.of_ground _ _ rfl) (.cons _ _ _ _ b1 (.cons _ _ _ _ (VR.of_ground _ _ rfl) .nil)))).mono fun en W' ⟨he, hb⟩ => ?_
  exact ⟨_, he, law_post rfl rfl hW' lclosed (by rw [Tryz.params9]; decide) (by kernel_rfl) Tryz.underlying4 hb⟩
set_option maxRecDepth 100000 in
theorem lifted (os : Os) (started : os.Started) (H : Type) (enc : TypeId × Value → H) :
    ReturnsInHanded {} Tryz.checked os 9 .any (Rows.tl2NoneSpec.pre6 enc Tryz.prog Tryz.f9 Rows.tl2NoneRow.domain false) (Rows.tl2NoneSpec.post enc Tryz.prog Tryz.f9 false true false false) := by
  refine returnsInHanded_of_change (C := Tryz.checked) own started (by kernel_rfl) Tryz.func9
    (ChangeSpec.witness6 (enc := enc) (C := Tryz.checked) false ⟨#[], #[.agg #[.int .i64 0, .int .i64 0, .int .u8 0, .int .i64 0, .int .u64 0], .slice none 0 0, .int .i64 0], []⟩ 8 (by kernel_rfl) (by kernel_rfl) (by kernel_rfl) (by kernel_rfl)) ?_
  intro W base args ds gs before hval hW _ _
  exact contract H enc W base args ds gs before hval hW
theorem proved : Rows.Tl2NoneSaid :=
  OpenClaim.holds_of_wide 9 Tryz.f9 rfl rfl rfl rfl rfl rfl rfl ⟨rfl, rfl, rfl, rfl, rfl⟩ rfl rfl rfl rfl rfl (by kernel_rfl) Tryz.func9 (by kernel_rfl)
    (of_decide_eq_true (by kernel_rfl)) (by unfold Func.isWrapper; first | (rw [if_pos (by decide +kernel)]; kernel_rfl) | (rw [if_neg (by decide +kernel)]; exact ⟨rfl, rfl⟩))
    (fun os started H enc _ => lifted os started H enc)
end YtapbabkndhaemaaGreat.tl2None
theorem YtapbabkndhaemaaGreat.tl2None_holds : YtapbabkndhaemaaGreat.Rows.Tl2NoneSaid := YtapbabkndhaemaaGreat.tl2None.proved
#print axioms YtapbabkndhaemaaGreat.tl2None_holds
end Go.Proofs
