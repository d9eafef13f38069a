/-
  NorecPlays: what each step comes to is just what the document says, whatever the threads do. For every deeds; no condition.
-/
import Derived.Test.YtnemoimbeefngaaGreatPR2
import Derived.Test.YtnemoimbeefngaaGreatPR4
set_option linter.unusedSimpArgs false
set_option linter.unusedVariables false
set_option linter.unnecessarySimpa false
set_option linter.unusedSectionVars false
namespace Go.Proofs
namespace YtnemoimbeefngaaGreat.norecPlays
open Go.Abs Go.ChangeShapes Go.WideShapes Go.ChangeAt Go.RowKit
set_option maxRecDepth 100000
theorem qJj (H : Type) (enc : TypeId × Value → H) (W : World) (base : Nat) (args : Array Value) (ds gs : List (DataW H)) (before : List MemPlace)
    (hval : ∀ (j : Nat) t v, Tryz.f5.params[j]? = some t → args[j]? = some v → Value.okWide Tryz.prog W .any base t v)
    (hW : DataW.Whole enc Tryz.prog Tryz.f5.params.toList Rows.norecPlaysSpec.vars false W args.toList ds gs before) :
    Calls Tryz.prog 5 args W fun e W' => ∃ v, e = .returned v ∧ Rows.norecPlaysSpec.post enc Tryz.prog Tryz.f5 false true false false W args v W' := by
  have hW' := hW
  obtain ⟨p, q, hA, hV, _, _, _⟩ := hW
  rw [Tryz.params5] at hA hval
  obtain ⟨v0, vs0, d0, ds0, p0, q0, hargs, rfl, rfl, h0, r0⟩ := trodAll_cons hA
  obtain ⟨rfl, rfl, rfl⟩ := trodAll_nil r0
  obtain rfl : args = #[v0] := by cases args; simp_all
  obtain ⟨x0, h0p, _, h0r⟩ := zVz (hval 0 22 v0 rfl rfl) h0
  obtain ⟨ρ0, a0, m0, b0⟩ := (qOe (P := Tryz.prog) (cfg := cfg) (w := W)).addRo (fun _ _ h => h) (zO8 x0) (qPt x0) h0r
  rw [zUc] at a0
  refine (qDi (runs5 x0 0 h0p) (fun r H' h => h.1) a0 (fun _ _ h => h) (.cons _ _ _ _ b0 .nil)).mono fun en W' ⟨he, hb⟩ => ?_
  exact ⟨_, he, qH8 rfl rfl hW' qO4 (by rw [Tryz.params5]; decide) (by kernel_rfl) Tryz.underlying4 hb⟩
set_option maxRecDepth 100000 in
theorem qR3 (os : Os) (started : os.Started) (H : Type) (enc : TypeId × Value → H) :
    ReturnsInHanded {} Tryz.checked os 5 .any (Rows.norecPlaysSpec.pre6 enc Tryz.prog Tryz.f5 Rows.norecPlaysRow.domain false) (Rows.norecPlaysSpec.post enc Tryz.prog Tryz.f5 false true false false) := by
  refine returnsInHanded_of_change (C := Tryz.checked) own started (by kernel_rfl) Tryz.func5
    (ChangeSpec.witness6 (enc := enc) (C := Tryz.checked) false ⟨#[], #[.slice none 0 0], []⟩ 8 (by kernel_rfl) (by kernel_rfl) (by kernel_rfl) (by kernel_rfl)) ?_
  intro W base args ds gs before hval hW _ _
  exact qJj H enc W base args ds gs before hval hW
theorem proved : Rows.NorecPlaysSaid :=
  OpenClaim.holds_of_wide 5 Tryz.f5 rfl rfl rfl rfl rfl rfl rfl ⟨rfl, rfl, rfl, rfl, rfl⟩ rfl rfl rfl rfl rfl (by kernel_rfl) Tryz.func5 (by kernel_rfl)
    (of_decide_eq_true (by kernel_rfl)) (by unfold Func.isWrapper; first | (rw [if_pos (by decide +kernel)]; kernel_rfl) | (rw [if_neg (by decide +kernel)]; exact ⟨rfl, rfl⟩))
    (fun os started H enc _ => qR3 os started H enc)
end YtnemoimbeefngaaGreat.norecPlays
theorem YtnemoimbeefngaaGreat.norecPlays_holds : YtnemoimbeefngaaGreat.Rows.NorecPlaysSaid := YtnemoimbeefngaaGreat.norecPlays.proved
#print axioms YtnemoimbeefngaaGreat.norecPlays_holds
end Go.Proofs
