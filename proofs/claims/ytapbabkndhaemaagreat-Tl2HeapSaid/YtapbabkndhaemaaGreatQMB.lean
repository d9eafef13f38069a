/-
  Tl2Heap: the heap is that which the order leaves, but where stripes are locked. For every deeds; no condition.
-/
import Derived.Test.YtapbabkndhaemaaGreatPR2
import Derived.Test.YtapbabkndhaemaaGreatPR4
set_option linter.unusedSimpArgs false
set_option linter.unusedVariables false
set_option linter.unnecessarySimpa false
set_option linter.unusedSectionVars false
namespace Go.Proofs
namespace YtapbabkndhaemaaGreat.tl2Heap
open Go.Abs Go.ChangeShapes Go.WideShapes Go.ChangeAt Go.RowKit
set_option maxRecDepth 100000
theorem zHz (H : Type) (enc : TypeId × Value → H) (W : World) (base : Nat) (args : Array Value) (ds gs : List (DataW H)) (before : List MemPlace)
    (hval : ∀ (j : Nat) t v, Tryz.f7.params[j]? = some t → args[j]? = some v → Value.okWide Tryz.prog W .any base t v)
    (hW : DataW.Whole enc Tryz.prog Tryz.f7.params.toList Rows.tl2HeapSpec.vars false W args.toList ds gs before) :
    Calls Tryz.prog 7 args W fun e W' => ∃ v, e = .returned v ∧ Rows.tl2HeapSpec.post enc Tryz.prog Tryz.f7 false true false false W args v W' := by
  have hW' := hW
  obtain ⟨p, q, hA, hV, _, _, _⟩ := hW
  rw [Tryz.params7] at hA hval
  obtain ⟨v0, vs0, d0, ds0, p0, q0, hargs, rfl, rfl, h0, r0⟩ := trodAll_cons hA
  obtain ⟨rfl, rfl, rfl⟩ := trodAll_nil r0
  obtain rfl : args = #[v0] := by cases args; simp_all
  obtain ⟨x0, h0p, _, h0r⟩ := zPz (hval 0 22 v0 rfl rfl) h0
  obtain ⟨ρ0, a0, m0, b0⟩ := (qB9 (P := Tryz.prog) (cfg := cfg) (w := W)).addRo (fun _ _ h => h) (zM9 x0) (qCu x0) h0r
  rw [zR7] at a0
  refine (zUo (runs7 x0 0 h0p) (fun r H' h => h.1) a0 (fun _ _ h => h) (.cons _ _ _ _ b0 .nil)).mono fun en W' ⟨he, hb⟩ => ?_
  exact ⟨_, he, zYn rfl rfl hW' qCk (by rw [Tryz.params7]; decide) (by kernel_rfl) Tryz.underlying4 hb⟩
set_option maxRecDepth 100000 in
theorem zYm (os : Os) (started : os.Started) (H : Type) (enc : TypeId × Value → H) :
    ReturnsInHanded {} Tryz.checked os 7 .any (Rows.tl2HeapSpec.pre6 enc Tryz.prog Tryz.f7 Rows.tl2HeapRow.domain false) (Rows.tl2HeapSpec.post enc Tryz.prog Tryz.f7 false true false false) := by
  refine returnsInHanded_of_change (C := Tryz.checked) own started (by kernel_rfl) Tryz.func7
    (ChangeSpec.witness6 (enc := enc) (C := Tryz.checked) false ⟨#[], #[.slice none 0 0], []⟩ 8 (by kernel_rfl) (by kernel_rfl) (by kernel_rfl) (by kernel_rfl)) ?_
  intro W base args ds gs before hval hW _ _
  exact zHz H enc W base args ds gs before hval hW
theorem proved : Rows.Tl2HeapSaid :=
  OpenClaim.holds_of_wide 7 Tryz.f7 rfl rfl rfl rfl rfl rfl rfl ⟨rfl, rfl, rfl, rfl, rfl⟩ rfl rfl rfl rfl rfl (by kernel_rfl) Tryz.func7 (by kernel_rfl)
    (of_decide_eq_true (by kernel_rfl)) (by unfold Func.isWrapper; first | (rw [if_pos (by decide +kernel)]; kernel_rfl) | (rw [if_neg (by decide +kernel)]; exact ⟨rfl, rfl⟩))
    (fun os started H enc _ => zYm os started H enc)
end YtapbabkndhaemaaGreat.tl2Heap
theorem YtapbabkndhaemaaGreat.tl2Heap_holds : YtapbabkndhaemaaGreat.Rows.Tl2HeapSaid := YtapbabkndhaemaaGreat.tl2Heap.proved
#print axioms YtapbabkndhaemaaGreat.tl2Heap_holds
end Go.Proofs
