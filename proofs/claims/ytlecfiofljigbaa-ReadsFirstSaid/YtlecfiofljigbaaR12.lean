/-
  What the arguments of this seat's laws read as.
-/
import Derived.Test.YtlecfiofljigbaaRows
import Derived.Test.YtlecfiofljigbaaR11
import Derived.Test.YtlecfiofljigbaaA32
set_option linter.unusedSimpArgs false
set_option linter.unusedVariables false
set_option linter.unnecessarySimpa false
set_option linter.unusedSectionVars false
namespace Go.Proofs
namespace Ytlecfiofljigbaa
open Go.Abs Go.ChangeShapes Go.WideShapes Go.ChangeAt Go.RowKit
set_option linter.unusedSimpArgs false
set_option linter.unusedVariables false

theorem own : ownKnob Try.prog.godebug = none := by kernel_rfl
theorem cells32 : Try.prog.cellsOf 32 = 3 := by kernel_rfl
theorem cells30 : Try.prog.cellsOf 30 = 1 := by kernel_rfl
def ltypes : List TypeId := [22, 23, 32, 30, 29, 3]
theorem lclosed : closedB Try.prog ltypes = true := by kernel_rfl

section
variable {H : Type} {enc : TypeId × Value → H} {w : World}
theorem wf_i64 {n : Int} (h : (Lit.int .i64 n).wf = true) : -9223372036854775808 ≤ n ∧ n ≤ 9223372036854775807 := by
  simpa [Lit.wf, IntKind.min, IntKind.max, IntKind.signed, IntKind.bits] using h
theorem wf_u64 {n : Int} (h : (Lit.int .u64 n).wf = true) : 0 ≤ n ∧ n < 18446744073709551616 := by
  have : 0 ≤ n ∧ n ≤ 18446744073709551615 := by simpa [Lit.wf, IntKind.min, IntKind.max, IntKind.signed, IntKind.bits] using h
  omega

theorem ent_cells {fuel : Nat} {cs : List Value} {y : DataW H × List MemPlace} (h : DataW.trod enc Try.prog w 0 (fun _ => true) true fuel 32 cs = some y) : ∃ e : Ent, cs = e.cells ∧ e.Ok := by
  obtain ⟨h1, h2⟩ := struct_cells Try.underlying32 (by kernel_rfl) h cells32
  obtain ⟨v0, n0, y0, g0, t0⟩ := h2 0 _ rfl
  obtain ⟨v1, n1, y1, g1, t1⟩ := h2 1 _ rfl
  obtain ⟨v2, n2, y2, g2, t2⟩ := h2 2 _ rfl
  obtain ⟨a, ha, _, _⟩ := DataW.trod_int Try.underlying3 t0
  obtain ⟨b, hb, _, hw⟩ := DataW.trod_int Try.underlying30 t1
  obtain ⟨c, hc, _, _⟩ := DataW.trod_int Try.underlying29 t2
  have h3 : cs.length = 3 := h1
  match cs, h3 with
  | [c0, c1, c2], _ =>
    simp only [List.getElem?_cons_zero, List.getElem?_cons_succ, Option.some.injEq] at g0 g1 g2
    cases g0; cases g1; cases g2
    cases ha; cases hb; cases hc
    exact ⟨⟨a, b, c⟩, rfl, wf_u64 hw⟩
theorem open_ents {r : Reach} {b0 : Nat} {v : Value} {d : DataW H} {ps : List MemPlace} (hok : Value.okWide Try.prog w r b0 22 v) (hd : DataW.Trod enc Try.prog w 0 (fun _ => true) true 22 v d ps) :
    ∃ l : List Ent, (∀ e ∈ l, e.Ok) ∧ l.length ≤ maxLen ∧ ArgRow w v l.length (rows l) :=
  open_rows (ea := Ent.cells) Try.underlying22 (by rw [cells32]; omega) (fun x => cells32.symm) (fun _ _ _ h => ent_cells h) hok hd
theorem word_cell {fuel : Nat} {cs : List Value} {y : DataW H × List MemPlace} (h : DataW.trod enc Try.prog w 0 (fun _ => true) true fuel 30 cs = some y) : ∃ v : Int, cs = [.int .u64 v] ∧ (0 ≤ v ∧ v < 18446744073709551616) := by
  obtain ⟨n, rfl, _, hw⟩ := DataW.trod_int Try.underlying30 h
  exact ⟨n, rfl, wf_u64 hw⟩
theorem us_flat (h : List Int) : h.flatMap (fun v => [Value.int .u64 v]) = us h := by
  induction h with
  | nil => rfl
  | cons v h ih => rw [List.flatMap_cons, ih]; rfl
theorem open_words {r : Reach} {b0 : Nat} {v : Value} {d : DataW H} {ps : List MemPlace} (hok : Value.okWide Try.prog w r b0 23 v) (hd : DataW.Trod enc Try.prog w 0 (fun _ => true) true 23 v d ps) :
    ∃ l : List Int, (∀ v ∈ l, 0 ≤ v ∧ v < 18446744073709551616) ∧ l.length ≤ maxLen ∧ ArgRow w v l.length (us l) := by
  obtain ⟨l, h1, h2, h3⟩ := open_rows (ea := fun v => [Value.int .u64 v]) (Ok := fun v => 0 ≤ v ∧ v < 18446744073709551616) Try.underlying23 (by rw [cells30]; omega) (fun x => cells30.symm) (fun _ _ _ h => word_cell h) hok hd
  rw [us_flat] at h3
  exact ⟨l, h1, h2, h3⟩
theorem open_ent {r : Reach} {b0 : Nat} {v : Value} {d : DataW H} {ps : List MemPlace} (hok : Value.okWide Try.prog w r b0 32 v) (hd : DataW.Trod enc Try.prog w 0 (fun _ => true) true 32 v d ps) : ∃ e : Ent, v = e.val ∧ e.Ok := by
  obtain ⟨cs, rfl, _⟩ := okWide_struct Try.underlying32 hok
  obtain ⟨fuel, hf⟩ := hd
  obtain ⟨e, h1, h2⟩ := ent_cells hf
  refine ⟨e, ?_, h2⟩
  have : cs.toList = e.cells := h1
  show Value.agg cs = .agg e.cells.toArray
  rw [← this]
theorem rows_one (l : List Ent) : (rows l).all (·.oneCell') = true := by
  induction l with
  | nil => rfl
  | cons e l ih => rw [rows_cons]; simpa [Value.oneCell'] using ih
theorem us_oneC (l : List Int) : (us l).all (·.oneCell') = true := by simp [us, Value.oneCell']
end
end Ytlecfiofljigbaa
end Go.Proofs
