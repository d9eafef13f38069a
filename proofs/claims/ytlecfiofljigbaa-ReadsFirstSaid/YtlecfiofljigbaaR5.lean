/-
  List, play.
-/
import Derived.Test.YtlecfiofljigbaaR4
set_option linter.unusedSimpArgs false
set_option linter.unusedVariables false
set_option linter.unnecessarySimpa false
set_option linter.unusedSectionVars false
namespace Go.Proofs
namespace Ytlecfiofljigbaa
open Go.Abs
set_option linter.unusedSimpArgs false

theorem rows_take {l : List Ent} {i : Nat} {x : Ent} (h : l[i]? = some x) : rows (l.take (i + 1)) = rows (l.take i) ++ [.int .i64 x.t, .int .u64 x.v, .int .u64 x.n] := by
  rw [List.take_add_one, h]
  simp [rows, Ent.cells]
/-- Unlike variables. -/
def Uniq (l : List Ent) : Prop := ∀ (i : Nat) (x : Ent), l[i]? = some x → getE l x.t = some x
theorem tvars_at {l : List Ent} {i : Nat} {x : Ent} (h : l[i]? = some x) : (tvars l)[i]? = some (.int .i64 x.t) := by simp [tvars, h]

set_option maxHeartbeats 1000000 in
theorem runs25 (c : Nat) (l : List Ent) (hl : l.length ≤ 8) (hu : Uniq l) : Runs Try.prog cfg 25 [.pointer (some ⟨0, 0, none⟩)] (AH.of [some (.hi (.set c l))])
    fun r H' => r = .ret (.slice (some ⟨1, 0, none⟩) l.length 1) ∧ H' = AH.of [some (.hi (.set c l)), some (.arr 32 (rows l))] := by
  refine Runs.ends ?_
  refine Runs.opn 0 rfl ?_
  refine runs_by (tbl := []) (by simp) (l.length + 1) 0 (af := a25) rfl ?_
  rw [a25, b25, run_eq]
  refine ⟨by simp, ?_⟩
  simp (implicitDefEqProofs := false) [frag_set]
  refine loop_view (callX_mono gX_ok (tabS_ok (by simp)) _ _) (fun m tm H => ∃ i : Nat, m + i = l.length ∧ tm 0 = .pointer (some ⟨0, 0, none⟩) ∧ tm 3 = .slice (some ⟨3, 0, none⟩) i 1 ∧ tm 11 = .slice (some ⟨1, 0, none⟩) l.length 1 ∧ tm 12 = .int .i64 l.length ∧ tm 13 = .int .i64 i ∧
    H = AH.of [some (.arr 57 [.slice (some ⟨1, 0, none⟩) l.length 1, .map (some 2)]), some (.arr 3 (tvars l)), some (.map (ents c l) (c + l.length)), some (.arr 32 (rows (l.take i)))]) (m := l.length) ?_ (by omega) ?_
  · refine round_wk [.nil 32] [0, 1, 2, 3] [some (.arr 57 [.slice (some ⟨1, 0, none⟩) l.length 1, .map (some 2)]), some (.arr 3 (tvars l)), some (.map (ents c l) (c + l.length)), some (.arr 32 [])] [(3, .slice (some ⟨3, 0, none⟩) 0 1)] l.length (by omega) ?_ ?_ ?_ ⟨0, ?_⟩ <;> simp [rows]
    done
  rintro m tm H ⟨i, hm, t0, t3, t11, t12, t13, rfl⟩
  by_cases hi : i < l.length
  · obtain ⟨x, hx⟩ : ∃ x, l[i]? = some x := ⟨l[i], List.getElem?_eq_getElem hi⟩
    have hi' : (i : Int) < l.length := by omega
    have hw : IntKind.i64.wrap ((i : Int) + 1) = ((i + 1 : Nat) : Int) := by rw [wrap_i64 (by omega) (by omega)]; omega
    have hr1 : i * 3 ≤ (rows (l.take i)).length := by rw [rows_length, List.length_take]; omega
    have hr2 : (rows (l.take i)).take (i * 3) = rows (l.take i) := List.take_of_length_le (by rw [rows_length, List.length_take]; omega)
    have hr3 : (i + 1) * 24 ≤ 140737488355328 ∧ i ≤ 9223372036854775806 := by omega
    simp (implicitDefEqProofs := false) [t0, t3, t11, t12, t13, hi, hi', tvars_at hx, find_ents, hu i x hx, Ent.val, Ent.cells, hr1, hr2, hr3, hw]
    refine round_plan [] [0, 1, 2, 5] [some (.arr 57 [.slice (some ⟨1, 0, none⟩) l.length 1, .map (some 2)]), some (.arr 3 (tvars l)), some (.map (ents c l) (c + l.length)), some (.arr 32 (rows (l.take (i + 1))))] (m - 1) (by omega) ?_ ?_ ⟨i + 1, by omega, ?_⟩ <;> simp [t0, t3, t11, t12, t13, rows_take hx]
    done
  · have hi' : ¬ (i : Int) < l.length := by omega
    have hil : i = l.length := by omega
    subst hil
    simp (implicitDefEqProofs := false) [t0, t3, t11, t12, t13, hi']
    refine ends_plan [.pack (RD.set c l) 0 [1, 2]] [0, 3] ?_ ?_ ?_ <;> simp [frag_set, AObj.mine]
end Ytlecfiofljigbaa
end Go.Proofs
