/-
  Newest; live.
-/
import Derived.Test.YtlecfiofljigbaaR8
set_option linter.unusedSimpArgs false
set_option linter.unusedVariables false
set_option linter.unnecessarySimpa false
set_option linter.unusedSectionVars false
namespace Go.Proofs
namespace Ytlecfiofljigbaa
open Go.Abs
set_option linter.unusedSimpArgs false

def newest (l : List Ent) : Int := l.foldl (fun n e => if e.n > n then e.n else n) 0
def tbl9 : List (FuncId × CStep RD) := [(25, st25)]
theorem tbl9_ok : ∀ x ∈ tbl9, CStepOk Try.prog cfg x.1 x.2 := by simp [tbl9, st25_ok]

set_option maxHeartbeats 1000000 in
theorem runs27 (c : Nat) (l : List Ent) (hl : l.length ≤ 8) (hu : Uniq l) : Runs Try.prog cfg 27 [.pointer (some ⟨0, 0, none⟩)] (AH.of [some (.hi (.set c l))])
    fun r H' => r = .ret (.int .u64 (newest l)) ∧ H' = AH.of [some (.hi (.set c l))] := by
  refine Runs.ends ?_
  refine runs_by (tbl := tbl9) tbl9_ok (l.length + 1) 0 (af := a27) rfl ?_
  rw [a27, b27, run_eq]
  refine ⟨by simp, ?_⟩
  simp (implicitDefEqProofs := false) [tbl9, st25, hl, hu]
  refine loop_view (callX_mono gX_ok (tabS_ok tbl9_ok) _ _) (fun m tm H => ∃ i : Nat, m + i = l.length ∧ tm 3 = .int .u64 (newest (l.take i)) ∧ tm 7 = .slice (some ⟨1, 0, none⟩) l.length 1 ∧ tm 8 = .int .i64 l.length ∧ tm 9 = .int .i64 i ∧
    H = AH.of [some (.hi (.set c l)), some (.arr 32 (rows l))]) (m := l.length) ?_ (by omega) ?_
  · refine round_plan [] [0, 1] [some (.hi (.set c l)), some (.arr 32 (rows l))] l.length (by omega) ?_ ?_ ⟨0, ?_⟩ <;> simp [newest]
    done
  rintro m tm H ⟨i, hm, t3, t7, t8, t9, rfl⟩
  by_cases hi : i < l.length
  · obtain ⟨x, hx⟩ : ∃ x, l[i]? = some x := ⟨l[i], List.getElem?_eq_getElem hi⟩
    have hi' : (i : Int) < l.length := by omega
    have hw : IntKind.i64.wrap ((i : Int) + 1) = ((i + 1 : Nat) : Int) := by rw [wrap_i64 (by omega) (by omega)]; omega
    have r3 := many_rows hx
    have hle : i * 3 + 3 ≤ (rows l).length := by rw [rows_length]; omega
    simp (implicitDefEqProofs := false) [t3, t7, t8, t9, hi, hi', r3, hle, Ent.cells, hw]
    refine round_plan [] [0, 1] [some (.hi (.set c l)), some (.arr 32 (rows l))] (m - 1) (by omega) ?_ ?_ ⟨i + 1, by omega, ?_⟩ <;> simp [t3, t7, t8, t9]
    rw [List.take_add_one, hx]
    simp [newest, List.foldl_append]
  · have hi' : ¬ (i : Int) < l.length := by omega
    have hil : i = l.length := by omega
    subst hil
    simp (implicitDefEqProofs := false) [t3, t7, t8, t9, hi']
    refine ends_plan [] [0] ?_ ?_ ?_ <;> simp
def st27 : CStep RD := fun args H => match args with
  | [x] => (ptr0 x).bind fun k => (getSet H k).map fun s => (s.2.length ≤ 8 ∧ Uniq s.2, .ret (.int .u64 (newest s.2)), H)
  | _ => none
theorem st27_ok : CStepOk Try.prog cfg 27 st27 := by
  intro args H p r H' h hp
  unfold st27 at h
  split at h
  case h_2 => cases h
  simp only [Option.map_eq_some_iff, Option.bind_eq_some_iff] at h
  obtain ⟨k, hk, s, hs, h⟩ := h
  cases h
  rw [ptr0_inv hk]
  exact (runs27 s.1 s.2 hp.1 hp.2).atK (ro_none rfl) [k] (by simp) (by simp) (by simp [getSet_inv hs]) (by simp) (by simp) (by simp [upd_get (getSet_inv hs)])

/-! ### live -/
def e1 : Ent := ⟨2, 4607182418800017408, 7⟩
theorem e1t : e1.t = 2 := rfl
theorem e1v : e1.v = 4607182418800017408 := rfl
theorem e1n : e1.n = 7 := rfl
theorem code1 : addCode [] ⟨2, 4607182418800017408, 7⟩ = 0 := by decide
theorem add1 : addL [] ⟨2, 4607182418800017408, 7⟩ = [e1] := by decide
theorem code2 : addCode [e1] ⟨2, 0, 0⟩ = 0 := by decide
theorem add2 : addL [e1] ⟨2, 0, 0⟩ = [e1] := by decide
theorem get1 : getE [e1] 2 = some e1 := by decide
theorem new1 : newest [e1] = 7 := by decide
theorem brk1 : brk [e1] [0, 0, 4607182418800017408] = none := by decide
theorem brk2 : brk [e1] [] = some e1 := by decide
theorem good1 : goodL [e1] := by
  refine ⟨by simp, fun i x hx => ?_, fun e he => ?_⟩
  · rcases i with _ | i
    · simp at hx; subst hx; decide
    · simp at hx
  · simp at he; subst he; decide
def tbl10 : List (FuncId × CStep RD) := [(24, st24), (14, st14), (11, st11), (27, st27), (12, st12)]
theorem tbl10_ok : ∀ x ∈ tbl10, CStepOk Try.prog cfg x.1 x.2 := by simp [tbl10, st24_ok, st14_ok, st11_ok, st27_ok, st12_ok]
theorem runs10 : Runs Try.prog cfg 10 [] (AH.of []) fun r H' => r = .ret (.bool true) ∧ H' = AH.of [] := by
  refine Runs.ends ?_
  refine runs_by (tbl := tbl10) tbl10_ok 0 0 (af := a10) rfl ?_
  rw [a10, b10, run_eq]
  refine ⟨by simp, ?_⟩
  have g1 := good1
  have h1 := g1.1
  have h2 := g1.2.1
  simp (implicitDefEqProofs := false) [tbl10, st24, st14, st11, st27, st12, code1, add1, code2, add2, getT, get1, new1, brk1, brk2, h1, h2, g1, Ent.val, Ent.cells, e1t, e1v, e1n, getRo, getArr]
  refine ends_plan [] [] ?_ ?_ ?_ <;> simp
end Ytlecfiofljigbaa
end Go.Proofs
