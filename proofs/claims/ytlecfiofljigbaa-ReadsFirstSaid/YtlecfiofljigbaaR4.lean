/-
  The reference: Get, Add.
-/
import Derived.Test.YtlecfiofljigbaaR3
set_option linter.unusedSimpArgs false
set_option linter.unusedVariables false
set_option linter.unnecessarySimpa false
set_option linter.unusedSectionVars false
namespace Go.Proofs
namespace Ytlecfiofljigbaa
open Go.Abs
set_option linter.unusedSimpArgs false

theorem getE_at {l : List Ent} {i : Nat} {e : Ent} {t : Int} (hi : l[i]? = some e) (hno : ∀ (j : Nat) (x : Ent), j < i → l[j]? = some x → x.t ≠ t) (he : e.t = t) : getE l t = some e := by
  induction l generalizing i with
  | nil => simp at hi
  | cons a l ih =>
    cases i with
    | zero => simp at hi; subst hi; simp [getE, he]
    | succ i =>
      have h0 := hno 0 a (by omega) rfl
      have : (a.t == t) = false := by simpa using h0
      simp only [getE, List.find?_cons, this]
      exact ih (i := i) (by simpa using hi) fun j x hj hx => hno (j + 1) x (by omega) (by simpa using hx)
theorem getE_none {l : List Ent} {t : Int} (hno : ∀ (j : Nat) (x : Ent), l[j]? = some x → x.t ≠ t) : getE l t = none := by
  simp only [getE, List.find?_eq_none]
  intro x hx
  obtain ⟨j, hj⟩ := List.mem_iff_getElem?.1 hx
  simpa using hno j x hj

theorem rows_at {l : List Ent} {i : Nat} {x : Ent} (h : l[i]? = some x) : (rows l)[i * 3]? = some (.int .i64 x.t) := by
  have := many_rows h
  have h2 : (((rows l).drop (i * 3)).take 3)[0]? = some (.int .i64 x.t) := by rw [this]; rfl
  simpa using h2

set_option maxRecDepth 20000 in
set_option maxHeartbeats 1000000 in
theorem runs30 (t : Int) (l : List Ent) (hl : l.length < 9223372036854775807) : Runs Try.prog cfg 30 [.pointer (some ⟨0, 0, none⟩), .int .i64 t] (AH.of [some (.hi (.rset l))])
    fun r H' => r = .ret (getT l t) ∧ H' = AH.of [some (.hi (.rset l))] := by
  refine Runs.ends ?_
  refine Runs.opn 0 rfl ?_
  refine runs_by (tbl := []) (by simp) (l.length + 1) 0 (af := a30) rfl ?_
  rw [a30, b30, run_eq]
  refine ⟨by simp, ?_⟩
  simp (implicitDefEqProofs := false) [frag_rset]
  refine loop_inv (callX_mono gX_ok (tabS_ok (by simp)) _ _) (fun m tm H => ∃ i : Nat, m + i = l.length ∧ (∀ j x, j < i → l[j]? = some x → x.t ≠ t) ∧ tm 0 = .pointer (some ⟨0, 0, none⟩) ∧ tm 1 = .int .i64 t ∧ tm 4 = .pointer (some ⟨2, 0, none⟩) ∧ tm 5 = .bool false ∧ tm 6 = .int .i64 i ∧
    H = AH.of [some (.arr 62 [.slice (some ⟨1, 0, none⟩) l.length 1]), some (.arr 32 (rows l)), some (.arr 32 [.int .i64 0, .int .u64 0, .int .u64 0])]) (m := l.length) ⟨0, by simp⟩ (by omega) ?_
  rintro m tm H ⟨i, hm, hno, t0, t1, t4, t5, t6, rfl⟩
  by_cases hi : i < l.length
  · obtain ⟨x, hx⟩ : ∃ x, l[i]? = some x := ⟨l[i], List.getElem?_eq_getElem hi⟩
    have hi' : (i : Int) < l.length := by omega
    have h3 : i * 3 + 3 ≤ (rows l).length := by rw [rows_length]; omega
    have hw : IntKind.i64.wrap ((i : Int) + 1) = ((i + 1 : Nat) : Int) := by rw [wrap_i64 (by omega) (by omega)]; omega
    simp (implicitDefEqProofs := false) [t0, t1, t4, t5, t6, hi, hi', rows_at hx, many_rows hx, h3, Ent.cells, hw]
    refine ⟨fun he => ?_, fun he => ⟨m - 1, by omega, i + 1, by omega, fun j y hj hy => ?_, by omega⟩⟩
    · have := getE_at hx hno he
      refine ends_plan [.pack (RD.rset l) 0 [1]] [0] ?_ ?_ ?_ <;> simp [frag_rset, AObj.mine, getT, this, Ent.val, Ent.cells]
    · by_cases hji : j = i
      · subst hji; rw [hx] at hy; cases hy; exact he
      · exact hno j y (by omega) hy
  · have hi' : ¬ (i : Int) < l.length := by omega
    have hn : getE l t = none := getE_none fun j x hx => hno j x (by
      rcases Nat.lt_or_ge j l.length with h | h
      · omega
      · rw [List.getElem?_eq_none h] at hx; cases hx) hx
    simp (implicitDefEqProofs := false) [t0, t1, t4, t5, t6, hi']
    refine ends_plan [.pack (RD.rset l) 0 [1]] [0] ?_ ?_ ?_ <;> simp [frag_rset, AObj.mine, getT, hn, zeroE, Ent.val, Ent.cells]
def st30 : CStep RD := fun args H => match args with
  | [x, y] => (ptr0 x).bind fun k => (asI y).bind fun t => (getRset H k).map fun l => (l.length < 9223372036854775807, .ret (getT l t), H)
  | _ => none
theorem st30_ok : CStepOk Try.prog cfg 30 st30 := by
  intro args H p r H' h hp
  unfold st30 at h
  split at h
  case h_2 => cases h
  simp only [Option.map_eq_some_iff, Option.bind_eq_some_iff] at h
  obtain ⟨k, hk, t, ht, l, hs, h⟩ := h
  cases h
  rw [ptr0_inv hk, asI_inv ht]
  exact (runs30 t l hp).atK (ro_none rfl) [k] (by simp) (by simp) (by simp [getRset_inv hs]) (by simp) (by simp [getT, Ent.val, Ent.cells]) (by simp [upd_get (getRset_inv hs)])

def tbl4 : List (FuncId × CStep RD) := [(30, st30), (38, st38)]
theorem tbl4_ok : ∀ x ∈ tbl4, CStepOk Try.prog cfg x.1 x.2 := by simp [tbl4, st30_ok, st38_ok]

set_option maxRecDepth 20000 in
set_option maxHeartbeats 1000000 in
theorem runs18 (t v n : Int) (l : List Ent) (hl : l.length ≤ 8) (hv0 : 0 ≤ v) (hv1 : v < 18446744073709551616) : Runs Try.prog cfg 18 [.pointer (some ⟨0, 0, none⟩), .agg #[.int .i64 t, .int .u64 v, .int .u64 n]] (AH.of [some (.hi (.rset l))])
    fun r H' => r = .ret (.int .i64 (addCode l ⟨t, v, n⟩)) ∧ H' = AH.of [some (.hi (.rset (addL l ⟨t, v, n⟩)))] := by
  refine Runs.ends ?_
  refine runs_by (tbl := tbl4) tbl4_ok 0 2 (af := a18) rfl ?_
  rw [a18, b18, run_eq]
  refine ⟨by simp, ?_⟩
  have hl2 : l.length * 3 ≤ (rows l).length := by rw [rows_length]; omega
  have hl3 : l.length < 9223372036854775807 := by omega
  have hl4 : l.length * 24 ≤ 140737488355328 ∧ l.length ≤ 9223372036854775807 ∧ (l.length + 1) * 24 ≤ 140737488355328 ∧ l.length ≤ 9223372036854775806 := by omega
  cases h5 : getE l t with
  | some e =>
    simp (implicitDefEqProofs := false) [tbl4, st38, st30, getT, h5, Ent.val, Ent.cells, zeroE, frag_rset, hv0, hv1, hl3]
    repeat' (first | with_reducible apply And.intro | with_reducible intro _)
    all_goals (refine ends_plan [] [0] ?_ ?_ ?_ <;> simp [addL, addCode, *] <;> omega)
  | none =>
    simp (implicitDefEqProofs := false) [tbl4, st38, st30, getT, h5, Ent.val, Ent.cells, zeroE, frag_rset, hl2, take_rows, rows_length, hv0, hv1, hl3, hl4]
    repeat' (first | with_reducible apply And.intro | with_reducible intro _)
    all_goals first
      | (refine ends_plan [] [0] ?_ ?_ ?_ <;> simp [addL, addCode, *] <;> omega)
      | (refine ends_plan [.pack (RD.rset l) 0 [3]] [0] ?_ ?_ ?_ <;> simp [frag_rset, AObj.mine, addL, addCode, *] <;> omega)
      | (refine ends_plan [.pack (RD.rset (l ++ [⟨t, v, n⟩])) 0 [7]] [0] ?_ ?_ ?_ <;> simp [frag_rset, AObj.mine, addL, addCode, rows_add, *] <;> omega)
def st18 : CStep RD := fun args H => match args with
  | [x, y] => (ptr0 x).bind fun k => (asEnt y).bind fun e => (getRset H k).map fun l => (l.length ≤ 8 ∧ 0 ≤ e.v ∧ e.v < 18446744073709551616, .ret (.int .i64 (addCode l e)), H.upd k (.hi (.rset (addL l e))))
  | _ => none
theorem st18_ok : CStepOk Try.prog cfg 18 st18 := by
  intro args H p r H' h hp
  unfold st18 at h
  split at h
  case h_2 => cases h
  simp only [Option.map_eq_some_iff, Option.bind_eq_some_iff] at h
  obtain ⟨k, hk, e, he, l, hs, h⟩ := h
  cases h
  rw [ptr0_inv hk, asEnt_inv he]
  exact (runs18 e.t e.v e.n l hp.1 hp.2.1 hp.2.2).atK (ro_none rfl) [k] (by simp) (by simp) (by simp [getRset_inv hs]) (by simp [Ent.val, Ent.cells]) (by simp) (by simp)
end Ytlecfiofljigbaa
end Go.Proofs
