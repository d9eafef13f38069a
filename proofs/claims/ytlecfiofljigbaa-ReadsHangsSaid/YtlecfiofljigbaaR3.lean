/-
  Values; New, Get, Len: what they come to, as steps.
-/
import Derived.Test.YtlecfiofljigbaaR2
set_option linter.unusedSimpArgs false
set_option linter.unusedVariables false
set_option linter.unnecessarySimpa false
set_option linter.unusedSectionVars false
namespace Go.Proofs
namespace Ytlecfiofljigbaa
open Go.Abs
set_option linter.unusedSimpArgs false

def asU : Value → Option Int
  | .int .u64 v => some v
  | _ => none
def asI : Value → Option Int
  | .int .i64 v => some v
  | _ => none
theorem asU_eq (v : Int) : asU (.int .u64 v) = some v := rfl
theorem asI_eq (v : Int) : asI (.int .i64 v) = some v := rfl
theorem asU_inv {x : Value} {v : Int} (h : asU x = some v) : x = .int .u64 v := by
  unfold asU at h
  split at h
  · cases h; rfl
  · cases h
theorem asI_inv {x : Value} {v : Int} (h : asI x = some v) : x = .int .i64 v := by
  unfold asI at h
  split at h
  · cases h; rfl
  · cases h
attribute [simp] asU_eq asI_eq

/-! ### Right, Canon, Same -/
def canonV (v : Int) : Int := if rightB v then v else 9221120237041090560
theorem runs29 (v : Int) (H : AH RD) : Runs Try.prog cfg 29 [.int .u64 v] H fun r H' => r = .ret (.bool (rightB v)) ∧ H' = H := by
  refine runs_by (tbl := []) (by simp) 0 0 (af := a29) rfl ?_
  rw [a29, b29, run_eq]
  refine ⟨by simp, ?_⟩
  simp (implicitDefEqProofs := false)
  repeat' (first | with_reducible apply And.intro | with_reducible intro _)
  all_goals (simp [rightB, *] <;> omega)
def st29 : CStep RD := fun args H => match args with
  | [x] => (asU x).map fun v => (True, .ret (.bool (rightB v)), H)
  | _ => none
theorem st29_ok : CStepOk Try.prog cfg 29 st29 := by
  intro args H p r H' h hp
  unfold st29 at h
  split at h
  case h_2 => cases h
  simp only [Option.map_eq_some_iff] at h
  obtain ⟨v, hv, h⟩ := h
  cases h
  rw [asU_inv hv]
  exact runs29 v H

theorem runs38 (v : Int) (h0 : 0 ≤ v) (h1 : v < 18446744073709551616) (H : AH RD) : Runs Try.prog cfg 38 [.int .u64 v] H fun r H' => r = .ret (.bool (rightB v)) ∧ H' = H := by
  refine runs_by (tbl := []) (by simp) 0 0 (af := a38) rfl ?_
  rw [a38, b38, run_eq]
  refine ⟨by simp, ?_⟩
  have e : abin .eql (.float .f64 v.toNat) (.float .f64 v.toNat) = some (.bool (decide (bAndNot .u64 v 9223372036854775808 ≤ 9218868437227405312))) := by
    simp only [abin, order_self, bAndNot_sign h0 h1]
    simp
    omega
  simp (implicitDefEqProofs := false) [e]
  repeat' (first | with_reducible apply And.intro | with_reducible intro _)
  all_goals (simp [rightB, *] <;> omega)
def st38 : CStep RD := fun args H => match args with
  | [x] => (asU x).map fun v => (0 ≤ v ∧ v < 18446744073709551616, .ret (.bool (rightB v)), H)
  | _ => none
theorem st38_ok : CStepOk Try.prog cfg 38 st38 := by
  intro args H p r H' h hp
  unfold st38 at h
  split at h
  case h_2 => cases h
  simp only [Option.map_eq_some_iff] at h
  obtain ⟨v, hv, h⟩ := h
  cases h
  rw [asU_inv hv]
  exact runs38 v hp.1 hp.2 H

theorem runs42 (v : Int) (H : AH RD) : Runs Try.prog cfg 42 [.int .u64 v] H fun r H' => r = .ret (.int .u64 (canonV v)) ∧ H' = H := by
  refine runs_by (tbl := [(29, st29)]) (by simp [st29_ok]) 0 0 (af := a42) rfl ?_
  rw [a42, b42, run_eq]
  refine ⟨by simp, ?_⟩
  simp (implicitDefEqProofs := false) [st29]
  repeat' (first | with_reducible apply And.intro | with_reducible intro _)
  all_goals simp [canonV, *]
def st42 : CStep RD := fun args H => match args with
  | [x] => (asU x).map fun v => (True, .ret (.int .u64 (canonV v)), H)
  | _ => none
theorem st42_ok : CStepOk Try.prog cfg 42 st42 := by
  intro args H p r H' h hp
  unfold st42 at h
  split at h
  case h_2 => cases h
  simp only [Option.map_eq_some_iff] at h
  obtain ⟨v, hv, h⟩ := h
  cases h
  rw [asU_inv hv]
  exact runs42 v H

def sameB (a b : Int) : Bool := decide (canonV a = canonV b)
theorem runs39 (a b : Int) (H : AH RD) : Runs Try.prog cfg 39 [.int .u64 a, .int .u64 b] H fun r H' => r = .ret (.bool (sameB a b)) ∧ H' = H := by
  refine runs_by (tbl := [(42, st42)]) (by simp [st42_ok]) 0 0 (af := a39) rfl ?_
  rw [a39, b39, run_eq]
  refine ⟨by simp, ?_⟩
  simp (implicitDefEqProofs := false) [st42]
  simp [sameB]
def st39 : CStep RD := fun args H => match args with
  | [x, y] => (asU x).bind fun a => (asU y).map fun b => (True, .ret (.bool (sameB a b)), H)
  | _ => none
theorem st39_ok : CStepOk Try.prog cfg 39 st39 := by
  intro args H p r H' h hp
  unfold st39 at h
  split at h
  case h_2 => cases h
  simp only [Option.map_eq_some_iff, Option.bind_eq_some_iff] at h
  obtain ⟨a, ha, b, hb, h⟩ := h
  cases h
  rw [asU_inv ha, asU_inv hb]
  exact runs39 a b H

/-! ### New -/
theorem runs24 : Runs Try.prog cfg 24 [] (AH.of []) fun r H' => r = .ret (.pointer (some ⟨0, 0, none⟩)) ∧ H' = AH.of [some (.hi (.set 0 []))] := by
  refine Runs.ends ?_
  refine runs_by (tbl := []) (by simp) 0 0 (af := a24) rfl ?_
  rw [a24, b24, run_eq]
  refine ⟨by simp, ?_⟩
  simp (implicitDefEqProofs := false)
  refine ends_plan [.nil 3, .pack (RD.set 0 []) 1 [2, 0]] [1] ?_ ?_ ?_ <;> simp [frag_set, AObj.mine, tvars, ents]
theorem runs28 : Runs Try.prog cfg 28 [] (AH.of []) fun r H' => r = .ret (.pointer (some ⟨0, 0, none⟩)) ∧ H' = AH.of [some (.hi (.rset []))] := by
  refine Runs.ends ?_
  refine runs_by (tbl := []) (by simp) 0 0 (af := a28) rfl ?_
  rw [a28, b28, run_eq]
  refine ⟨by simp, ?_⟩
  simp (implicitDefEqProofs := false)
  refine ends_plan [.nil 32, .pack (RD.rset []) 0 [1]] [0] ?_ ?_ ?_ <;> simp [frag_rset, AObj.mine, rows]
def st24 : CStep RD := fun args H => match args with
  | [] => some (True, .ret (.pointer (some ⟨H.next, 0, none⟩)), H.add (.hi (.set 0 [])))
  | _ => none
def st28 : CStep RD := fun args H => match args with
  | [] => some (True, .ret (.pointer (some ⟨H.next, 0, none⟩)), H.add (.hi (.rset [])))
  | _ => none
theorem st24_ok : CStepOk Try.prog cfg 24 st24 := by
  intro args H p r H' h hp
  unfold st24 at h
  split at h
  case h_2 => cases h
  cases h
  exact runs24.atK (ro_none rfl) [] (by simp) (by simp) trivial (by simp) (by simp) (by simp)
theorem st28_ok : CStepOk Try.prog cfg 28 st28 := by
  intro args H p r H' h hp
  unfold st28 at h
  split at h
  case h_2 => cases h
  cases h
  exact runs28.atK (ro_none rfl) [] (by simp) (by simp) trivial (by simp) (by simp) (by simp)

/-! ### Add, Get, Len -/
def st14 : CStep RD := fun args H => match args with
  | [x, y] => (ptr0 x).bind fun k => (asEnt y).bind fun e => (getSet H k).map fun s => (True, .ret (.int .i64 (addCode s.2 e)), H.upd k (.hi (.set s.1 (addL s.2 e))))
  | _ => none
theorem st14_ok : CStepOk Try.prog cfg 14 st14 := by
  intro args H p r H' h hp
  unfold st14 at h
  split at h
  case h_2 => cases h
  simp only [Option.map_eq_some_iff, Option.bind_eq_some_iff] at h
  obtain ⟨k, hk, e, he, s, hs, h⟩ := h
  cases h
  rw [ptr0_inv hk, asEnt_inv he]
  exact (runs14 e.t e.v e.n s.1 s.2).atK (ro_none rfl) [k] (by simp) (by simp) (by simp [getSet_inv hs]) (by simp [Ent.val, Ent.cells]) (by simp) (by simp)

def zeroE : Ent := ⟨0, 0, 0⟩
def getT (l : List Ent) (t : Int) : Value := .tuple #[((getE l t).getD zeroE).val, .bool (getE l t).isSome]
theorem runs11 (t : Int) (c : Nat) (l : List Ent) : Runs Try.prog cfg 11 [.pointer (some ⟨0, 0, none⟩), .int .i64 t] (AH.of [some (.hi (.set c l))])
    fun r H' => r = .ret (getT l t) ∧ H' = AH.of [some (.hi (.set c l))] := by
  refine Runs.ends ?_
  refine runs_by (tbl := []) (by simp) 0 0 (af := a11) rfl ?_
  rw [a11, b11, run_eq]
  refine ⟨by simp, ?_⟩
  simp (implicitDefEqProofs := false) [find_ents, frag_set, lookV_ent]
  refine ends_plan [.pack (RD.set c l) 0 [2, 3]] [0] ?_ ?_ ?_ <;> simp [frag_set, AObj.mine, getT, Ent.val, Ent.cells, zeroE]
def st11 : CStep RD := fun args H => match args with
  | [x, y] => (ptr0 x).bind fun k => (asI y).bind fun t => (getSet H k).map fun s => (True, .ret (getT s.2 t), H)
  | _ => none
theorem upd_get {H : AH RD} {k : Nat} {o : AObj RD} (h : H.get k = some o) : H.upd k o = H := by
  refine AH.ext' rfl fun j => ?_
  rw [AH.get_upd]
  split
  · rename_i e; subst e; exact h.symm
  · rfl
theorem st11_ok : CStepOk Try.prog cfg 11 st11 := by
  intro args H p r H' h hp
  unfold st11 at h
  split at h
  case h_2 => cases h
  simp only [Option.map_eq_some_iff, Option.bind_eq_some_iff] at h
  obtain ⟨k, hk, t, ht, s, hs, h⟩ := h
  cases h
  rw [ptr0_inv hk, asI_inv ht]
  exact (runs11 t s.1 s.2).atK (ro_none rfl) [k] (by simp) (by simp) (by simp [getSet_inv hs]) (by simp) (by simp [getT, Ent.val, Ent.cells]) (by simp [upd_get (getSet_inv hs)])

theorem runs13 (c : Nat) (l : List Ent) : Runs Try.prog cfg 13 [.pointer (some ⟨0, 0, none⟩)] (AH.of [some (.hi (.set c l))])
    fun r H' => r = .ret (.int .i64 l.length) ∧ H' = AH.of [some (.hi (.set c l))] := by
  refine Runs.ends ?_
  refine runs_by (tbl := []) (by simp) 0 0 (af := a13) rfl ?_
  rw [a13, b13, run_eq]
  refine ⟨by simp, ?_⟩
  simp (implicitDefEqProofs := false) [frag_set]
  refine ends_plan [.pack (RD.set c l) 0 [1, 2]] [0] ?_ ?_ ?_ <;> simp [frag_set, AObj.mine]
def st13 : CStep RD := fun args H => match args with
  | [x] => (ptr0 x).bind fun k => (getSet H k).map fun s => (True, .ret (.int .i64 s.2.length), H)
  | _ => none
theorem st13_ok : CStepOk Try.prog cfg 13 st13 := by
  intro args H p r H' h hp
  unfold st13 at h
  split at h
  case h_2 => cases h
  simp only [Option.map_eq_some_iff, Option.bind_eq_some_iff] at h
  obtain ⟨k, hk, s, hs, h⟩ := h
  cases h
  rw [ptr0_inv hk]
  exact (runs13 s.1 s.2).atK (ro_none rfl) [k] (by simp) (by simp) (by simp [getSet_inv hs]) (by simp) (by simp) (by simp [upd_get (getSet_inv hs)])
end Ytlecfiofljigbaa
end Go.Proofs
