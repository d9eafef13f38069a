/-
  The two laws: what they come to.
-/
import Derived.Test.YtlecfiofljigbaaR10
set_option linter.unusedSimpArgs false
set_option linter.unusedVariables false
set_option linter.unnecessarySimpa false
set_option linter.unusedSectionVars false
namespace Go.Proofs
namespace Ytlecfiofljigbaa
open Go.Abs
set_option linter.unusedSimpArgs false

def asEnts : List Value → Option (List Ent)
  | [] => some []
  | .int .i64 t :: .int .u64 v :: .int .u64 n :: l => (asEnts l).map (⟨t, v, n⟩ :: ·)
  | _ => none
theorem asEnts_rows : ∀ l : List Ent, asEnts (rows l) = some l
  | [] => rfl
  | e :: l => by
    show (asEnts (rows l)).map (_ :: ·) = _
    rw [asEnts_rows l]; rfl
theorem asEnts_inv : ∀ {cs : List Value} {l : List Ent}, asEnts cs = some l → cs = rows l
  | cs, l, e => by
    unfold asEnts at e
    split at e
    · cases e; rfl
    · simp only [Option.map_eq_some_iff] at e
      obtain ⟨l', e1, rfl⟩ := e
      rw [asEnts_inv e1]; rfl
    · cases e
attribute [simp] asEnts_rows
def getRows (H : AH RD) (k : Nat) : Option (List Ent) :=
  match H.get k with
  | some (.ro cs) => asEnts cs
  | _ => none
theorem getRows_inv {H : AH RD} {k : Nat} {l : List Ent} (hg : getRows H k = some l) : H.get k = some (.ro (rows l)) := by
  unfold getRows at hg
  split at hg
  · rename_i cs e; rw [e, asEnts_inv hg]
  · cases hg
def st9 : CStep RD := fun args H => match args with
  | [x] => (sl0 x).bind fun q => (getRows H q.1).map fun l => (q.2.1 = l.length ∧ ∀ e ∈ l, e.Ok, .ret (.tuple #[.pointer (some ⟨H.next, 0, none⟩), .pointer (some ⟨H.next + 1, 0, none⟩), .bool true]), (H.add (.hi (.set 0 (playL l)))).add (.hi (.rset (playL l))))
  | _ => none
theorem st9_ok : CStepOk Try.prog cfg 9 st9 := by
  intro args H p r H' h hp
  unfold st9 at h
  split at h
  case h_2 => cases h
  simp only [Option.map_eq_some_iff, Option.bind_eq_some_iff] at h
  obtain ⟨q, hq, l, hl, h⟩ := h
  cases h
  rw [sl0_inv hq, hp.1]
  exact (runs9 l q.2.2 hp.2).atK (ro_same fun i cs hi => by rcases i with _ | _ | _ | i <;> simp at hi ⊢; exact hi) [q.1] (by simp) (by simp) (by simp [getRows_inv hl]) (by simp) (by simp) (by simp [upd_get (getRows_inv hl)])
def st10 : CStep RD := fun args H => match args with
  | [] => some (True, .ret (.bool true), H)
  | _ => none
theorem st10_ok : CStepOk Try.prog cfg 10 st10 := by
  intro args H p r H' h hp
  unfold st10 at h
  split at h
  case h_2 => cases h
  cases h
  exact runs10.atK (ro_none rfl) [] (by simp) (by simp) trivial (by simp) (by simp) (by simp)

def tbl11 : List (FuncId × CStep RD) := [(9, st9), (10, st10), (11, st11), (13, st13), (14, st14), (12, st12)]
theorem tbl11_ok : ∀ x ∈ tbl11, CStepOk Try.prog cfg x.1 x.2 := by simp [tbl11, st9_ok, st10_ok, st11_ok, st13_ok, st14_ok, st12_ok]

set_option maxHeartbeats 2000000 in
theorem runs4 (l : List Ent) (tg : Nat) (t v n : Int) (hok : ∀ e ∈ l, e.Ok) : Runs Try.prog cfg 4 [.slice (some ⟨0, 0, none⟩) l.length tg, .agg #[.int .i64 t, .int .u64 v, .int .u64 n]] (AH.of [some (.ro (rows l))])
    fun r H' => r = .ret (.bool true) ∧ H' = AH.of [some (.ro (rows l))] := by
  refine Runs.ends ?_
  refine runs_by (tbl := tbl11) tbl11_ok 0 0 (af := a4) rfl ?_
  rw [a4, b4, run_eq]
  refine ⟨by simp, ?_⟩
  have hg := Good.play l
  generalize hs : playL l = s at hg
  have hl8 := hg.len
  have hi8 : (s.length : Int) ≤ 8 := by omega
  have hw : IntKind.i64.wrap ((s.length : Int) + 1) = (s.length : Int) + 1 := wrap_i64 (by omega) (by omega)
  by_cases hx : addCode s ⟨t, v, n⟩ = 0
  · cases hy : getE s t with
    | some y =>
      have hA := addL_some (l := s) (e := ⟨t, v, n⟩) hy
      simp (implicitDefEqProofs := false) [tbl11, st9, st10, st11, st13, st14, getRows, hok, hs, hx, hA, getT, hy, Ent.val, Ent.cells, aeqF, aggOf2]
      refine ⟨hok, ends_plan [] [0] ?_ ?_ ?_⟩ <;> simp
    | none =>
      have hA := addL_none hx (by simpa using hy)
      have hB := getE_add_self (l := s) (e := ⟨t, v, n⟩) hy
      have hC := add_len hx (by simpa using hy)
      have hC' : (s.length : Int) < 8 := by omega
      simp only at hB
      simp (implicitDefEqProofs := false) [tbl11, st9, st10, st11, st13, st14, getRows, hok, hs, hx, hA, getT, hy, hB, Ent.val, Ent.cells, aeqF, aggOf2, hw, hC']
      refine ⟨hok, ends_plan [] [0] ?_ ?_ ?_⟩ <;> simp
  · have hA := addL_bad hx
    by_cases h4 : addCode s ⟨t, v, n⟩ = 4
    · have h5 := add_space h4
      have h6 : (s.length : Int) = 8 := by omega
      simp (implicitDefEqProofs := false) [tbl11, st9, st10, st11, st13, st14, getRows, hok, hs, h4, hA, getT, Ent.val, Ent.cells, aeqF, aggOf2, h6]
      refine ⟨hok, ends_plan [] [0] ?_ ?_ ?_⟩ <;> simp
    · simp (implicitDefEqProofs := false) [tbl11, st9, st10, st11, st13, st14, getRows, hok, hs, hx, h4, hA, getT, Ent.val, Ent.cells, aeqF, aggOf2]
      refine ⟨hok, ends_plan [] [0] ?_ ?_ ?_⟩ <;> simp

theorem us_one (v : Int) : us [v] = [.int .u64 v] := rfl
theorem us_nil : us [] = [] := rfl
theorem us_append (a b : List Int) : us (a ++ b) = us a ++ us b := by simp [us]
set_option maxHeartbeats 2000000 in
theorem runs3 (l : List Ent) (h o : List Int) (tg th to : Nat) (hok : ∀ e ∈ l, e.Ok) : Runs Try.prog cfg 3 [.slice (some ⟨0, 0, none⟩) l.length tg, .slice (some ⟨1, 0, none⟩) h.length th, .slice (some ⟨2, 0, none⟩) o.length to]
    (AH.of [some (.ro (rows l)), some (.ro (us h)), some (.ro (us o))])
    fun r H' => r = .ret (.bool true) ∧ H' = AH.of [some (.ro (rows l)), some (.ro (us h)), some (.ro (us o))] := by
  refine Runs.ends ?_
  refine runs_by (tbl := tbl11) tbl11_ok 14 0 (af := a3) rfl ?_
  rw [a3, b3, run_eq]
  refine ⟨by simp, ?_⟩
  have hg := Good.play l
  generalize hs : playL l = s at hg
  simp (implicitDefEqProofs := false) [tbl11, st9, st10, getRows, hs]
  refine ⟨hok, ?_⟩
  refine loop_view (callX_mono gX_ok (tabS_ok tbl11_ok) _ _) (fun m tm H => ∃ i : Nat, m + i = 12 ∧ i ≤ h.length ∧ tm 1 = .slice (some ⟨1, 0, none⟩) h.length th ∧ tm 2 = .slice (some ⟨2, 0, none⟩) o.length to ∧ tm 7 = .pointer (some ⟨3, 0, none⟩) ∧ tm 10 = .slice (some ⟨5, 0, none⟩) i 1 ∧ tm 11 = .int .i64 i ∧
    H = AH.of [some (.ro (rows l)), some (.ro (us h)), some (.ro (us o)), some (.hi (.set 0 s)), none, some (.arr 30 (us (mixN s h o i)))]) (m := 12) ?_ (by omega) ?_
  · refine round_wk [.nil 30] [0, 1, 2, 3, 4, 5] [some (.ro (rows l)), some (.ro (us h)), some (.ro (us o)), some (.hi (.set 0 s)), none, some (.arr 30 [])] [(10, .slice (some ⟨5, 0, none⟩) 0 1)] 12 (by omega) ?_ ?_ ?_ ⟨0, ?_⟩ <;> simp [mixN, us_nil, ren_us]
    done
  rintro m tm H ⟨i, hm, hil, t1, t2, t7, t10, t11, rfl⟩
  by_cases hi : i < h.length
  · have hi' : (i : Int) < h.length := by omega
    by_cases hi2 : i < 12
    · have hi2' : (i : Int) < 12 := by omega
      obtain ⟨v, hv⟩ : ∃ v, h[i]? = some v := ⟨h[i], List.getElem?_eq_getElem hi⟩
      have hw : IntKind.i64.wrap ((i : Int) + 1) = ((i + 1 : Nat) : Int) := by rw [wrap_i64 (by omega) (by omega)]; omega
      have hr1 : i ≤ (us (mixN s h o i)).length := by rw [us_length, mixN_length]; omega
      have hr2 : (us (mixN s h o i)).take i = us (mixN s h o i) := List.take_of_length_le (by rw [us_length, mixN_length]; omega)
      have hr3 : (i + 1) * 8 ≤ 140737488355328 ∧ i ≤ 9223372036854775806 := by omega
      have hv' : h.getD i 0 = v := by simp [hv]
      cases hy : getE s i with
      | some y =>
        have hm1 : mix1 s h o i = v := by simp [mix1, hy, hv]
        simp (implicitDefEqProofs := false) [tbl11, st11, t1, t2, t7, t10, t11, hi, hi', hi2', us_at hv, getT, hy, Ent.val, Ent.cells, hr1, hr2, hr3, hw]
        refine round_plan [] [0, 1, 2, 3, 4, 8] [some (.ro (rows l)), some (.ro (us h)), some (.ro (us o)), some (.hi (.set 0 s)), none, some (.arr 30 (us (mixN s h o (i + 1))))] (m - 1) (by omega) ?_ ?_ ⟨i + 1, by omega, by omega, ?_⟩ <;> simp [t1, t2, t7, t10, t11, mixN_succ, hm1, us_append, ren_us, us_one]
      | none =>
        by_cases hio : i < o.length
        · obtain ⟨w, hwo⟩ : ∃ w, o[i]? = some w := ⟨o[i], List.getElem?_eq_getElem hio⟩
          have hm1 : mix1 s h o i = w := by
            have : o.getD i 0 = w := by rw [List.getD_eq_getElem?_getD, hwo]; rfl
            simp only [mix1, hy, hio, if_true, this]; rfl
          simp (implicitDefEqProofs := false) [tbl11, st11, t1, t2, t7, t10, t11, hi, hi', hi2', us_at hv, us_at hwo, hio, getT, hy, Ent.val, Ent.cells, hr1, hr2, hr3, hw]
          refine round_plan [] [0, 1, 2, 3, 4, 8] [some (.ro (rows l)), some (.ro (us h)), some (.ro (us o)), some (.hi (.set 0 s)), none, some (.arr 30 (us (mixN s h o (i + 1))))] (m - 1) (by omega) ?_ ?_ ⟨i + 1, by omega, by omega, ?_⟩ <;> simp [t1, t2, t7, t10, t11, mixN_succ, hm1, us_append, ren_us, us_one]
        · have hm1 : mix1 s h o i = v := by simp [mix1, hy, hio, hv]
          simp (implicitDefEqProofs := false) [tbl11, st11, t1, t2, t7, t10, t11, hi, hi', hi2', us_at hv, hio, getT, hy, Ent.val, Ent.cells, hr1, hr2, hr3, hw]
          refine round_plan [] [0, 1, 2, 3, 4, 8] [some (.ro (rows l)), some (.ro (us h)), some (.ro (us o)), some (.hi (.set 0 s)), none, some (.arr 30 (us (mixN s h o (i + 1))))] (m - 1) (by omega) ?_ ?_ ⟨i + 1, by omega, by omega, ?_⟩ <;> simp [t1, t2, t7, t10, t11, mixN_succ, hm1, us_append, ren_us, us_one]
    · have hi2' : ¬ (i : Int) < 12 := by omega
      have hmin : i = min h.length 12 := by omega
      have hb := brk_mix hg h o
      rw [← hmin] at hb
      simp (implicitDefEqProofs := false) [tbl11, st12, t1, t2, t7, t10, t11, hi, hi', hi2', getRo, getArr, hg.goodL, mixN_length, hb]
      refine ends_plan [] [0, 1, 2] ?_ ?_ ?_ <;> simp [ren_us]
  · have hi' : ¬ (i : Int) < h.length := by omega
    have hmin : i = min h.length 12 := by omega
    have hb := brk_mix hg h o
    rw [← hmin] at hb
    simp (implicitDefEqProofs := false) [tbl11, st12, t1, t2, t7, t10, t11, hi, hi', getRo, getArr, hg.goodL, mixN_length, hb]
    refine ends_plan [] [0, 1, 2] ?_ ?_ ?_ <;> simp [ren_us]
end Ytlecfiofljigbaa
end Go.Proofs
