/-
  Broken, Valid, Newest; live.
-/
import Derived.Test.YtlecfiofljigbaaR6
set_option linter.unusedSimpArgs false
set_option linter.unusedVariables false
set_option linter.unnecessarySimpa false
set_option linter.unusedSectionVars false
namespace Go.Proofs
namespace Ytlecfiofljigbaa
open Go.Abs
set_option linter.unusedSimpArgs false

def us (h : List Int) : List Value := h.map fun v => .int .u64 v
theorem us_length (h : List Int) : (us h).length = h.length := by simp [us]
theorem us_ground (h : List Int) : grounds (us h) = true := by
  induction h with
  | nil => rfl
  | cons v h ih => simp [us, grounds, ground] at ih ⊢; exact ih
theorem ren_us (θ : Nat → Nat) (h : List Int) : rens θ (us h) = us h := rens_ground θ _ (us_ground h)
theorem us_at {h : List Int} {i : Nat} {v : Int} (hv : h[i]? = some v) : (us h)[i]? = some (.int .u64 v) := by simp [us, hv]

/-- Is it not what was read? -/
def badB (h : List Int) (e : Ent) : Bool := decide ((h.length : Int) ≤ e.t) || !sameB ((h[e.t.toNat]?).getD 0) e.v
def brk (l : List Ent) (h : List Int) : Option Ent := l.find? (badB h)

def st25 : CStep RD := fun args H => match args with
  | [x] => (ptr0 x).bind fun k => (getSet H k).map fun s => (s.2.length ≤ 8 ∧ Uniq s.2, .ret (.slice (some ⟨H.next, 0, none⟩) s.2.length 1), H.add (.arr 32 (rows s.2)))
  | _ => none
theorem st25_ok : CStepOk Try.prog cfg 25 st25 := by
  intro args H p r H' h hp
  unfold st25 at h
  split at h
  case h_2 => cases h
  simp only [Option.map_eq_some_iff, Option.bind_eq_some_iff] at h
  obtain ⟨k, hk, s, hs, h⟩ := h
  cases h
  rw [ptr0_inv hk]
  exact (runs25 s.1 s.2 hp.1 hp.2).atK (ro_none rfl) [k] (by simp) (by simp) (by simp [getSet_inv hs]) (by simp) (by simp) (by simp [upd_get (getSet_inv hs)])

def tbl7 : List (FuncId × CStep RD) := [(25, st25), (39, st39)]
theorem tbl7_ok : ∀ x ∈ tbl7, CStepOk Try.prog cfg x.1 x.2 := by simp [tbl7, st25_ok, st39_ok]

theorem brk_none {l : List Ent} {h : List Int} (hno : ∀ (j : Nat) (x : Ent), l[j]? = some x → badB h x = false) : brk l h = none := by
  simp only [brk, List.find?_eq_none]
  intro x hx
  obtain ⟨j, hj⟩ := List.mem_iff_getElem?.1 hx
  simpa using hno j x hj
theorem brk_at {l : List Ent} {h : List Int} {i : Nat} {e : Ent} (hi : l[i]? = some e) (hno : ∀ (j : Nat) (x : Ent), j < i → l[j]? = some x → badB h x = false) (he : badB h e = true) : brk l h = some e := by
  induction l generalizing i with
  | nil => simp at hi
  | cons a l ih =>
    cases i with
    | zero => simp at hi; subst hi; simp [brk, he]
    | succ i =>
      have h0 := hno 0 a (by omega) rfl
      simp only [brk, List.find?_cons, h0]
      exact ih (i := i) (by simpa using hi) fun j x hj hx => hno (j + 1) x (by omega) (by simpa using hx)

set_option maxHeartbeats 1000000 in
theorem runs23 (c tg : Nat) (l : List Ent) (h : List Int) (hl : l.length ≤ 8) (hu : Uniq l) (h0 : ∀ e ∈ l, 0 ≤ e.t) : Runs Try.prog cfg 23 [.pointer (some ⟨0, 0, none⟩), .slice (some ⟨1, 0, none⟩) h.length tg] (AH.of [some (.hi (.set c l)), some (.ro (us h))])
    fun r H' => r = .ret (.tuple #[.int .i64 ((brk l h).getD zeroE).t, .bool (brk l h).isSome]) ∧ H' = AH.of [some (.hi (.set c l)), some (.ro (us h))] := by
  refine Runs.ends ?_
  refine runs_by (tbl := tbl7) tbl7_ok (l.length + 1) 0 (af := a23) rfl ?_
  rw [a23, b23, run_eq]
  refine ⟨by simp, ?_⟩
  simp (implicitDefEqProofs := false) [tbl7, st25, hl, hu]
  refine loop_view (callX_mono gX_ok (tabS_ok tbl7_ok) _ _) (fun m tm H => ∃ i : Nat, m + i = l.length ∧ (∀ (j : Nat) (x : Ent), j < i → l[j]? = some x → badB h x = false) ∧ tm 1 = .slice (some ⟨1, 0, none⟩) h.length tg ∧ tm 9 = .slice (some ⟨2, 0, none⟩) l.length 1 ∧ tm 10 = .int .i64 l.length ∧ tm 11 = .int .i64 i ∧
    H = AH.of [some (.hi (.set c l)), some (.ro (us h)), some (.arr 32 (rows l))]) (m := l.length) ?_ (by omega) ?_
  · refine round_plan [] [0, 1, 2] [some (.hi (.set c l)), some (.ro (us h)), some (.arr 32 (rows l))] l.length (by omega) ?_ ?_ ⟨0, ?_⟩ <;> simp [ren_us]
    done
  rintro m tm H ⟨i, hm, hno, t1, t9, t10, t11, rfl⟩
  by_cases hi : i < l.length
  · obtain ⟨x, hx⟩ : ∃ x, l[i]? = some x := ⟨l[i], List.getElem?_eq_getElem hi⟩
    have hi' : (i : Int) < l.length := by omega
    have hw : IntKind.i64.wrap ((i : Int) + 1) = ((i + 1 : Nat) : Int) := by rw [wrap_i64 (by omega) (by omega)]; omega
    have r3 := many_rows hx
    have hle : i * 3 + 3 ≤ (rows l).length := by rw [rows_length]; omega
    have hx0 : 0 ≤ x.t := h0 x (List.mem_of_getElem? hx)
    by_cases hb : (h.length : Int) ≤ x.t
    · have hbad : badB h x = true := by simp [badB, hb]
      simp (implicitDefEqProofs := false) [tbl7, st39, t1, t9, t10, t11, hi, hi', r3, hle, Ent.cells, hw, hb]
      refine ends_plan [] [0, 1] ?_ ?_ ?_ <;> simp [brk_at hx hno hbad, ren_us]
    · obtain ⟨v, hv⟩ : ∃ v, h[x.t.toNat]? = some v := ⟨h[x.t.toNat], List.getElem?_eq_getElem (by omega)⟩
      have hb2 : x.t < h.length := by omega
      have hbad : badB h x = !sameB v x.v := by simp [badB, hb, hv]
      simp (implicitDefEqProofs := false) [tbl7, st39, t1, t9, t10, t11, hi, hi', r3, hle, Ent.cells, hw, hb, hb2, hx0, us_at hv]
      refine ⟨fun hs => ?_, fun hs => ?_⟩
      · refine ends_plan [] [0, 1] ?_ ?_ ?_ <;> simp [brk_at hx hno (by simp [hbad, hs]), ren_us]
      · refine round_plan [] [0, 1, 2] [some (.hi (.set c l)), some (.ro (us h)), some (.arr 32 (rows l))] (m - 1) (by omega) ?_ ?_ ⟨i + 1, by omega, ?_⟩
        · simp
        · simp [ren_us]
        · refine ⟨fun j y hj hy => ?_, ?_⟩
          · by_cases hji : j = i
            · subst hji; rw [hx] at hy; cases hy; simp [hbad, hs]
            · exact hno j y (by omega) hy
          · simp [t1, t9, t10, t11]
  · have hi' : ¬ (i : Int) < l.length := by omega
    have hn : brk l h = none := brk_none fun j x hx => hno j x (by
      rcases Nat.lt_or_ge j l.length with h | h
      · omega
      · rw [List.getElem?_eq_none h] at hx; cases hx) hx
    simp (implicitDefEqProofs := false) [t1, t9, t10, t11, hi']
    refine ends_plan [] [0, 1] ?_ ?_ ?_ <;> simp [hn, zeroE, ren_us]
end Ytlecfiofljigbaa
end Go.Proofs
