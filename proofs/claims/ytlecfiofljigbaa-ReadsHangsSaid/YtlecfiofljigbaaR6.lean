/-
  play.
-/
import Derived.Test.YtlecfiofljigbaaR5
set_option linter.unusedSimpArgs false
set_option linter.unusedVariables false
set_option linter.unnecessarySimpa false
set_option linter.unusedSectionVars false
namespace Go.Proofs
namespace Ytlecfiofljigbaa
open Go.Abs
set_option linter.unusedSimpArgs false

def Ent.Ok (e : Ent) : Prop := 0 ≤ e.v ∧ e.v < 18446744073709551616
def playL (l : List Ent) : List Ent := (l.take 30).foldl addL []
theorem addL_le {l : List Ent} {e : Ent} (h : l.length ≤ 8) : (addL l e).length ≤ 8 := by
  unfold addL
  split
  · rename_i hc
    have : ¬ (8 : Int) ≤ l.length := by
      intro h8
      have hg : getE l e.t = none := by simpa using hc.2
      have := hc.1
      unfold addCode at this
      split at this
      · cases this
      · split at this
        · cases this
        · rw [hg] at this
          simp [h8] at this
    simp; omega
  · exact h

def tbl6 : List (FuncId × CStep RD) := [(24, st24), (28, st28), (14, st14), (18, st18)]
theorem tbl6_ok : ∀ x ∈ tbl6, CStepOk Try.prog cfg x.1 x.2 := by simp [tbl6, st24_ok, st28_ok, st14_ok, st18_ok]

set_option maxHeartbeats 1000000 in
theorem runs9 (l : List Ent) (tg : Nat) (hok : ∀ e ∈ l, e.Ok) : Runs Try.prog cfg 9 [.slice (some ⟨0, 0, none⟩) l.length tg] (AH.of [some (.ro (rows l))])
    fun r H' => r = .ret (.tuple #[.pointer (some ⟨1, 0, none⟩), .pointer (some ⟨2, 0, none⟩), .bool true]) ∧ H' = AH.of [some (.ro (rows l)), some (.hi (.set 0 (playL l))), some (.hi (.rset (playL l)))] := by
  refine runs_by (tbl := tbl6) tbl6_ok 40 0 (af := a9) rfl ?_
  rw [a9, b9, run_eq]
  refine ⟨by simp, ?_⟩
  simp (implicitDefEqProofs := false) [tbl6, st24, st28]
  refine loop_inv (callX_mono gX_ok (tabS_ok tbl6_ok) _ _) (fun m tm H => ∃ i, m + i = 30 ∧ i ≤ l.length ∧ tm 0 = .slice (some ⟨0, 0, none⟩) l.length tg ∧ tm 5 = .pointer (some ⟨1, 0, none⟩) ∧ tm 6 = .pointer (some ⟨2, 0, none⟩) ∧ tm 7 = .int .i64 (i : Nat) ∧
      ∃ s, s = (l.take i).foldl addL [] ∧ s.length ≤ 8 ∧ H = AH.of [some (.ro (rows l)), some (.hi (.set 0 s)), some (.hi (.rset s))])
    (m := 30) ⟨0, by simp⟩ (by omega) ?_
  rintro m tm H ⟨i, hm, hil, t0, t5, t6, t7, s, hs, hs8, rfl⟩
  by_cases hi : i < l.length
  · by_cases hi3 : i < 30
    · obtain ⟨x, hx⟩ : ∃ x, l[i]? = some x := ⟨l[i], List.getElem?_eq_getElem hi⟩
      have r3 := many_rows hx
      have hle : i * 3 + 3 ≤ (rows l).length := by rw [rows_length]; omega
      have hxo : x.Ok := hok x (List.mem_of_getElem? hx)
      have hi' : (i : Int) < l.length := by omega
      have hi3' : (i : Int) < 30 := by omega
      have hw : IntKind.i64.wrap ((i : Int) + 1) = ((i + 1 : Nat) : Int) := by rw [wrap_i64 (by omega) (by omega)]; omega
      simp (implicitDefEqProofs := false) [tbl6, st14, st18, t0, t5, t6, t7, hi', hi3', hi, r3, hle, Ent.cells, hs8, hxo.1, hxo.2, hw]
      have hst : (l.take (i + 1)).foldl addL [] = addL s x := by
        rw [List.take_add_one, hx, List.foldl_append, ← hs]; rfl
      exact ⟨m - 1, by omega, i + 1, by omega, by omega, by omega, by rw [hst]; exact addL_le hs8, by rw [hst]⟩
    · have hi' : (i : Int) < l.length := by omega
      have hi3' : ¬ (i : Int) < 30 := by omega
      simp (implicitDefEqProofs := false) [t0, t5, t6, t7, hi', hi3', hi]
      have : l.take i = l.take 30 := by congr 1; omega
      rw [hs, this]; rfl
  · have hi' : ¬ (i : Int) < l.length := by omega
    simp (implicitDefEqProofs := false) [t0, t5, t6, t7, hi', hi]
    have : l.take i = l.take 30 := by rw [List.take_of_length_le (by omega), List.take_of_length_le (by omega)]
    rw [hs, this]; rfl
end Ytlecfiofljigbaa
end Go.Proofs
