/-
  Set.Add: what it comes to.
-/
import Derived.Test.YtlecfiofljigbaaR1
set_option linter.unusedSimpArgs false
set_option linter.unusedVariables false
set_option linter.unnecessarySimpa false
set_option linter.unusedSectionVars false
namespace Go.Proofs
namespace Ytlecfiofljigbaa
open Go.Abs
set_option linter.unusedSimpArgs false

theorem forms29 : forms 29 = some a29 := rfl
theorem lookV_ent (o : Option Ent) (z : Value) (hz : z = .agg #[.int .i64 0, .int .u64 0, .int .u64 0]) : lookV z true (o.map Ent.val) = .tuple #[.agg #[.int .i64 (o.getD ⟨0, 0, 0⟩).t, .int .u64 (o.getD ⟨0, 0, 0⟩).v, .int .u64 (o.getD ⟨0, 0, 0⟩).n], .bool o.isSome] := by
  subst hz
  cases o <;> rfl

theorem add_room {n : Nat} (h : ¬ (8 : Int) ≤ (n : Int)) : (n + 1) * 8 ≤ 140737488355328 ∧ n + 1 ≤ 9223372036854775807 := by omega

set_option maxHeartbeats 1000000 in
theorem runs14 (t v n : Int) (c : Nat) (l : List Ent) : Runs Try.prog cfg 14 [.pointer (some ⟨0, 0, none⟩), .agg #[.int .i64 t, .int .u64 v, .int .u64 n]] (AH.of [some (.hi (.set c l))])
    fun r H' => r = .ret (.int .i64 (addCode l ⟨t, v, n⟩)) ∧ H' = AH.of [some (.hi (.set c (addL l ⟨t, v, n⟩)))] := by
  refine Runs.ends ?_
  refine runs_by (tbl := []) (by simp) 0 2 (af := a14) rfl ?_
  rw [a14, b14, run_eq]
  refine ⟨by simp, ?_⟩
  have hg : getE l t = none → putIn false (.int .i64 t) (.agg #[.int .i64 t, .int .u64 v, .int .u64 n]) (c + l.length) (ents c l) = some (ents c (l ++ [⟨t, v, n⟩]), c + (l.length + 1)) := put_ents ⟨t, v, n⟩ l c
  cases h5 : getE l t with
  | some e =>
    simp (implicitDefEqProofs := false) [forms29, a29, b29, find_ents, frag_set, h5, Ent.val, Ent.cells]
    repeat' (first | with_reducible apply And.intro | with_reducible intro _)
    all_goals first
      | (refine ends_plan [] [0] ?_ ?_ ?_ <;> simp [addL, addCode, rightB, *] <;> omega)
      | (refine ends_plan [.pack (RD.set c l) 0 [2, 3]] [0] ?_ ?_ ?_ <;> simp [frag_set, AObj.mine, addL, addCode, rightB, *] <;> omega)
  | none =>
    simp (implicitDefEqProofs := false) [forms29, a29, b29, find_ents, frag_set, h5, hg h5, tvars_length, take_tvars]
    repeat' (first | with_reducible apply And.intro | with_reducible intro _)
    all_goals first
      | omega
      | (refine ends_plan [] [0] ?_ ?_ ?_ <;> simp [addL, addCode, rightB, *] <;> omega)
      | (refine ends_plan [.pack (RD.set c l) 0 [2, 3]] [0] ?_ ?_ ?_ <;> simp [frag_set, AObj.mine, addL, addCode, rightB, *] <;> omega)
      | (refine ends_plan [.pack (RD.set c (l ++ [⟨t, v, n⟩])) 0 [6, 3]] [0] ?_ ?_ ?_ <;> simp [frag_set, AObj.mine, addL, addCode, rightB, tvars_add, *] <;> omega)
end Ytlecfiofljigbaa
end Go.Proofs
