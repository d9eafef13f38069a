/-
  FUNCTIONS of a loaded program, each with its plain form.
-/
import Derived.Test.YtlecfiofljigbaaA20
import Derived.KernelRfl
set_option linter.unusedSimpArgs false
set_option linter.unusedVariables false
set_option linter.unnecessarySimpa false
set_option linter.unusedSectionVars false
namespace Go.Abs

theorem AFOk.of {P : Program} {ext : FuncId → Option Ext1} {f : FuncId} {fn : Func} {af : AF} (h1 : P.funcs[f]? = some fn) (h2 : fn.ntmps = af.n) (h3 : (fn.body.bind fun c => compC P ext fn.ntmps c) = some af.body)
    (h4 : compRes P fn.ntmps fn.results.toList = some af.res) (h5 : (fn.name == "runtime.NumGoroutine") = false) : AFOk P ext f af := by
  obtain ⟨c, hc, h3⟩ := Option.bind_eq_some_iff.1 h3
  rw [h2] at h3 h4
  exact ⟨fn, c, h1, hc, h2, h3, h4, h5⟩

theorem ExtOk.one {P : Program} {f : FuncId} {x : Ext1} (h : ∀ args w, (callFunc f args).run P w = ((x.sem args).run P w).andThen fun v w' => .ok (.value v) w') : ExtOk P (fun g => if g = f then some x else none) :=
  ⟨fun g y hg args w => by
    by_cases e : g = f
    · rw [if_pos e] at hg; subst e; cases hg; exact h args w
    · rw [if_neg e] at hg; cases hg⟩

end Go.Abs
