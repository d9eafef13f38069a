/-
  THE OPERATIONS, all together.
-/
import Derived.Test.YtlecfiofljigbaaA9
set_option linter.unusedSimpArgs false
set_option linter.unusedVariables false
set_option linter.unnecessarySimpa false
set_option linter.unusedSectionVars false
namespace Go.Abs
open Go.RowKit

section
variable {D : Type} {P : Program} {cfg : D → HRep} {ρ : Env} {own : Nat → Nat → Prop} {H : AH D} {w : World} {n : Nat} {tm : Nat → Value} {a : Act} {ext : FuncId → Option Ext1}

theorem builtin_run {b : Builtin} {args : Array Operand} {ts : Array TypeId} {o : Oper} (ho : o.op = .call { callee := .builtin b, args := args, argTypes := ts }) {r : Result Next}
    (h : ∀ consts, (builtin b ts o.type consts (args.toList.map a.eval).toArray).run P w = r) : (execOp a.eval o).run P w = r := by
  have hm : args.map a.eval = (args.toList.map a.eval).toArray := by apply Array.ext'; simp
  simp only [execOp, ho, resolve, Sem.run_bind, Sem.run_pure, Result.andThen_ok, invoke, hm]
  exact h _

theorem call_ok (hext : ∀ f x, ext f = some x → ∀ args w, (callFunc f args).run P w = ((x.sem args).run P w).andThen fun v w' => .ok (.value v) w')
    (htm : TmRel ρ n tm a.tmps) (hr : Rel P cfg ρ own H w) {c : Call} {op : AOp} (hc : compCall P ext n c = some op) {o : Oper} (ho : o.op = .call c) {v : Value} {H' : AH D} (hs : op.step tm H = some (v, H')) :
    StepOk P cfg ρ own w ((execOp a.eval o).run P w) v H' := by
  obtain ⟨callee, args, ts⟩ := c
  cases callee with
  | invoke r m => simp [compCall] at hc
  | value f =>
    cases f with
    | func f =>
      simp only [compCall] at hc
      have hrun : ∀ x y, args.toList = [x] → ext f = some y → (execOp a.eval o).run P w = ((y.sem #[a.eval x]).run P w).andThen fun v w' => .ok (.value v) w' := by
        intro x y hx hy
        have hargs : args = #[x] := by apply Array.ext'; simpa using hx
        subst hargs
        have he : a.eval (.func f) = .func (.func f) #[] #[] := rfl
        simp only [execOp, ho, resolve, Sem.run_bind, Sem.run_pure, Result.andThen_ok, invoke, he, Deferred.ofValue]
        have := hext f y hy #[a.eval x] w
        simp only [List.map_toArray, List.map_cons, List.map_nil]
        generalize a.eval x = X at this ⊢
        simpa using this
      split at hc
      · rename_i x hx hl
        simp only [Option.map_eq_some_iff] at hc
        obtain ⟨y, hy, rfl⟩ := hc
        have hv := opd_ok htm hy
        simp only [AOp.step] at hs
        split at hs
        · rename_i m he
          rw [he] at hv
          cases hs
          refine StepOk.pure hr (v' := .float .f64 m.toNat) ?_ (.float _ _)
          rw [hrun x _ hl hx, hv.int_eq]; rfl
        · cases hs
      · rename_i x hx hl
        simp only [Option.map_eq_some_iff] at hc
        obtain ⟨y, hy, rfl⟩ := hc
        have hv := opd_ok htm hy
        simp only [AOp.step] at hs
        split at hs
        · rename_i m he
          rw [he] at hv
          cases hs
          refine StepOk.pure hr (v' := .int .u64 m) ?_ (.int _ _)
          rw [hrun x _ hl hx, hv.float_eq]; rfl
        · cases hs
      · cases hc
    | _ => simp [compCall] at hc
  | builtin b =>
    cases b <;> simp only [compCall, reduceCtorEq] at hc
    case append =>
      split at hc
      case h_2 => cases hc
      rename_i s x t t' hargs hts
      split at hc
      case isFalse => cases hc
      rename_i htt
      subst htt
      split at hc
      case h_2 => cases hc
      rename_i e ht
      simp only [Option.bind_eq_some_iff] at hc
      obtain ⟨i, hi, s', hs', x', hx', hc⟩ := hc
      split at hc
      case isFalse => cases hc
      rename_i hz
      cases hc
      have ha : args = #[s, x] := by apply Array.ext'; simpa using hargs
      have htt : ts = #[t, t] := by apply Array.ext'; simpa using hts
      subst ha; subst htt
      obtain ⟨v', w', ρ', own', e1, e2, e3, e4⟩ := append_ok (n := n) hr hs (opd_ok htm hs') (opd_ok htm hx') (t := t) (ty := o.type) ht hi rfl rfl hz.1 hz.2
      refine ⟨v', w', ρ', own', .inl ?_, e2, e3, e4⟩
      refine builtin_run ho fun consts => ?_
      simp only [builtin]
      exact exec_v (by simpa using e1) ()
    case len =>
      split at hc
      case h_2 => cases hc
      rename_i x t hargs hts
      simp only [Option.bind_eq_some_iff] at hc
      obtain ⟨y, hy, hc⟩ := hc
      have ha : args = #[x] := by apply Array.ext'; simpa using hargs
      subst ha
      have hv := opd_ok htm hy
      have fin : ∀ (m : Nat), (Builtin.len_ ts o.type #[a.eval x]).run P w = .ok (.int .i64 m) w → StepOk P cfg ρ own w ((execOp a.eval o).run P w) (.int .i64 m) H := fun m hm =>
        StepOk.pure hr (v' := .int .i64 m) (builtin_run ho fun consts => exec_v (by simpa using hm) ()) (.int _ _)
      split at hc
      · rename_i e hu
        cases hc
        simp only [AOp.step] at hs
        split at hs
        · rename_i A m c he
          cases hs
          rw [he] at hv
          refine fin m ?_
          generalize a.eval x = X at hv ⊢
          cases hv <;> simp [Builtin.len_, hts, und_run hu, goInt]
        · cases hs
      · rename_i hu
        cases hc
        simp only [AOp.step] at hs
        split at hs
        · rename_i s he
          cases hs
          rw [he] at hv
          refine fin s.size ?_
          rw [hv.string_eq]
          simp [Builtin.len_, hts, und_run hu, goInt]
        · cases hs
      · rename_i k e hu
        cases hc
        simp only [AOp.step] at hs
        split at hs
        · rename_i he
          cases hs
          rw [he] at hv
          refine fin 0 ?_
          generalize a.eval x = X at hv ⊢
          cases hv; simp [Builtin.len_, hts, und_run hu, goInt]
        · rename_i r he
          split at hs
          · rename_i es c hm
            cases hs
            rw [he] at hv
            obtain ⟨_, l, es', e1, e2, e3, e4⟩ := hr.mapAt hm
            obtain ⟨l', e1', hx⟩ := hv.map_inv
            rw [e1] at e1'; cases e1'
            refine fin es.length ?_
            rw [hx, e4.len]
            simp [Builtin.len_, hts, und_run hu, goInt, getObj, Sem.run, e3]
          · cases hs
        · cases hs
      · rename_i k e hu
        cases hc
        simp only [AOp.step, Option.some.injEq, Prod.mk.injEq] at hs
        obtain ⟨rfl, rfl⟩ := hs
        refine fin k ?_
        generalize a.eval x = X at hv ⊢
        simp [Builtin.len_, hts, und_run hu, goInt]
      · cases hc
    case delete =>
      split at hc
      case h_2 => cases hc
      rename_i m k t hargs hts
      simp only [Option.bind_eq_some_iff] at hc
      obtain ⟨m', hm', k', hk', hc⟩ := hc
      have ha : args = #[m, k] := by apply Array.ext'; simpa using hargs
      subst ha
      split at hc
      case h_2 => cases hc
      rename_i kt et hu
      simp only [Option.map_eq_some_iff] at hc
      obtain ⟨s, hks, rfl⟩ := hc
      obtain ⟨d, hd, hkd⟩ := key_desc hks
      have hmv := opd_ok htm hm'
      have hkv := opd_ok htm hk'
      simp only [AOp.step] at hs
      split at hs
      case h_2 => cases hs
      rename_i r he
      split at hs
      case h_2 => cases hs
      rename_i es c hmap
      simp only [Option.map_eq_some_iff, Prod.mk.injEq] at hs
      obtain ⟨es2, hdel, rfl, rfl⟩ := hs
      rw [he] at hmv
      obtain ⟨hg, l, es', e1, e2, e3, e4⟩ := hr.mapAt hmap
      obtain ⟨l', e1', hx⟩ := hmv.map_inv
      rw [e1] at e1'; cases e1'
      have hchk := check_ok (P := P) hd hkd es'.isEmpty (a.eval k) w
      rcases del_ok hkd hkv e4 0 es2 hdel with ⟨f1, f2⟩ | ⟨j, u, f1, f2⟩
      · obtain ⟨g1, g2⟩ := hr.setMap (c' := c) hg e1 (es' := es') f2
        refine ⟨.tuple #[], _, ρ, own, .inl (builtin_run ho fun consts => exec_v ?_ ()), g1, .tuple _ _ .nil, g2⟩
        show (Builtin.delete_ ts o.type #[a.eval m, a.eval k]).run P w = _
        rw [hx]
        generalize a.eval k = K at hchk f1
        simp [Builtin.delete_, hts, und_run hu, getObj, setObj, Sem.run, e3, hchk, Instr.findKey, und_run hd, f1]
      · obtain ⟨g1, g2⟩ := hr.setMap (c' := c) hg e1 (es' := es'.eraseIdxIfInBounds j) (by
          rw [Array.toList_eraseIdxIfInBounds]; exact f2)
        refine ⟨.tuple #[], _, ρ, own, .inl (builtin_run ho fun consts => exec_v ?_ ()), g1, .tuple _ _ .nil, g2⟩
        show (Builtin.delete_ ts o.type #[a.eval m, a.eval k]).run P w = _
        rw [hx]
        generalize a.eval k = K at hchk f1
        simp only [Nat.zero_add] at f1
        simp [Builtin.delete_, hts, und_run hu, getObj, setObj, Sem.run, e3, hchk, Instr.findKey, und_run hd, f1]
    case clear =>
      split at hc
      case h_2 => cases hc
      rename_i m t hargs hts
      simp only [Option.bind_eq_some_iff] at hc
      obtain ⟨m', hm', hc⟩ := hc
      have ha : args = #[m] := by apply Array.ext'; simpa using hargs
      subst ha
      split at hc
      case h_2 => cases hc
      rename_i kt et hu
      cases hc
      have hmv := opd_ok htm hm'
      simp only [AOp.step] at hs
      split at hs
      · rename_i he
        cases hs
        rw [he] at hmv
        refine StepOk.pure hr (v' := .tuple #[]) (builtin_run ho fun consts => exec_v ?_ ()) (.tuple _ _ .nil)
        show (Builtin.clear_ ts o.type #[a.eval m]).run P w = _
        generalize a.eval m = M at hmv
        cases hmv; simp [Builtin.clear_, hts, und_run hu]
      · rename_i r he
        split at hs
        case h_2 => cases hs
        rename_i es c hmap
        cases hs
        rw [he] at hmv
        obtain ⟨hg, l, es', e1, e2, e3, e4⟩ := hr.mapAt hmap
        obtain ⟨l', e1', hx⟩ := hmv.map_inv
        rw [e1] at e1'; cases e1'
        obtain ⟨g1, g2⟩ := hr.setMap (c' := c) hg e1 (es' := #[]) (es2 := []) .nil
        refine ⟨.tuple #[], _, ρ, own, .inl (builtin_run ho fun consts => exec_v ?_ ()), g1, .tuple _ _ .nil, g2⟩
        show (Builtin.clear_ ts o.type #[a.eval m]).run P w = _
        rw [hx]
        simp [Builtin.clear_, hts, und_run hu, getObj, setObj, Sem.run, e3]
      · cases hs
    case max =>
      split at hc
      case h_2 => cases hc
      rename_i x y hargs
      simp only [Option.bind_eq_some_iff, Option.map_eq_some_iff] at hc
      obtain ⟨x', hx', y', hy', rfl⟩ := hc
      have ha : args = #[x, y] := by apply Array.ext'; simpa using hargs
      subst ha
      have hxv := opd_ok htm hx'
      have hyv := opd_ok htm hy'
      simp only [AOp.step] at hs
      split at hs
      case h_2 => cases hs
      rename_i k p k' q he1 he2
      cases hs
      rw [he1] at hxv; rw [he2] at hyv
      refine StepOk.pure hr (v' := .int k (if q > p then q else p)) (builtin_run ho fun consts => exec_v ?_ ()) (.int _ _)
      show (Builtin.max_ ts o.type #[a.eval x, a.eval y]).run P w = _
      rw [hxv.int_eq, hyv.int_eq]; rfl
    case min =>
      split at hc
      case h_2 => cases hc
      rename_i x y hargs
      simp only [Option.bind_eq_some_iff, Option.map_eq_some_iff] at hc
      obtain ⟨x', hx', y', hy', rfl⟩ := hc
      have ha : args = #[x, y] := by apply Array.ext'; simpa using hargs
      subst ha
      have hxv := opd_ok htm hx'
      have hyv := opd_ok htm hy'
      simp only [AOp.step] at hs
      split at hs
      case h_2 => cases hs
      rename_i k p k' q he1 he2
      cases hs
      rw [he1] at hxv; rw [he2] at hyv
      refine StepOk.pure hr (v' := .int k (if q < p then q else p)) (builtin_run ho fun consts => exec_v ?_ ()) (.int _ _)
      show (Builtin.min_ ts o.type #[a.eval x, a.eval y]).run P w = _
      rw [hxv.int_eq, hyv.int_eq]; rfl

end
end Go.Abs
