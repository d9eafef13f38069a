/-
  A STEP OF THE PLAIN FORM IS A STEP OF THE LOADED PROGRAM: every operation.
-/
import Derived.Test.YtlecfiofljigbaaA11
set_option linter.unusedSimpArgs false
set_option linter.unusedVariables false
set_option linter.unnecessarySimpa false
set_option linter.unusedSectionVars false
namespace Go.Abs
open Go.RowKit

section
variable {D : Type} {P : Program} {cfg : D → HRep} {ρ : Env} {own : Nat → Nat → Prop} {H : AH D} {w : World} {n : Nat} {tm : Nat → Value} {a : Act} {ext : FuncId → Option Ext1}

theorem iaddr_ok (htm : TmRel ρ n tm a.tmps) (hr : Rel P cfg ρ own H w) {t : TypeId} {x i : Operand} {x' i' : Opd} (hx : opdOf n x = some x') (hi : opdOf n i = some i') {op : AOp}
    (hc : (match P.underlying t with
      | some (.slice e) => (szOf P e).map fun s => AOp.iaddrS s x' i'
      | some (.array k e) => (szOf P e).map fun s => AOp.iaddrA k s x' i'
      | _ => none) = some op) {o : Oper} (ho : o.op = .indexAddr t x i) {v : Value} {H' : AH D} (hs : op.step tm H = some (v, H')) : StepOk P cfg ρ own w ((execOp a.eval o).run P w) v H' := by
  have hxv := opd_ok htm hx
  have hiv := opd_ok htm hi
  split at hc
  · rename_i e hu
    simp only [Option.map_eq_some_iff] at hc
    obtain ⟨s, hs', rfl⟩ := hc
    simp only [AOp.step] at hs
    split at hs
    case h_2 => cases hs
    rename_i k off m c kk j he1 he2
    split at hs
    case isFalse => cases hs
    rename_i hb
    simp only [Option.some.injEq, Prod.mk.injEq] at hs
    obtain ⟨rfl, rfl⟩ := hs
    rw [he1] at hxv; rw [he2] at hiv
    rcases hxv.slice_inv with ⟨o', cc, l, f1, f2, f3, f4, f5, e2⟩ | ⟨_, h0, _, _⟩
    case inr => omega
    have ho' : o' = l.base + off := f3 (by omega)
    subst ho'
    refine StepOk.pure hr (v' := .pointer (some ⟨l.b, l.base + off + j.toNat * s, none⟩)) ?_ (by
      have := VR.ptr (ρ := ρ) k (off + j.toNat * s) l f1
      rwa [← Nat.add_assoc] at this)
    simp only [execOp, ho]
    refine exec_v ?_ ()
    rw [e2, hiv.int_eq]
    simp [Instr.indexAt, asIntOf, und_run hu, hb, size_run hs', Addr.add_lit]
  · rename_i m e hu
    simp only [Option.map_eq_some_iff] at hc
    obtain ⟨s, hs', rfl⟩ := hc
    simp only [AOp.step] at hs
    split at hs
    case h_2 => cases hs
    rename_i k off kk j he1 he2
    split at hs
    case isFalse => cases hs
    rename_i hb
    simp only [Option.some.injEq, Prod.mk.injEq] at hs
    obtain ⟨rfl, rfl⟩ := hs
    rw [he1] at hxv; rw [he2] at hiv
    obtain ⟨l, f1, e2⟩ := hxv.ptr_inv
    refine StepOk.pure hr (v' := .pointer (some ⟨l.b, l.base + off + j.toNat * s, none⟩)) ?_ (by
      have := VR.ptr (ρ := ρ) k (off + j.toNat * s) l f1
      rwa [← Nat.add_assoc] at this)
    simp only [execOp, ho]
    refine exec_v ?_ ()
    rw [e2, hiv.int_eq]
    simp [Instr.indexAt, Instr.sureAddr, asIntOf, und_run hu, hb, size_run hs', Addr.add_lit]
  · cases hc

theorem index_ok (htm : TmRel ρ n tm a.tmps) (hr : Rel P cfg ρ own H w) {t : TypeId} {x i : Operand} {x' i' : Opd} (hx : opdOf n x = some x') (hi : opdOf n i = some i') {op : AOp}
    (hc : (match P.underlying t with
      | some (.array k e) => (szOf P e).bind fun s => (aggOf P e).map fun g => AOp.indexA k s g x' i'
      | some .string => some (AOp.indexS x' i')
      | _ => none) = some op) {o : Oper} (ho : o.op = .index t x i) {v : Value} {H' : AH D} (hs : op.step tm H = some (v, H')) : StepOk P cfg ρ own w ((execOp a.eval o).run P w) v H' := by
  have hxv := opd_ok htm hx
  have hiv := opd_ok htm hi
  split at hc
  · rename_i m e hu
    simp only [Option.bind_eq_some_iff, Option.map_eq_some_iff] at hc
    obtain ⟨s, hs', g, hg, rfl⟩ := hc
    simp only [AOp.step] at hs
    split at hs
    case h_2 => cases hs
    rename_i cs kk j he1 he2
    split at hs
    case isFalse => cases hs
    rename_i hb
    simp only [Option.map_eq_some_iff, Prod.mk.injEq] at hs
    obtain ⟨v0, hv0, rfl, rfl⟩ := hs
    rw [he1] at hxv; rw [he2] at hiv
    obtain ⟨cs', e2, e3⟩ := hxv.agg_inv
    obtain ⟨v', g1, g2⟩ := part_ok hs' hg e3 hv0 w
    refine StepOk.pure hr (v' := v') ?_ g2
    simp only [execOp, ho]
    refine exec_v ?_ ()
    rw [e2, hiv.int_eq]
    simp [Instr.index, asIntOf, und_run hu, hb, size_run hs', g1]
  · rename_i hu
    cases hc
    simp only [AOp.step] at hs
    split at hs
    case h_2 => cases hs
    rename_i s kk j he1 he2
    split at hs
    case isFalse => cases hs
    rename_i hb
    simp only [Option.map_eq_some_iff, Prod.mk.injEq] at hs
    obtain ⟨b, hb2, rfl, rfl⟩ := hs
    rw [he1] at hxv; rw [he2] at hiv
    refine StepOk.pure hr (v' := .int .u8 b.toNat) ?_ (.int _ _)
    simp only [execOp, ho]
    refine exec_v ?_ ()
    rw [hxv.string_eq, hiv.int_eq]
    have hsb : s[j.toNat]? = some b := by
      have : s.data[j.toNat]? = some b := by simpa using hb2
      obtain ⟨hlt, hv⟩ := Array.getElem?_eq_some_iff.1 this
      rw [getElem?_pos s j.toNat hlt]
      exact congrArg some hv
    simp [Instr.index, asIntOf, und_run hu, hb, hsb]
  · cases hc

theorem sliceS_ok (htm : TmRel ρ n tm a.tmps) (hr : Rel P cfg ρ own H w) {t : TypeId} (ht : P.underlying t = some .string) {x : Operand} {lo hi : Option Operand} {y : Opd} {lo' hi' : Option Opd} (hx : opdOf n x = some y)
    (hlo : optOpd n lo = some lo') (hhi : optOpd n hi = some hi') {o : Oper} (ho : o.op = .slice t x lo hi none) {v : Value} {H' : AH D} (hstep : (AOp.sliceS y lo' hi').step tm H = some (v, H')) :
    StepOk P cfg ρ own w ((execOp a.eval o).run P w) v H' := by
  have hxv := opd_ok htm hx
  have opt : ∀ {p : Option Operand} {p' : Option Opd}, optOpd n p = some p' → (p' = none ↔ p = none) ∧ ∀ q', p' = some q' → ∃ q, p = some q ∧ VR ρ (q'.ev tm) (a.eval q) := by
    intro p p' h
    cases p with
    | none => simp [optOpd] at h; subst h; exact ⟨by simp, fun q h => by cases h⟩
    | some q =>
      simp only [optOpd, Option.map_eq_some_iff] at h
      obtain ⟨z, hz, rfl⟩ := h
      exact ⟨by simp, fun q' hq => by cases hq; exact ⟨q, rfl, opd_ok htm hz⟩⟩
  obtain ⟨lo1, lo2⟩ := opt hlo
  obtain ⟨hi1, hi2⟩ := opt hhi
  simp only [AOp.step] at hstep
  split at hstep
  case h_2 => cases hstep
  rename_i s he
  rw [he] at hxv
  split at hstep
  case h_2 => cases hstep
  rename_i h hh
  split at hstep
  case h_2 => cases hstep
  rename_i l hl
  cases hstep
  refine StepOk.pure hr (v' := .string (s.extract l h)) ?_ (.string _)
  simp only [execOp, ho]
  refine exec_v ?_ ()
  rw [hxv.string_eq]
  have L : ∀ code, (match lo.map a.eval with | some v => Instr.sliceBound v h code | none => pure 0 : Sem Nat).run P w = .ok l w := by
    intro code
    cases hlo' : lo' with
    | none => rw [lo1.1 hlo']; rw [hlo'] at hl; simp at hl; subst hl; rfl
    | some q' =>
      obtain ⟨q, hq, hqv⟩ := lo2 q' hlo'
      rw [hq]; rw [hlo'] at hl
      exact (bound_ok (P := P) hl hqv (Nat.le_refl _) _ w).1
  have key : (Instr.sliceBounds false s.size s.size (lo.map a.eval) (hi.map a.eval) none).run P w = .ok (l, h, s.size) w := by
    have := L .sliceB
    revert this
    cases hhi' : hi' with
    | none =>
      rw [hi1.1 hhi']; rw [hhi'] at hh; simp at hh; subst hh
      generalize lo.map a.eval = LO
      intro this
      cases LO <;> simp_all [Instr.sliceBounds]
    | some q' =>
      obtain ⟨q, hq, hqv⟩ := hi2 q' hhi'
      rw [hq]; rw [hhi'] at hh
      have b1 := (bound_ok (P := P) hh hqv (Nat.le_refl _) .sliceAlen w).1
      generalize lo.map a.eval = LO
      intro this
      cases LO <;> simp_all [Instr.sliceBounds]
  simp [Instr.sliceAt, Instr.slice, und_run ht, key]

theorem step_ok (hext : ∀ f x, ext f = some x → ∀ args w, (callFunc f args).run P w = ((x.sem args).run P w).andThen fun v w' => .ok (.value v) w')
    (htm : TmRel ρ n tm a.tmps) (hr : Rel P cfg ρ own H w) {o : Oper} {op : AOp} (hc : compOp P ext n o = some op) {v : Value} {H' : AH D} (hs : op.step tm H = some (v, H')) :
    StepOk P cfg ρ own w ((execOp a.eval o).run P w) v H' := by
  obtain ⟨dst, op0, ty, pos, after, guard⟩ := o
  cases op0 <;> simp only [compOp, Option.bind_eq_some_iff, Option.map_eq_some_iff, reduceCtorEq] at hc
  case move x =>
    obtain ⟨y, hy, rfl⟩ := hc
    simp only [AOp.step, Option.some.injEq, Prod.mk.injEq] at hs
    obtain ⟨rfl, rfl⟩ := hs
    exact StepOk.pure hr rfl (opd_ok htm hy)
  case assign x =>
    obtain ⟨y, hy, rfl⟩ := hc
    simp only [AOp.step, Option.some.injEq, Prod.mk.injEq] at hs
    obtain ⟨rfl, rfl⟩ := hs
    exact StepOk.pure hr rfl (opd_ok htm hy)
  case pick c x y =>
    obtain ⟨c', hc', x', hx', y', hy', rfl⟩ := hc
    have hcv := opd_ok htm hc'
    simp only [AOp.step] at hs
    split at hs
    case h_2 => cases hs
    rename_i b he
    simp only [Option.some.injEq, Prod.mk.injEq] at hs
    obtain ⟨rfl, rfl⟩ := hs
    rw [he] at hcv
    refine StepOk.pure hr (v' := if b then a.eval x else a.eval y) ?_ (by cases b; exact opd_ok htm hy'; exact opd_ok htm hx')
    simp only [execOp, hcv.bool_eq, asBool]
    cases b <;> rfl
  case alloc e =>
    obtain ⟨z, hz, rfl⟩ := hc
    simp only [AOp.step, Option.some.injEq, Prod.mk.injEq] at hs
    obtain ⟨rfl, rfl⟩ := hs
    exact alloc_ok hr hz rfl
  case box e x =>
    obtain ⟨y, hy, rfl⟩ := hc
    simp only [AOp.step] at hs
    split at hs
    · rename_i h1
      simp only [Option.some.injEq, Prod.mk.injEq] at hs
      obtain ⟨rfl, rfl⟩ := hs
      exact box_ok htm hr hy rfl h1
    · cases hs
  case build t parts =>
    obtain ⟨z, hz, hc⟩ := hc
    split at hc
    · rename_i fs hu
      simp only [Option.bind_eq_some_iff, Option.map_eq_some_iff] at hc
      obtain ⟨pl, hpl, ps, hps, rfl⟩ := hc
      simp only [AOp.step, Option.map_eq_some_iff, Prod.mk.injEq] at hs
      obtain ⟨l, hl, rfl, rfl⟩ := hs
      exact build_ok htm hr hz (.inl ⟨fs, pl, hu, hpl, hps⟩) rfl hl
    · rename_i k e hu
      simp only [Option.bind_eq_some_iff, Option.map_eq_some_iff] at hc
      obtain ⟨s, hs', ps, hps, rfl⟩ := hc
      simp only [AOp.step, Option.map_eq_some_iff, Prod.mk.injEq] at hs
      obtain ⟨l, hl, rfl, rfl⟩ := hs
      exact build_ok htm hr hz (.inr ⟨k, e, s, hu, hs', hps⟩) rfl hl
    · cases hc
  case buildSlice t len parts =>
    split at hc
    case h_2 => cases hc
    rename_i e hu
    simp only [Option.bind_eq_some_iff] at hc
    obtain ⟨s, hs', z, hz, hc⟩ := hc
    split at hc
    case isFalse => cases hc
    rename_i hlen
    simp only [Option.map_eq_some_iff] at hc
    obtain ⟨ps, hps, rfl⟩ := hc
    simp only [AOp.step] at hs
    split at hs
    case h_2 => cases hs
    rename_i l hl
    split at hs
    case isFalse => cases hs
    rename_i h1
    simp only [Option.some.injEq, Prod.mk.injEq] at hs
    obtain ⟨rfl, rfl⟩ := hs
    exact bslice_ok htm hr hu hs' hz hlen hps rfl hl h1
  case load t x =>
    obtain ⟨g, hg, y, hy, hc⟩ := hc
    split at hc
    · rename_i hgt
      simp only [Option.map_eq_some_iff] at hc
      obtain ⟨s, hs', rfl⟩ := hc
      subst hgt
      simp only [AOp.step] at hs
      split at hs
      case h_2 => cases hs
      rename_i k off he
      simp only [Option.map_eq_some_iff, Prod.mk.injEq] at hs
      obtain ⟨l, hl, rfl, rfl⟩ := hs
      exact loadN_ok htm hr hg hs' hy rfl he hl
    · rename_i hgf
      cases hc
      have hgf : g = false := by simpa using hgf
      subst hgf
      simp only [AOp.step] at hs
      split at hs
      case h_2 => cases hs
      rename_i k off he
      split at hs
      case h_2 => cases hs
      rename_i cs hcs
      simp only [Option.map_eq_some_iff, Prod.mk.injEq] at hs
      obtain ⟨v0, hv0, rfl, rfl⟩ := hs
      exact load_ok htm hr hg hy rfl he hcs hv0
  case store t x u =>
    obtain ⟨s, hs', x', hx', u', hu', rfl⟩ := hc
    simp only [AOp.step] at hs
    split at hs
    case h_2 => cases hs
    rename_i k off he
    split at hs
    case h_2 => cases hs
    rename_i e cs hk
    split at hs
    case isFalse => cases hs
    rename_i hb
    simp only [Option.some.injEq, Prod.mk.injEq] at hs
    obtain ⟨rfl, rfl⟩ := hs
    exact store_ok htm hr hs' hx' hu' rfl he hk hb.1 hb.2.1 hb.2.2
  case nilCheck x =>
    obtain ⟨y, hy, rfl⟩ := hc
    have hv := opd_ok htm hy
    simp only [AOp.step] at hs
    split at hs
    · rename_i ad he
      simp only [Option.some.injEq, Prod.mk.injEq] at hs
      obtain ⟨rfl, rfl⟩ := hs
      rw [he] at hv
      refine StepOk.pure hr (v' := a.eval x) ?_ hv
      simp only [execOp]
      generalize a.eval x = X at hv ⊢
      cases hv; rfl
    · rename_i f p q he
      simp only [Option.some.injEq, Prod.mk.injEq] at hs
      obtain ⟨rfl, rfl⟩ := hs
      rw [he] at hv
      refine StepOk.pure hr (v' := a.eval x) ?_ hv
      simp only [execOp]
      generalize a.eval x = X at hv ⊢
      cases hv; rfl
    · cases hs
  case binOp op t x y yt =>
    obtain ⟨x', hx', y', hy', hc⟩ := hc
    have hxv := opd_ok htm hx'
    have hyv := opd_ok htm hy'
    have fin : AOp.bin op x' y' = (AOp.bin op x' y') → ∀ v0, abin op (x'.ev tm) (y'.ev tm) = some v0 → StepOk P cfg ρ own w ((execOp a.eval ⟨dst, .binOp op t x y yt, ty, pos, after, guard⟩).run P w) v0 H := fun _ v0 h0 => by
      obtain ⟨b1, b2⟩ := bin_ok (P := P) (w := w) h0 hxv hyv t x y
      exact StepOk.pure hr (by simp only [execOp]; exact exec_v b1 ()) b2
    split at hc
    · cases hc
      simp only [AOp.step, Option.map_eq_some_iff, Prod.mk.injEq] at hs
      obtain ⟨v0, h0, rfl, rfl⟩ := hs
      exact fin rfl _ h0
    · cases hc
      simp only [AOp.step, Option.map_eq_some_iff, Prod.mk.injEq] at hs
      obtain ⟨v0, h0, rfl, rfl⟩ := hs
      exact fin rfl _ h0
    · cases hc
      simp only [AOp.step, Option.map_eq_some_iff, Prod.mk.injEq] at hs
      obtain ⟨v0, h0, rfl, rfl⟩ := hs
      exact fin rfl _ h0
    · rename_i d hi hf hst hu
      have hnum : ∀ k, P.underlying t ≠ some (.int k) := fun k h => hi k (by rw [hu] at h; exact Option.some.inj h)
      have hstr : P.underlying t ≠ some .string := fun h => hst (by rw [hu] at h; exact Option.some.inj h)
      split at hc
      · split at hc
        · cases hc
        · rename_i hg
          simp only [Option.map_eq_some_iff] at hc
          obtain ⟨s, hsh, rfl⟩ := hc
          simp only [AOp.step, Option.map_eq_some_iff, Prod.mk.injEq, Bool.false_eq_true, if_false] at hs
          obtain ⟨b, hb, rfl, rfl⟩ := hs
          have := (eq_ok hsh (by simpa using hg) hnum hstr hb hxv hyv x y w).1
          exact StepOk.pure hr (by simp only [execOp]; exact exec_v this ()) (.bool _)
      · split at hc
        · cases hc
        · rename_i hg
          simp only [Option.map_eq_some_iff] at hc
          obtain ⟨s, hsh, rfl⟩ := hc
          simp only [AOp.step, Option.map_eq_some_iff, Prod.mk.injEq, if_true] at hs
          obtain ⟨b, hb, rfl, rfl⟩ := hs
          have := (eq_ok hsh (by simpa using hg) hnum hstr hb hxv hyv x y w).2
          exact StepOk.pure hr (by simp only [execOp]; exact exec_v this ()) (.bool _)
      · cases hc
    · cases hc
  case unOp op t x =>
    obtain ⟨x', hx', rfl⟩ := hc
    simp only [AOp.step, Option.map_eq_some_iff, Prod.mk.injEq] at hs
    obtain ⟨v0, h0, rfl, rfl⟩ := hs
    obtain ⟨b1, b2⟩ := un_ok (P := P) (w := w) h0 (opd_ok htm hx')
    exact StepOk.pure hr (by simp only [execOp]; exact exec_v b1 ()) b2
  case convert src dst' x =>
    obtain ⟨x', hx', hc⟩ := hc
    have hv := opd_ok htm hx'
    split at hc
    · rename_i k0 k hu1 hu2
      cases hc
      simp only [AOp.step] at hs
      split at hs
      · rename_i kk m hcc he
        cases hcc
        cases hs
        rename_i k1
        rw [he] at hv
        refine StepOk.pure hr (v' := .int k (k.wrap m)) (by
          simp only [execOp]
          refine exec_v ?_ ()
          rw [hv.int_eq]
          simp [convert, und_run hu1, und_run hu2, Conv.intToInt]) (.int _ _)
      · rename_i hcc _; cases hcc
      · cases hs
    · rename_i hu1 hu2
      cases hc
      simp only [AOp.step] at hs
      split at hs
      · rename_i hcc _; cases hcc
      · rename_i s hcc he
        cases hs
        rw [he] at hv
        refine StepOk.pure hr (v' := .string s) (by
          simp only [execOp]
          refine exec_v ?_ ()
          rw [hv.string_eq]
          simp [convert, und_run hu1, und_run hu2]) (.string _)
      · cases hs
    · cases hc
  case makeInterface t x =>
    split at hc
    · cases hc
    · rename_i d hd hu
      simp only [Option.map_eq_some_iff] at hc
      obtain ⟨y, hy, rfl⟩ := hc
      simp only [AOp.step, Option.some.injEq, Prod.mk.injEq] at hs
      obtain ⟨rfl, rfl⟩ := hs
      refine StepOk.pure hr (v' := .iface t (a.eval x)) (by
        simp only [execOp]
        refine exec_v ?_ ()
        simp only [Instr.makeInterface, Sem.run_bind, und_run hu, Result.andThen_ok]
        rfl) (.iface _ _ _ (opd_ok htm hy))
    · cases hc
  case makeFunc fn first cap =>
    cases fn <;> simp only [Option.bind_eq_some_iff, Option.map_eq_some_iff, reduceCtorEq] at hc
    rename_i f
    obtain ⟨p, hp, q, hq, rfl⟩ := hc
    simp only [AOp.step, Option.some.injEq, Prod.mk.injEq] at hs
    obtain ⟨rfl, rfl⟩ := hs
    refine StepOk.pure hr (v' := .func (.func f) (first.map a.eval) (cap.map a.eval)) (by simp only [execOp]; exact exec_v rfl ()) (.func _ _ _ _ _ (by simpa using opds_ok htm hp) (by simpa using opds_ok htm hq))
  case makeMap t r =>
    cases r <;> simp only [Option.some.injEq, reduceCtorEq] at hc
    subst hc
    simp only [AOp.step, Option.some.injEq, Prod.mk.injEq] at hs
    obtain ⟨rfl, rfl⟩ := hs
    obtain ⟨ρ', own', l, e1, e2, e3, e4⟩ := hr.newMap (cfg := cfg)
    refine ⟨.map (some w.heap.size), _, ρ', own', .inl ?_, e3, by rw [← e2]; exact .map _ _ e1, e4⟩
    simp only [execOp]
    refine exec_v ?_ ()
    simp [Instr.makeMap]
  case makeSlice t l c =>
    split at hc
    case h_2 => cases hc
    rename_i e hu
    simp only [Option.bind_eq_some_iff, Option.map_eq_some_iff] at hc
    obtain ⟨i, hi, z, hz, l', hl', c', hc', rfl⟩ := hc
    exact mkslice_ok htm hr hu hi hz hl' hc' rfl hs
  case slice t x lo hi mx =>
    split at hc
    · rename_i e hu
      simp only [Option.bind_eq_some_iff, Option.map_eq_some_iff] at hc
      obtain ⟨s, hs', x', hx', lo', hlo', hi', hhi', mx', hmx', rfl⟩ := hc
      exact slice_ok htm hr hu hs' hx' hlo' hhi' hmx' rfl hs
    · rename_i hu
      simp only [Option.bind_eq_some_iff] at hc
      obtain ⟨x', hx', lo', hlo', hi', hhi', hc⟩ := hc
      split at hc
      · cases hc
      · rename_i hm
        cases hc
        cases mx with
        | none => exact sliceS_ok htm hr hu hx' hlo' hhi' rfl hs
        | some q => simp at hm
    · cases hc
  case fieldAddr s x f =>
    split at hc
    case h_2 => cases hc
    rename_i fs hu
    simp only [Option.bind_eq_some_iff] at hc
    obtain ⟨g, hg, z, hz, hc⟩ := hc
    split at hc
    · cases hc
    · rename_i hz0
      simp only [Option.map_eq_some_iff] at hc
      obtain ⟨y, hy, rfl⟩ := hc
      simp only [AOp.step] at hs
      split at hs
      case h_2 => cases hs
      rename_i k off he
      simp only [Option.some.injEq, Prod.mk.injEq] at hs
      obtain ⟨rfl, rfl⟩ := hs
      exact faddr_ok htm hr hu hg hz hz0 hy rfl he
  case field t x f =>
    split at hc
    case h_2 => cases hc
    rename_i fs hu
    simp only [Option.bind_eq_some_iff, Option.map_eq_some_iff] at hc
    obtain ⟨g, hg, z, hz, ag, hag, y, hy, rfl⟩ := hc
    have hv := opd_ok htm hy
    simp only [AOp.step] at hs
    split at hs
    case h_2 => cases hs
    rename_i cs he
    simp only [Option.map_eq_some_iff, Prod.mk.injEq] at hs
    obtain ⟨v0, hv0, rfl, rfl⟩ := hs
    rw [he] at hv
    obtain ⟨cs', e2, e3⟩ := hv.agg_inv
    obtain ⟨v', g1, g2⟩ := part_ok hz hag e3 hv0 w
    refine StepOk.pure hr (v' := v') (by
      simp only [execOp]
      refine exec_v ?_ ()
      rw [e2]
      simp only [Instr.field, Sem.run_bind, und_run hu, Result.andThen_ok, hg, asAgg, Sem.run_pure, g1]) g2
  case indexAddr t x i =>
    obtain ⟨x', hx', i', hi', hc⟩ := hc
    exact iaddr_ok htm hr hx' hi' hc rfl hs
  case index t x i =>
    obtain ⟨x', hx', i', hi', hc⟩ := hc
    exact index_ok htm hr hx' hi' hc rfl hs
  case lookup t m k ok =>
    obtain ⟨m', hm', k', hk', hc⟩ := hc
    split at hc
    case h_2 => cases hc
    rename_i kt et hu
    simp only [Option.bind_eq_some_iff, Option.map_eq_some_iff] at hc
    obtain ⟨s, hs', z, hz, rfl⟩ := hc
    exact lookup_ok htm hr hu hs' hz hm' hk' rfl hs
  case mapUpdate t m k v =>
    obtain ⟨m', hm', k', hk', v', hv', hc⟩ := hc
    split at hc
    case h_2 => cases hc
    rename_i kt et hu
    simp only [Option.map_eq_some_iff] at hc
    obtain ⟨s, hs', rfl⟩ := hc
    exact mapupd_ok htm hr hu hs' hm' hk' hv' (.inl rfl) hs
  case insert t m k v =>
    obtain ⟨m', hm', k', hk', v', hv', hc⟩ := hc
    split at hc
    case h_2 => cases hc
    rename_i kt et hu
    simp only [Option.map_eq_some_iff] at hc
    obtain ⟨s, hs', rfl⟩ := hc
    exact mapupd_ok htm hr hu hs' hm' hk' hv' (.inr rfl) hs
  case extract x i =>
    obtain ⟨y, hy, rfl⟩ := hc
    have hv := opd_ok htm hy
    simp only [AOp.step] at hs
    split at hs
    case h_2 => cases hs
    rename_i vs he
    simp only [Option.map_eq_some_iff, Prod.mk.injEq] at hs
    obtain ⟨v0, hv0, rfl, rfl⟩ := hs
    rw [he] at hv
    obtain ⟨vs', e2, e3⟩ := hv.tuple_inv
    obtain ⟨v', g1, g2⟩ := e3.get hv0
    have g1' : vs'[i]? = some v' := by simpa using g1
    refine StepOk.pure hr (v' := v') (by
      simp only [execOp]
      refine exec_v ?_ ()
      rw [e2]
      simp [Instr.extract, g1']) g2
  case call c => exact call_ok hext htm hr hc rfl hs

end
end Go.Abs
