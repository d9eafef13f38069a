/-
  THE OPERATIONS: what a step of the plain form comes to, the loaded operation comes to.
-/
import Derived.Test.YtlecfiofljigbaaA8
import Derived.Laws.Tables
import Derived.Laws.MakeOwn
set_option linter.unusedSimpArgs false
set_option linter.unusedVariables false
set_option linter.unnecessarySimpa false
set_option linter.unusedSectionVars false
namespace Go.Abs
open Go.RowKit

section
variable {D : Type} {P : Program} {cfg : D → HRep} {ρ : Env} {own : Nat → Nat → Prop} {H : AH D} {w : World} {n : Nat} {tm : Nat → Value} {a : Act}

theorem exec_v {α : Type} {s : Sem Value} {v : Value} {w w' : World} (h : s.run P w = .ok v w') (_ : α) : (do pure (Next.value (← s)) : Sem Next).run P w = .ok (.value v) w' := by
  rw [Sem.run_bind, h]; rfl

theorem exec_u {s : Sem Unit} {w w' : World} (h : s.run P w = .ok () w') : (do s; pure Next.skip : Sem Next).run P w = .ok .skip w' := by
  rw [Sem.run_bind, h]; rfl

theorem alloc_ok (hr : Rel P cfg ρ own H w) {e : TypeId} {z : Value} (hz : zeroOf P e = some z) {o : Oper} (ho : o.op = .alloc e) :
    StepOk P cfg ρ own w ((execOp a.eval o).run P w) (.pointer (some ⟨H.next, 0, none⟩)) (H.add (.arr e z.cells.toList)) := by
  obtain ⟨h1, h2, h3, _⟩ := zero_run hz w
  obtain ⟨ρ', own', e1, e2, e3⟩ := hr.newRow (cfg := cfg) e (cs := z.cells.toList) (cs' := z.cells) (by simp) (VRs.take_all (VRs.of_ground ρ _ (by cases z <;> simp_all [ground, grounds, Value.cells]))) h3
  refine ⟨.pointer (some ⟨w.heap.size, 0, none⟩), _, ρ', own', .inl ?_, e2, .ptr _ _ _ e1, e3⟩
  simp [execOp, ho, Instr.alloc, h1, newVar, newRow]

theorem box_ok (htm : TmRel ρ n tm a.tmps) (hr : Rel P cfg ρ own H w) {e : TypeId} {x : Operand} {y : Opd} (hx : opdOf n x = some y) {o : Oper} (ho : o.op = .box e x) (h1 : (y.ev tm).cells.toList.all (·.oneCell') = true) :
    StepOk P cfg ρ own w ((execOp a.eval o).run P w) (.pointer (some ⟨H.next, 0, none⟩)) (H.add (.arr e (y.ev tm).cells.toList)) := by
  have hv := opd_ok htm hx
  obtain ⟨ρ', own', e1, e2, e3⟩ := hr.newRow (cfg := cfg) e (cs := (y.ev tm).cells.toList) (cs' := (a.eval x).cells) (by simpa using Nat.le_of_eq hv.cells.length) (VRs.take_all hv.cells) h1
  refine ⟨.pointer (some ⟨w.heap.size, 0, none⟩), _, ρ', own', .inl ?_, e2, .ptr _ _ _ e1, e3⟩
  simp [execOp, ho, Instr.box, newVar, newRow]

theorem places_run {fs : Array Field} {pl : List (Nat × Nat)} (h : placesOf P fs.toList = some pl) (w : World) :
    (fs.mapM fun (f : Field) => (do pure (f.offset, ← sizeOf f.type) : Sem (Nat × Nat))).run P w = .ok pl.toArray w := by
  rw [Array.mapM_eq_mapM_toList]
  have key : ∀ (l : List Field) (pl : List (Nat × Nat)), placesOf P l = some pl → (l.mapM fun (f : Field) => (do pure (f.offset, ← sizeOf f.type) : Sem (Nat × Nat))).run P w = .ok pl w := by
    intro l
    induction l with
    | nil => intro pl h; simp [placesOf] at h; subst h; rfl
    | cons f l ih =>
      intro pl h
      simp only [placesOf, Option.bind_eq_some_iff, Option.map_eq_some_iff] at h
      obtain ⟨z, hz, r, hr, rfl⟩ := h
      rw [List.mapM_cons, Sem.run_bind, Sem.run_bind, size_run hz, Result.andThen_ok, Sem.run_pure, Result.andThen_ok, Sem.run_bind, ih r hr]; rfl
  rw [Sem.run_map, key _ _ h]; rfl

theorem zero_cells_ground {z : Value} (h : ground z = true) : VRs ρ z.cells.toList z.cells.toList := VRs.of_ground ρ _ (by cases z <;> simp_all [ground, grounds, Value.cells])

theorem build_ok (htm : TmRel ρ n tm a.tmps) (hr : Rel P cfg ρ own H w) {t : TypeId} {z : Value} (hz : zeroOf P t = some z) {parts : Array (Nat × Operand)} {ps : List (Nat × Nat × Opd)}
    (hp : (∃ fs pl, P.underlying t = some (.struct fs) ∧ placesOf P fs.toList = some pl ∧ partsOf n (fun i => pl[i]?) parts.toList = some ps) ∨
      (∃ k e s, P.underlying t = some (.array k e) ∧ szOf P e = some s ∧ partsOf n (fun i => some (i * s, s)) parts.toList = some ps)) {o : Oper} (ho : o.op = .build t parts) {l : List Value}
    (hl : fillL z.cells.toList (ps.map fun p => (p.1, p.2.1, p.2.2.ev tm)) = some l) :
    StepOk P cfg ρ own w ((execOp a.eval o).run P w) (.agg l.toArray) H := by
  obtain ⟨h1, h2, h3, _⟩ := zero_run hz w
  rcases hp with ⟨fs, pl, hu, hpl, hp⟩ | ⟨k, e, s, hu, hs, hp⟩
  · obtain ⟨l', hl', hv⟩ := fill_ok htm parts.toList ps hp z.cells.toList z.cells l (zero_cells_ground h2) hl
    refine StepOk.pure hr (v' := .agg l') ?_ (.agg _ _ (by simpa using hv))
    have hf : (fun (i : Nat) => pl.toArray[i]?) = fun i => pl[i]? := by funext i; simp
    simp only [execOp, ho]
    refine exec_v ?_ ()
    simp only [Instr.build, Sem.run_bind, h1, und_run hu, Result.andThen_ok, places_run hpl, Array.toList_map, hf, hl', Sem.run_pure]
  · obtain ⟨l', hl', hv⟩ := fill_ok htm parts.toList ps hp z.cells.toList z.cells l (zero_cells_ground h2) hl
    refine StepOk.pure hr (v' := .agg l') ?_ (.agg _ _ (by simpa using hv))
    simp only [execOp, ho]
    refine exec_v ?_ ()
    simp only [Instr.build, Sem.run_bind, h1, und_run hu, Result.andThen_ok, size_run hs, Array.toList_map, hl', Sem.run_pure]

theorem cells_rep (z : Array Value) (n s : Nat) (h : z.size = s) : ((Array.range (n * s)).map fun i => z[i % z.size]!).toList = (List.replicate n z.toList).flatten := by
  subst h
  induction n with
  | zero => simp
  | succ n ih =>
    rw [List.replicate_succ', List.flatten_append, ← ih]
    simp only [Array.toList_map, Array.toList_range, List.flatten_cons, List.flatten_nil, List.append_nil]
    rw [Nat.succ_mul, List.range_add, List.map_append]
    congr 1
    apply List.ext_getElem
    · simp
    · intro i h1 h2
      simp only [List.length_map, List.length_range] at h1
      simp only [List.getElem_map, List.getElem_range]
      rw [Nat.add_comm, Nat.add_mul_mod_self_right, Nat.mod_eq_of_lt h1]
      simp [h1]

theorem rep_ground {z : Value} (h : ground z = true) (m : Nat) : VRs ρ (List.replicate m z.cells.toList).flatten (List.replicate m z.cells.toList).flatten := by
  induction m with
  | zero => exact .nil
  | succ m ih => rw [List.replicate_succ, List.flatten_cons]; exact (zero_cells_ground h).append ih

theorem rep_one {z : Value} (h : z.cells.toList.all (·.oneCell') = true) (m : Nat) : ((List.replicate m z.cells.toList).flatten).all (·.oneCell') = true := by
  rw [List.all_eq_true] at h ⊢
  intro x hx
  simp only [List.mem_flatten, List.mem_replicate] at hx
  obtain ⟨l, ⟨_, rfl⟩, hx⟩ := hx
  exact h x hx

theorem bslice_ok (htm : TmRel ρ n tm a.tmps) (hr : Rel P cfg ρ own H w) {t e : TypeId} (ht : P.underlying t = some (.slice e)) {s : Nat} (hs : szOf P e = some s) {z : Value} (hz : zeroOf P e = some z) {len : Nat} (hlen : len ≤ 16777216 ∧ len * s ≤ 16777216)
    {parts : Array (Nat × Operand)} {ps : List (Nat × Nat × Opd)} (hp : partsOf n (fun i => some (i * s, s)) parts.toList = some ps) {o : Oper} (ho : o.op = .buildSlice t len parts) {l : List Value}
    (hl : fillL (List.replicate len z.cells.toList).flatten (ps.map fun p => (p.1, p.2.1, p.2.2.ev tm)) = some l) (h1 : l.all (·.oneCell') = true) :
    StepOk P cfg ρ own w ((execOp a.eval o).run P w) (.slice (some ⟨H.next, 0, none⟩) len 1) (H.add (.arr e l)) := by
  obtain ⟨z1, z2, z3, z4⟩ := zero_run hz w
  have hzs : z.cells.size = s := by rw [hs] at z4; simpa using z4.symm
  obtain ⟨l', hl', hv⟩ := fill_ok htm parts.toList ps hp _ ((Array.range (len * s)).map fun i => z.cells[i % z.cells.size]!) l (by rw [cells_rep _ _ _ hzs]; exact rep_ground z2 len) hl
  have hll : l.length = len * s := by
    have : ∀ (q : List (Nat × Nat × Value)) (c l : List Value), fillL c q = some l → l.length = c.length := by
      intro q
      induction q with
      | nil => intro c l h; simp [fillL] at h; rw [h]
      | cons p q ih =>
        intro c l h
        obtain ⟨a1, a2, a3⟩ := p
        simp only [fillL] at h
        split at h
        · cases h
        · rw [ih _ _ h, setMany_length]
    rw [this _ _ _ hl]
    rw [← cells_rep z.cells len s hzs]; simp
  have hsz : l'.size = len * s := by have := hv.length; simp at this; omega
  obtain ⟨ρ', own', e1, e2, e3⟩ := hr.newRow (cfg := cfg) e (cs := l) (cs' := l') (by rw [hll, hsz]; exact Nat.le_refl _) (VRs.take_all hv) h1
  refine ⟨.slice (some ⟨w.heap.size, 0, none⟩) len len, _, ρ', own', .inl ?_, e2, .slice _ _ _ _ _ _ _ e1 (Nat.le_refl _) (fun _ => rfl) (fun _ => ⟨rfl, rfl, rfl, by rw [cellsOf_eq hs, hsz], ?_⟩) (fun q hq => by omega), e3⟩
  · have hz' : ¬ (len * s > 2 ^ 24) := by omega
    simp only [execOp, ho]
    refine exec_v ?_ ()
    simp only [Instr.buildSlice, Sem.run_bind, und_run ht, size_run hs, Result.andThen_ok, if_neg hz']
    by_cases h0 : len * s = 0
    · have e0 : ∀ f : Nat → Value, (Array.range (len * s)).map f = #[] := fun f => by rw [h0]; simp
      rw [e0] at hl'
      simp only [if_pos h0, Sem.run_pure, Result.andThen_ok, e0, Array.toList_map, hl', newRow, Sem.run_bind, run_newObj, World.alloc_eq]
    · simp only [if_neg h0, Sem.run_bind, z1, Sem.run_pure, Result.andThen_ok, Array.toList_map, hl', newRow, run_newObj, World.alloc_eq]
  · simp only [maxLen]; omega

theorem load_ok (htm : TmRel ρ n tm a.tmps) (hr : Rel P cfg ρ own H w) {t : TypeId} (hg : aggOf P t = some false) {x : Operand} {y : Opd} (hx : opdOf n x = some y) {o : Oper} (ho : o.op = .load t x) {k off : Nat} (he : y.ev tm = .pointer (some ⟨k, off, none⟩))
    {cs : List Value} (hk : H.row k = some cs) {v : Value} (hv : cs[off]? = some v) : StepOk P cfg ρ own w ((execOp a.eval o).run P w) v H := by
  have hxv := opd_ok htm hx
  rw [he] at hxv
  obtain ⟨l, e1, e2⟩ := hxv.ptr_inv
  obtain ⟨l', cs', f1, f2, f3, f4⟩ := hr.row hk (fun e => by rw [e] at hv; simp at hv)
  rw [e1] at f1; cases f1
  obtain ⟨v', g1, g2⟩ := f2.get hv
  refine StepOk.pure hr (v' := v') ?_ g2
  simp only [execOp, ho]
  refine exec_v ?_ ()
  simp only [Instr.loadAt, e2, Instr.sureAddr, loadVar, Sem.run_bind, Sem.run_pure, Result.andThen_ok, agg_run hg, Bool.false_eq_true, if_false, run_load, f4 _ _ g1]

theorem loadN_ok (htm : TmRel ρ n tm a.tmps) (hr : Rel P cfg ρ own H w) {t : TypeId} (hg : aggOf P t = some true) {s : Nat} (hs : szOf P t = some s) {x : Operand} {y : Opd} (hx : opdOf n x = some y) {o : Oper} (ho : o.op = .load t x) {k off : Nat} (he : y.ev tm = .pointer (some ⟨k, off, none⟩))
    {l : List Value} (hk : H.many k off s = some l) : StepOk P cfg ρ own w ((execOp a.eval o).run P w) (.agg l.toArray) H := by
  have hxv := opd_ok htm hx
  rw [he] at hxv
  obtain ⟨lc, e1, e2⟩ := hxv.ptr_inv
  have hlen := AH.many_length hk
  by_cases hne : l = []
  · subst hne
    have hs0 : s = 0 := by rw [← hlen]; rfl
    subst hs0
    refine StepOk.pure hr (v' := .agg #[]) ?_ (.agg _ _ .nil)
    simp only [execOp, ho]
    refine exec_v ?_ ()
    simp [Instr.loadAt, e2, Instr.sureAddr, loadVar, Sem.run_bind, Sem.run_pure, Result.andThen_ok, agg_run hg, size_run hs, loadCells, loadCellsFrom]
  obtain ⟨l', cs', f1, f2, f3, f4, f5⟩ := hr.many hk hne
  rw [e1] at f1; cases f1
  refine StepOk.pure hr (v' := .agg cs'.toArray) ?_ (.agg _ _ (by simpa using f2))
  have hlc := run_loadCells_list (P := P) w ⟨lc.b, lc.base + off, none⟩ cs' f5
  rw [← f2.length, f3] at hlc
  simp only [execOp, ho]
  refine exec_v ?_ ()
  simp only [Instr.loadAt, e2, Instr.sureAddr, loadVar, Sem.run_bind, Sem.run_pure, Result.andThen_ok, agg_run hg, if_true, size_run hs, hlc]

theorem store_ok (htm : TmRel ρ n tm a.tmps) (hr : Rel P cfg ρ own H w) {t : TypeId} {s : Nat} (hs : szOf P t = some s) {x u : Operand} {y z : Opd} (hx : opdOf n x = some y) (hu : opdOf n u = some z) {o : Oper} (ho : o.op = .store t x u) {k off : Nat} (he : y.ev tm = .pointer (some ⟨k, off, none⟩))
    {e : TypeId} {cs : List Value} (hk : H.get k = some (.arr e cs)) (h1 : (z.ev tm).cells.size = s) (h2 : off + s ≤ cs.length) (h3 : (z.ev tm).cells.toList.all (·.oneCell') = true) :
    StepOk P cfg ρ own w ((execOp a.eval o).run P w) undef (H.upd k (.arr e (setMany cs off (z.ev tm).cells.toList))) := by
  have hxv := opd_ok htm hx
  rw [he] at hxv
  obtain ⟨lc, e1, e2⟩ := hxv.ptr_inv
  have huv := opd_ok htm hu
  obtain ⟨lc', w', f1, f2, f3, f4⟩ := hr.storeRow hk (l := (z.ev tm).cells.toList) (l' := (a.eval u).cells.toList) huv.cells h3 (o := off) (by simp; omega)
  rw [e1] at f1; cases f1
  refine ⟨undef, w', ρ, own, .inr ⟨?_, rfl⟩, f3, VR.undef ρ, f4⟩
  have hsz : ¬ (a.eval u).cells.size ≠ s := by rw [← huv.cells_size, h1]; simp
  simp only [execOp, ho]
  refine exec_u ?_
  simp only [Instr.storeAt, e2, Instr.sureAddr, storeVar, Sem.run_bind, Sem.run_pure, Result.andThen_ok, size_run hs, if_neg hsz, f2]

theorem slice_ok (htm : TmRel ρ n tm a.tmps) (hr : Rel P cfg ρ own H w) {t e : TypeId} (ht : P.underlying t = some (.slice e)) {s : Nat} (hs : szOf P e = some s) {x : Operand} {lo hi mx : Option Operand} {y : Opd} {lo' hi' mx' : Option Opd} (hx : opdOf n x = some y)
    (hlo : optOpd n lo = some lo') (hhi : optOpd n hi = some hi') (hmx : optOpd n mx = some mx') {o : Oper} (ho : o.op = .slice t x lo hi mx) {v : Value} {H' : AH D} (hstep : (AOp.slice s y lo' hi' mx').step tm H = some (v, H')) :
    StepOk P cfg ρ own w ((execOp a.eval o).run P w) v H' := by
  have hxv := opd_ok htm hx
  have opt : ∀ {p : Option Operand} {p' : Option Opd}, optOpd n p = some p' → (p' = none ↔ p = none) ∧ ∀ q', p' = some q' → ∃ q, p = some q ∧ VR ρ (q'.ev tm) (a.eval q) := by
    intro p p' h
    cases p with
    | none => simp [optOpd] at h; subst h; exact ⟨by simp, fun q h => by cases h⟩
    | some q =>
      simp only [optOpd, Option.map_eq_some_iff] at h
      obtain ⟨z, hz, rfl⟩ := h
      exact ⟨by simp, fun q' hq => by cases hq; exact ⟨q, rfl, opd_ok htm hz⟩⟩
  obtain ⟨lo1, lo2⟩ := opt hlo
  obtain ⟨hi1, hi2⟩ := opt hhi
  obtain ⟨mx1, mx2⟩ := opt hmx
  simp only [AOp.step] at hstep
  split at hstep
  case h_2 => cases hstep
  rename_i A n0 c he
  rw [he] at hxv
  split at hstep
  case h_2 => cases hstep
  rename_i h hh
  split at hstep
  case h_2 => cases hstep
  rename_i m hm
  split at hstep
  case h_2 => cases hstep
  rename_i l hl
  split at hstep
  case isFalse => cases hstep
  rename_i hc
  -- the bounds, as the world reckons them
  have key : ∀ cc, n0 ≤ cc → ∃ m', (Instr.sliceBounds true n0 cc (lo.map a.eval) (hi.map a.eval) (mx.map a.eval)).run P w = .ok (l, h, m') w ∧ h ≤ m' ∧ l ≤ h ∧ h ≤ n0 ∧ (mx'.isSome = true → m' = m) ∧ (mx'.isSome = false → m' = cc) := by
    intro cc hcc
    have L : ∀ code, (match lo.map a.eval with | some v => Instr.sliceBound v h code | none => pure 0 : Sem Nat).run P w = .ok l w ∧ l ≤ h := by
      intro code
      cases hlo' : lo' with
      | none => rw [lo1.1 hlo']; rw [hlo'] at hl; simp at hl; subst hl; exact ⟨rfl, by omega⟩
      | some q' =>
        obtain ⟨q, hq, hqv⟩ := lo2 q' hlo'
        rw [hq]; rw [hlo'] at hl
        exact bound_ok (P := P) hl hqv (Nat.le_refl _) _ w
    cases hmx' : mx' with
    | none =>
      rw [mx1.1 hmx']
      rw [hmx'] at hm; simp at hm; subst hm
      cases hhi' : hi' with
      | none =>
        rw [hi1.1 hhi']; rw [hhi'] at hh; simp at hh; subst hh
        refine ⟨cc, ?_, hcc, (L .sliceB).2, Nat.le_refl _, by simp, by simp⟩
        have := (L .sliceB).1
        revert this
        generalize lo.map a.eval = LO
        intro this
        cases LO <;> simp_all [Instr.sliceBounds]
      | some q' =>
        obtain ⟨q, hq, hqv⟩ := hi2 q' hhi'
        rw [hq]; rw [hhi'] at hh
        obtain ⟨b1, b2⟩ := bound_ok (P := P) hh hqv hcc .sliceAcap w
        refine ⟨cc, ?_, by omega, (L .sliceB).2, b2, by simp, by simp⟩
        have := (L .sliceB).1
        revert this
        generalize lo.map a.eval = LO
        intro this
        cases LO <;> simp_all [Instr.sliceBounds]
    | some p' =>
      obtain ⟨p, hp, hpv⟩ := mx2 p' hmx'
      rw [hp]; rw [hmx'] at hm
      simp only at hm
      obtain ⟨b1, b2⟩ := bound_ok (P := P) hm hpv hcc .slice3Acap w
      rw [hmx'] at hc
      simp at hc
      cases hhi' : hi' with
      | none => rw [hhi'] at hc; simp at hc
      | some q' =>
        obtain ⟨q, hq, hqv⟩ := hi2 q' hhi'
        rw [hq]; rw [hhi'] at hh
        simp only at hh
        have hle : h ≤ n0 := (bound_ok (P := P) hh hqv (Nat.le_refl _) .slice3B w).2
        have b3 : (Instr.sliceBound (a.eval q) m .slice3B).run P w = .ok h w := by
          have hb : bound m (q'.ev tm) = some h := by
            unfold bound at hh ⊢
            split at hh
            · split at hh
              · rename_i hi0; cases hh; rw [if_pos ⟨hi0.1, by omega⟩]
              · cases hh
            · cases hh
          exact (bound_ok (P := P) hb hqv (Nat.le_refl _) _ w).1
        refine ⟨m, ?_, hc.1, (L .slice3C).2, hle, by simp, by simp⟩
        have := (L .slice3C).1
        revert this
        generalize lo.map a.eval = LO
        intro this
        cases LO <;> simp_all [Instr.sliceBounds]
  split at hstep
  · rename_i k off
    rcases hxv.slice_inv with ⟨o', cc, lc, f1, f2, f3, f4, f5, e2⟩ | ⟨rfl, rfl, hc1, a0, c0, e2, hnil⟩
    case inr =>
      obtain ⟨m', k1, k2, k3, k4, k5, k6⟩ := key c0 (Nat.zero_le _)
      simp only [Option.some.injEq, Prod.mk.injEq] at hstep
      obtain ⟨rfl, rfl⟩ := hstep
      have hnm : mx'.isSome = false := by
        rcases hc.2 with h | h
        · simpa using h
        · omega
      have hm0 : m' = c0 := k6 hnm
      have hl0 : l = 0 := by omega
      have hh0 : h = 0 := by omega
      subst hm0; subst hl0; subst hh0
      refine StepOk.pure hr (v' := .slice a0 0 m') ?_ ?_
      · simp only [execOp, ho]
        refine exec_v ?_ ()
        cases a0 with
        | none =>
          obtain ⟨_, rfl⟩ := hnil (.inr rfl)
          simp only [Instr.sliceAt, Instr.slice, Sem.run_bind, und_run ht, Result.andThen_ok, e2, k1, size_run hs, Sem.run_pure]
          rfl
        | some a0 =>
          simp only [Instr.sliceAt, Instr.slice, Sem.run_bind, und_run ht, Result.andThen_ok, e2, k1, size_run hs, Sem.run_pure]
          split <;> simp [Addr.add]
      · rw [hnm]
        simpa using VR.slicen _ _ a0 m' hc1 hnil
    obtain ⟨m', k1, k2, k3, k4, k5, k6⟩ := key cc f2
    simp only [Option.some.injEq, Prod.mk.injEq] at hstep
    obtain ⟨rfl, rfl⟩ := hstep
    refine StepOk.pure hr (v' := .slice (some (if m' = l then ⟨lc.b, o', none⟩ else (⟨lc.b, o', none⟩ : Addr).add (l * s))) (h - l) (m' - l)) ?_ ?_
    · simp only [execOp, ho]
      refine exec_v ?_ ()
      simp only [Instr.sliceAt, Instr.slice, Sem.run_bind, und_run ht, Result.andThen_ok, e2, k1, size_run hs, Sem.run_pure]
      split <;> rfl
    · have hadd : (if m' = l then (⟨lc.b, o', none⟩ : Addr) else (⟨lc.b, o', none⟩ : Addr).add (l * s)) = ⟨lc.b, if m' = l then o' else o' + l * s, none⟩ := by
        split
        · rfl
        · rw [Addr.add_lit]
      rw [hadd]
      refine .slice _ _ _ _ _ _ _ f1 (by omega) (fun hpos => ?_) (fun h1 => ?_) (fun q hq => ?_)
      · rw [if_neg (by omega), f3 (by omega)]; omega
      · split at h1
        · omega
        · split at h1
          · rename_i hms hl0
            subst hl0
            obtain ⟨g1, g2, g3, g4, g5⟩ := f4 h1
            have hmc : m' = cc := k6 (by simpa using hms)
            subst hmc
            exact ⟨by omega, by split <;> omega, g3, by simpa using g4, by simpa using g5⟩
          · omega
      · split at hq
        · rename_i hms
          have := k5 hms; omega
        · split at hq
          · rename_i hms hl0
            have := f5 q hq
            have hmc : m' = cc := k6 (by simpa using hms)
            omega
          · omega
  · split at hstep
    · rename_i hnil
      obtain ⟨rfl, rfl, hnm⟩ := hnil
      have e2 : a.eval x = .slice none 0 0 := by
        revert hxv
        generalize a.eval x = X
        intro hxv
        cases hxv; rfl
      obtain ⟨m', k1, k2, k3, k4, k5, k6⟩ := key 0 (Nat.le_refl _)
      simp only [Option.some.injEq, Prod.mk.injEq] at hstep
      obtain ⟨rfl, rfl⟩ := hstep
      have hm0 : m' = 0 := k6 (by simpa using hnm)
      have hl0 : l = 0 := by omega
      have hh0 : h = 0 := by omega
      subst hm0; subst hl0; subst hh0
      refine StepOk.pure hr (v' := .slice none 0 0) ?_ .nils
      simp only [execOp, ho]
      refine exec_v ?_ ()
      simp only [Instr.sliceAt, Instr.slice, Sem.run_bind, und_run ht, Result.andThen_ok, e2, k1, size_run hs, Sem.run_pure]
      rfl
    · cases hstep
  · cases hstep

end
end Go.Abs
