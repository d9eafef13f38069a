/-
  One operation, with its guard, calls and panics: from the plain form to the world.
-/
import Derived.Test.YtlecfiofljigbaaA13
set_option linter.unusedSimpArgs false
set_option linter.unusedVariables false
set_option linter.unnecessarySimpa false
set_option linter.unusedSectionVars false
namespace Go.Abs
open Go.RowKit

section
variable {D : Type} (P : Program) (cfg : D → HRep)

def EndR (ρ : Env) : AEnd → Ending → Prop
  | .ret v, .returned v' => VR ρ v v'
  | .pan v, .panicked c => ∃ v', c = [{ v := v', recovered := false }] ∧ VR ρ v v'
  | _, _ => False

/-- What stands behind a call, and its heap. -/
def Post (ρ : Env) (own : Nat → Nat → Prop) (w : World) (K : AEnd → AH D → Prop) (e : Ending) (w' : World) : Prop :=
  ∃ r H' ρ' own', K r H' ∧ Ext ρ own w ρ' own' w' ∧ EndR ρ' r e ∧ Rel P cfg ρ' own' H' w'

/-- A call that comes to what K says. -/
def Runs (f : FuncId) (args : List Value) (H : AH D) (K : AEnd → AH D → Prop) : Prop :=
  (∀ args w, (callFunc f args).run P w = .ok (.enter f args) w) ∧
  ∀ ρ own w args', Rel P cfg ρ own H w → VRs ρ args args'.toList → Calls P f args' w (Post P cfg ρ own w K)

def CallOk (C : CallT D) : Prop := ∀ f args H K, C f args H K → Runs P cfg f args H K

/-- A frame and a heap are others, too: keys below N keep their places. -/
def semV : ViewT D := fun N tm H tm2 H2 => ∀ ρ own w, Rel P cfg ρ own H w → ∃ ρ2 own2, Rel P cfg ρ2 own2 H2 w ∧ (∀ i, i < N → ∀ x, ρ.loc i = some x → ρ2.loc i = some x) ∧ (∀ b, (∃ j, own2 j b) → ∃ j, own j b) ∧ ∀ t v, VR ρ (tm t) v → VR ρ2 (tm2 t) v
/-- A heap is another one, too; all keys' places stay. -/
def SeesG (H H2 : AH D) : Prop := ∀ ρ own w, Rel P cfg ρ own H w → ∃ ρ2 own2, Rel P cfg ρ2 own2 H2 w ∧ ρ.le ρ2 ∧ ∀ b, (∃ j, own2 j b) → ∃ j, own j b
def ViewOk (V : ViewT D) : Prop := ∀ N tm H tm2 H2, V N tm H tm2 H2 → semV P cfg N tm H tm2 H2

structure SgOk (C : Sg D) : Prop where
  call : CallOk P cfg C.call
  opn : ∀ H k H1, C.opn H k = some H1 → SeesG P cfg H H1
  see : ∀ H H1, C.see H H1 → SeesG P cfg H H1
  view : ViewOk P cfg C.view

structure ExtOk (ext : FuncId → Option Ext1) : Prop where
  run : ∀ f x, ext f = some x → ∀ args w, (callFunc f args).run P w = ((x.sem args).run P w).andThen fun v w' => .ok (.value v) w'

theorem Runs.mono {P : Program} {cfg : D → HRep} {f : FuncId} {args : List Value} {H : AH D} {K K' : AEnd → AH D → Prop} (h : Runs P cfg f args H K) (hk : ∀ r H', K r H' → K' r H') : Runs P cfg f args H K' :=
  ⟨h.1, fun ρ own w args' hr hv => (h.2 ρ own w args' hr hv).mono fun _ _ ⟨r, H', ρ', own', h1, h2⟩ => ⟨r, H', ρ', own', hk _ _ h1, h2⟩⟩

variable {P} {cfg}
variable {C : CallT D} {ext : FuncId → Option Ext1} {n : Nat} {ρ : Env} {own : Nat → Nat → Prop} {H : AH D} {w : World} {tm : Nat → Value} {a : Act}

theorem wp_of_step {o : Oper} {v : Value} {H' : AH D} (h : StepOk P cfg ρ own w ((execOp a.eval o).run P w) v H') {K' : Act → World → Prop} {Q : Exit → Act → World → Prop}
    (hK : ∀ v' w' ρ' own', Ext ρ own w ρ' own' w' → VR ρ' v v' → Rel P cfg ρ' own' H' w' → K' (a.put o.dst v') w') : o.wp P a w K' Q := by
  obtain ⟨v', w', ρ', own', h1, h2, h3, h4⟩ := h
  unfold Oper.wp
  rcases h1 with h1 | ⟨h1, rfl⟩
  · rw [h1]; exact hK _ _ _ _ h2 h3 h4
  · rw [h1]; exact hK _ _ _ _ h2 h3 h4

theorem wp_of_call (hC : CallOk P cfg C) (htm : TmRel ρ n tm a.tmps) (hr : Rel P cfg ρ own H w) {o : Oper} {c : Call} (ho : o.op = .call c) {g : Operand} (hg : c.callee = .value g) {f : Opd} (hf : opdOf n g = some f) {args : List Opd} (hargs : opdsOf n c.args.toList = some args)
    {K : Value → AH D → Prop} {E : Value → AH D → Prop} (h : (AK.call f args).wp C tm H K E) {K' : Act → World → Prop} {Q : Exit → Act → World → Prop}
    (hK : ∀ v H' v' w' ρ' own', K v H' → Ext ρ own w ρ' own' w' → VR ρ' v v' → Rel P cfg ρ' own' H' w' → K' (a.put o.dst v') w')
    (hE : ∀ v H' v' w' ρ' own', E v H' → Ext ρ own w ρ' own' w' → VR ρ' v v' → Rel P cfg ρ' own' H' w' → Q (.panic [{ v := v', recovered := false }]) a w') : o.wp P a w K' Q := by
  have hfv := opd_ok htm hf
  have hav := opds_ok htm hargs
  simp only [AK.wp] at h
  split at h
  case h_2 => exact h.elim
  rename_i fid x y he
  rw [he] at hfv
  have hge : ∃ x' y', a.eval g = .func (.func fid) x' y' ∧ VRs ρ x.toList x'.toList ∧ VRs ρ y.toList y'.toList := by
    revert hfv
    generalize a.eval g = G
    intro hfv
    cases hfv
    exact ⟨_, _, rfl, ‹_›, ‹_›⟩
  obtain ⟨x', y', hge, hx, hy⟩ := hge
  obtain ⟨hin, hcalls⟩ := hC _ _ _ _ h
  have hrun : (execOp a.eval o).run P w = .ok (.enter fid (x' ++ c.args.map a.eval ++ y')) w := by
    obtain ⟨callee, cargs, ts⟩ := c
    simp only at hg
    subst hg
    simp only [execOp, ho, resolve, Sem.run_bind, Sem.run_pure, Result.andThen_ok, hge, Deferred.ofValue, invoke]
    exact hin _ w
  unfold Oper.wp
  rw [hrun, Oper.upon_enter]
  refine (hcalls ρ own w _ hr (by simpa using (hx.append hav).append hy)).mono ?_
  rintro e w' ⟨r, H', ρ', own', h1, h2, h3, h4⟩
  cases r <;> cases e <;> simp only [EndR] at h3
  · exact hK _ _ _ _ _ _ h1 h2 h3 h4
  · obtain ⟨v', rfl, hv⟩ := h3
    exact hE _ _ _ _ _ _ h1 h2 hv h4

/-- An operation without its guard. -/
theorem op_wp_ok (hC : CallOk P cfg C) (hext : ExtOk P ext) (htm : TmRel ρ n tm a.tmps) (hr : Rel P cfg ρ own H w) {o : Oper} {op : AK} (hc : compK P ext n o = some op) {K : Value → AH D → Prop} {E : Value → AH D → Prop} (h : op.wp C tm H K E)
    {K' : Act → World → Prop} {Q : Exit → Act → World → Prop}
    (hK : ∀ v H' v' w' ρ' own', K v H' → Ext ρ own w ρ' own' w' → VR ρ' v v' → Rel P cfg ρ' own' H' w' → K' (a.put o.dst v') w')
    (hE : ∀ v H' v' w' ρ' own', E v H' → Ext ρ own w ρ' own' w' → VR ρ' v v' → Rel P cfg ρ' own' H' w' → Q (.panic [{ v := v', recovered := false }]) a w') :
    o.wp P a w K' Q := by
  have plain : ∀ {op : AK}, (compOp P ext n o).map .op = some op → op.wp C tm H K E → o.wp P a w K' Q := by
    intro op hc h
    simp only [Option.map_eq_some_iff] at hc
    obtain ⟨op', hc', rfl⟩ := hc
    simp only [AK.wp] at h
    split at h
    · rename_i v H' hs
      exact wp_of_step (step_ok hext.run htm hr hc' hs) fun v' w' ρ' own' h1 h2 h3 => hK _ _ _ _ _ _ h h1 h2 h3
    · exact h.elim
  unfold compK at hc
  split at hc
  · rename_i c ho
    split at hc
    · rename_i f hf
      split at hc
      · exact plain hc h
      · simp only [Option.map_eq_some_iff] at hc
        obtain ⟨ys, hys, rfl⟩ := hc
        exact wp_of_call hC htm hr ho hf rfl hys h hK hE
    · rename_i f _ hf
      simp only [Option.bind_eq_some_iff, Option.map_eq_some_iff] at hc
      obtain ⟨g, hg, ys, hys, rfl⟩ := hc
      exact wp_of_call hC htm hr ho hf hg hys h hK hE
    · exact plain hc h
  · rename_i x ho
    simp only [Option.map_eq_some_iff] at hc
    obtain ⟨y, hy, rfl⟩ := hc
    have hv := opd_ok htm hy
    simp only [AK.wp] at h
    split at h
    case h_2 => exact h.elim
    rename_i t v he
    rw [he] at hv
    have hxe : ∃ v', a.eval x = .iface t v' ∧ VR ρ (.iface t v) (.iface t v') := by
      revert hv
      generalize a.eval x = X
      intro hv
      cases hv
      exact ⟨_, rfl, .iface _ _ _ ‹_›⟩
    obtain ⟨v', hxe, hvv⟩ := hxe
    unfold Oper.wp
    have hrun : (execOp a.eval o).run P w = .halt (.panic (.iface t v')) w := by
      simp only [execOp, ho, Sem.run_bind, hxe, Instr.panic, run_goPanic, Result.andThen_halt]
    rw [hrun, Oper.upon_panic]
    exact hE _ _ _ _ _ _ h (Ext.refl _ _ _) hvv hr
  · exact plain hc h

theorem put_rel {ρ' : Env} (htm : TmRel ρ' n tm a.tmps) (d : Option Nat) {v v' : Value} (hv : VR ρ' v v') : TmRel ρ' n (putD d tm v) (a.put d v').tmps := by
  cases d with
  | none => exact htm
  | some d => exact htm.put hv

theorem put_defers (a : Act) (d : Option Nat) (v : Value) : (a.put d v).defers = a.defers := by cases d <;> rfl

/-- The guard, as the world has it. -/
theorem guard_of (htm : TmRel ρ n tm a.tmps) {ops : Array Oper} {o : Oper} {i : AIns} (hi : compIns P ext n ops o = some i) :
    compK P ext n o = some i.op ∧ i.dst = o.dst ∧ (∀ d, i.dst = some d → d < n) ∧
    (i.guard = none → Region.wanted o (yielded ops a.tmps) = true) ∧
    (∀ t want b, i.guard = some (t, want) → tm t = .bool b → t < n ∧ (Region.wanted o (yielded ops a.tmps) = decide (b = want))) ∧ (∀ t want, i.guard = some (t, want) → t < n) := by
  simp only [compIns, Option.bind_eq_some_iff] at hi
  obtain ⟨op, hop, hi⟩ := hi
  split at hi
  case isFalse => cases hi
  rename_i hd
  have hd' : ∀ d, o.dst = some d → d < n := fun d hd2 => by simpa [hd2] using hd
  split at hi
  · rename_i hg
    cases hi
    refine ⟨hop, rfl, hd', fun _ => by simp [Region.wanted, hg], fun _ _ _ h => ?_, fun _ _ h => ?_⟩ <;> cases h
  · rename_i j want hg
    split at hi
    case h_2 => cases hi
    rename_i t ht
    split at hi
    case isFalse => cases hi
    rename_i htn
    cases hi
    refine ⟨hop, rfl, hd', (by rintro ⟨⟩), fun t' want' b h hb => ?_, fun t' want' h => by cases h; exact htn⟩
    simp only [Option.some.injEq, Prod.mk.injEq] at h
    obtain ⟨rfl, rfl⟩ := h
    refine ⟨htn, ?_⟩
    have hv := htm.2 t htn
    rw [hb] at hv
    have hv := hv.bool_eq
    have hsz : t < a.tmps.size := by rw [htm.1]; exact htn
    have hx : a.tmps[t]? = some (.bool b) := by
      rw [Array.getElem?_eq_getElem hsz]
      simp [hsz] at hv
      rw [hv]
    simp [Region.wanted, hg, yielded, ht, hx]
    cases b <;> cases want <;> rfl

/-- AN OPERATION. -/
theorem ins_ok (hC : CallOk P cfg C) (hext : ExtOk P ext) (htm : TmRel ρ n tm a.tmps) (hr : Rel P cfg ρ own H w) {ops : Array Oper} {o : Oper} {i : AIns} (hi : compIns P ext n ops o = some i) {K : (Nat → Value) → AH D → Prop} {E : Value → AH D → Prop} (h : i.wp C tm H K E)
    {K' : Act → World → Prop} {Q : Exit → Act → World → Prop}
    (hK : ∀ v H' v' w' ρ' own', K (putD i.dst tm v) H' → Ext ρ own w ρ' own' w' → VR ρ' v v' → Rel P cfg ρ' own' H' w' → K' (a.put o.dst v') w')
    (hE : ∀ v H' v' w' ρ' own', E v H' → Ext ρ own w ρ' own' w' → VR ρ' v v' → Rel P cfg ρ' own' H' w' → Q (.panic [{ v := v', recovered := false }]) a w') :
    if Region.wanted o (yielded ops a.tmps) then o.wp P a w K' Q else K' (a.put o.dst undef) w := by
  obtain ⟨h1, h2, h3, h4, h5, _⟩ := guard_of htm hi
  unfold AIns.wp at h
  split at h
  · rename_i hg
    rw [if_pos (h4 hg)]
    exact op_wp_ok hC hext htm hr h1 h hK hE
  · rename_i t want hg
    split at h
    case h_2 => exact h.elim
    rename_i b hb
    obtain ⟨_, hw⟩ := h5 t want b hg hb
    rw [hw]
    split at h
    · rename_i hbw
      rw [if_pos (by simpa using hbw)]
      exact op_wp_ok hC hext htm hr h1 h hK hE
    · rename_i hbw
      rw [if_neg (by simpa using hbw)]
      exact hK _ _ _ _ _ _ h (Ext.refl _ _ _) (VR.undef ρ) hr

theorem SeesG.refl (H : AH D) : SeesG P cfg H H := fun ρ own _ h => ⟨ρ, own, h, ρ.le_refl, fun _ h => h⟩
theorem prep_ok {C : Sg D} (hC : SgOk P cfg C) (H : AH D) (k : Option Nat) : SeesG P cfg H (prep C.opn H k) := by
  unfold prep
  split
  · rename_i k
    cases hk : C.opn H k with
    | none => exact SeesG.refl H
    | some H1 => exact hC.opn H k H1 hk
  · exact SeesG.refl H
theorem SeesG.trans {H H2 H3 : AH D} (h : SeesG P cfg H H2) (k : SeesG P cfg H2 H3) : SeesG P cfg H H3 := fun ρ own w hr => by
  obtain ⟨ρ2, own2, a1, a2, a3⟩ := h ρ own w hr
  obtain ⟨ρ3, own3, b1, b2, b3⟩ := k ρ2 own2 w a1
  exact ⟨ρ3, own3, b1, Env.le_trans a2 b2, fun b hb => a3 b (b3 b hb)⟩
theorem walkD_ok {C : Sg D} (hC : SgOk P cfg C) : ∀ (t : DT) (tm : Nat → Value) (H : AH D), SeesG P cfg H (walkD C.opn t tm H)
  | .nil, tm, H => SeesG.refl H
  | .loud .., tm, H => SeesG.refl H
  | .both .., tm, H => SeesG.refl H
  | .bad, tm, H => SeesG.refl H
  | .quiet ⟨d, .call .., g⟩ t, tm, H => SeesG.refl H
  | .quiet ⟨d, .panic .., g⟩ t, tm, H => SeesG.refl H
  | .quiet ⟨d, .op o, some g⟩ t, tm, H => SeesG.refl H
  | .quiet ⟨d, .op o, none⟩ t, tm, H => by
    unfold walkD
    split
    · exact (prep_ok hC H _).trans (walkD_ok hC t _ _)
    · exact prep_ok hC H _
theorem SeesG.toExt {H H1 : AH D} {ρ ρ2 : Env} {own own2 : Nat → Nat → Prop} {w : World} (hle : ρ.le ρ2) (hown : ∀ b, (∃ j, own2 j b) → ∃ j, own j b) : Ext ρ own w ρ2 own2 w :=
  ⟨hle, fun j b hb => .inl (hown b ⟨j, hb⟩), Nat.le_refl _, fun _ _ _ => rfl, rfl, rfl, rfl⟩

/-- A straight region. -/
theorem insL_ok {C : Sg D} (hC : SgOk P cfg C) (hext : ExtOk P ext) {ops : Array Oper} {Q : Exit → Act → World → Prop} : ∀ (l : List Oper) (is : List AIns) (_ : compInsL P ext n ops l = some is) (ρ : Env) (own : Nat → Nat → Prop) (H : AH D) (w : World) (tm : Nat → Value) (a : Act)
    (_ : TmRel ρ n tm a.tmps) (_ : Rel P cfg ρ own H w) (K : (Nat → Value) → AH D → Prop) (E : Value → (Nat → Value) → AH D → Prop) (_ : insL C is tm H K E)
    (_ : ∀ tm' H' a' w' ρ' own', K tm' H' → Ext ρ own w ρ' own' w' → TmRel ρ' n tm' a'.tmps → Rel P cfg ρ' own' H' w' → a'.defers = a.defers → Q .normal a' w')
    (_ : ∀ v tm' H' v' a' w' ρ' own', E v tm' H' → Ext ρ own w ρ' own' w' → VR ρ' v v' → TmRel ρ' n tm' a'.tmps → Rel P cfg ρ' own' H' w' → a'.defers = a.defers → Q (.panic [{ v := v', recovered := false }]) a' w'),
    wpList P ops Q l a w
  | [], is, hl, ρ, own, H, w, tm, a, htm, hr, K, E, h, hK, hE => by
    simp [compInsL] at hl; subst hl
    exact hK _ _ _ _ _ _ h (Ext.refl _ _ _) htm hr rfl
  | o :: l, is, hl, ρ, own, H, w, tm, a, htm, hr, K, E, h, hK, hE => by
    simp only [compInsL, Option.bind_eq_some_iff, Option.map_eq_some_iff] at hl
    obtain ⟨i, hi, is', his, rfl⟩ := hl
    have hdst := (guard_of htm hi).2.1
    refine wpList_step fun KK hKK => ?_
    obtain ⟨ρ0, own0, hr0, hle0, hown0⟩ := prep_ok hC H (i.key tm) ρ own w hr
    have e0 : Ext ρ own w ρ0 own0 w := SeesG.toExt (H := H) (H1 := H) hle0 hown0
    refine ins_ok hC.call hext (htm.mono hle0) hr0 hi h (fun v H' v' w' ρ' own' hk he hv hr' => ?_) (fun v H' v' w' ρ' own' hk he hv hr' => ?_)
    · refine hKK _ _ (insL_ok hC hext l is' his ρ' own' H' w' _ _ (by rw [← hdst]; exact put_rel ((htm.mono hle0).mono he.le) i.dst hv) hr' K E hk (fun tm2 H2 a2 w2 ρ2 own2 k2 e2 t2 r2 d2 => ?_) (fun v2 tm2 H2 v2' a2 w2 ρ2 own2 k2 e2 hv2 t2 r2 d2 => ?_))
      · exact hK _ _ _ _ _ _ k2 ((e0.trans he).trans e2) t2 r2 (by rw [d2, put_defers])
      · exact hE _ _ _ _ _ _ _ _ k2 ((e0.trans he).trans e2) hv2 t2 r2 (by rw [d2, put_defers])
    · exact hE _ _ _ _ _ _ _ _ hk (e0.trans he) hv ((htm.mono hle0).mono he.le) hr' rfl

end
end Go.Abs
