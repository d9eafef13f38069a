/-
  CODE: what the plain form says, the loaded code does. FUNCTIONS: a call comes to what its plain form says.
-/
import Derived.Test.YtlecfiofljigbaaA18
import Derived.Scope
import Derived.LoopN
set_option linter.unusedSimpArgs false
set_option linter.unusedVariables false
set_option linter.unnecessarySimpa false
set_option linter.unusedSectionVars false
namespace Go.Abs
open Go.RowKit

section
variable {D : Type} (P : Program) (ext : FuncId → Option Ext1)

def compC (n : Nat) : Code → Option AC
  | .skip => some .skip
  | .region _ ops false => (compInsL P ext n ops ops.toList).map .reg
  | .region _ ops true => (compD P ext n ops).map .dreg
  | .seq a b => (compC n a).bind fun a => (compC n b).map fun b => .seq a b
  | .cond c a b => (opdOf n c).bind fun c => (compC n a).bind fun a => (compC n b).map fun b => .cond c a b
  | .block id a => (compC n a).map fun a => .block id a
  | .loop a => (compC n a).map fun a => .loop a
  | .exit id => some (.exit id)
  | .scope a => (compC n a).map fun a => .scope a
  | .label l => some (.label l)
  | .goto l => some (.goto l)
  | .ret => some .ret
  | .rangeFunc .. | .refuse _ => none

variable {P} {ext}
variable (cfg : D → HRep) (n : Nat)

def XR (ρ : Env) : AExit → Exit → Prop
  | .normal, .normal => True
  | .exit i, .exit j => i = j
  | .goto i, .goto j => i = j
  | .ret, .ret => True
  | .pan v, .panic c => ∃ v', c = [{ v := v', recovered := false }] ∧ VR ρ v v'
  | _, _ => False

def Lift (P : Program) (ρ : Env) (own : Nat → Nat → Prop) (w : World) (D0 : List Deferred) (Qa : AExit → (Nat → Value) → AH D → Prop) (e : Exit) (a : Act) (w' : World) : Prop :=
  ∃ ae tm H ρ' own', Qa ae tm H ∧ XR ρ' ae e ∧ TmRel ρ' n tm a.tmps ∧ Ext ρ own w ρ' own' w' ∧ Rel P cfg ρ' own' H w' ∧ a.defers = D0

theorem Lift.trans {P : Program} {ρ ρ1 : Env} {own own1 : Nat → Nat → Prop} {w w1 : World} {D0 : List Deferred} {Qa : AExit → (Nat → Value) → AH D → Prop} (h : Ext ρ own w ρ1 own1 w1) {e : Exit} {a : Act} {w' : World}
    (hl : Lift cfg n P ρ1 own1 w1 D0 Qa e a w') : Lift cfg n P ρ own w D0 Qa e a w' := by
  obtain ⟨ae, tm, H, ρ', own', h1, h2, h3, h4, h5, h6⟩ := hl
  exact ⟨ae, tm, H, ρ', own', h1, h2, h3, h.trans h4, h5, h6⟩

variable {cfg} {n}

theorem compD_fix {ops : Array Oper} {t : DT} (h : compD P ext n ops = some t) : ∃ ds, DFix P ext n ops ds ∧ t = gen (Region.before ops) ds.length [] ds := by
  simp only [compD, Option.bind_eq_some_iff] at h
  obtain ⟨is, his, h⟩ := h
  split at h
  case isFalse => cases h
  rename_i hs
  cases h
  refine ⟨disD ops is, ?_, rfl⟩
  simp only [saneD, Bool.and_eq_true, List.all_eq_true, Bool.or_eq_true, beq_iff_eq] at hs
  obtain ⟨⟨hp, h1⟩, he⟩ := hs
  have hget : ∀ (l : List Oper) (is : List AIns), compInsL P ext n ops l = some is → is.length = l.length ∧ ∀ (k : Nat) (i : AIns) (o : Oper), is[k]? = some i → l[k]? = some o → compIns P ext n ops o = some i := by
    intro l
    induction l with
    | nil => intro is h; simp [compInsL] at h; subst h; exact ⟨rfl, fun k i o h => by simp at h⟩
    | cons o l ih =>
      intro is h
      simp only [compInsL, Option.bind_eq_some_iff, Option.map_eq_some_iff] at h
      obtain ⟨i, hi, r, hr, rfl⟩ := h
      obtain ⟨e1, e2⟩ := ih r hr
      refine ⟨by simp [e1], fun k j o' hk ho => ?_⟩
      cases k with
      | zero => simp at hk ho; subst hk; subst ho; exact hi
      | succ k => exact e2 k j o' (by simpa using hk) (by simpa using ho)
  obtain ⟨hlen, hg⟩ := hget ops.toList is his
  have hlen' : is.length = ops.size := by simpa using hlen
  have hd : ∀ x, x ∈ disD ops is ↔ ∃ i o, is[x.ix]? = some i ∧ ops.toList[x.ix]? = some o ∧ x = ⟨x.ix, i, isAssign o.op || !i.op.quietB⟩ := by
    intro x
    simp only [disD, List.mem_map]
    constructor
    · rintro ⟨⟨⟨i, o⟩, k⟩, hm, rfl⟩
      rw [List.mem_zipIdx_iff_getElem?, List.getElem?_zip_eq_some] at hm
      exact ⟨i, o, hm.1, hm.2, rfl⟩
    · rintro ⟨i, o, h1, h2, h3⟩
      refine ⟨((i, o), x.ix), ?_, h3.symm⟩
      rw [List.mem_zipIdx_iff_getElem?, List.getElem?_zip_eq_some]
      exact ⟨h1, h2⟩
  refine ⟨fun x hx => ?_, fun i hi => ?_, fun x hx y hy hxy => ?_, fun x hx y hy hne => ?_, h1, fun i o ho e hem hb => ?_⟩
  · obtain ⟨i, o, q1, q2, q3⟩ := (hd x).1 hx
    refine ⟨o, by simpa using q2, ?_⟩
    rw [q3]
    exact hg _ _ _ q1 q2
  · have e1 : is[i]? = some is[i] := List.getElem?_eq_getElem (by omega)
    have e2 : ops.toList[i]? = some ops.toList[i] := List.getElem?_eq_getElem (by simpa using hi)
    exact ⟨⟨i, _, _⟩, (hd _).2 ⟨_, _, e1, e2, rfl⟩, rfl⟩
  · obtain ⟨i, o, q1, q2, q3⟩ := (hd x).1 hx
    obtain ⟨i', o', r1, r2, r3⟩ := (hd y).1 hy
    rw [← hxy] at r1 r2 r3
    rw [q1] at r1; rw [q2] at r2
    cases r1; cases r2
    rw [q3, r3]
  · rcases hp x hx y hy with h | h
    · exact absurd h hne
    · exact h
  · simp only [edgesD, List.all_eq_true] at he
    have := he (o, i) (by rw [List.mem_zipIdx_iff_getElem?]; simpa using ho)
    simp only [Array.all_eq_true_iff_forall_mem, Bool.or_eq_true, Bool.not_eq_true', decide_eq_true_eq] at this
    rcases this e hem with h | h
    · rw [hb] at h; cases h
    · exact h

variable {C : CallT D}

theorem dreg_ok (hmix : P.follows .mixedOrders = true) (hC : CallOk P cfg C) (mono : CallMono C) (hext : ExtOk P ext) {ops : Array Oper} {t : DT} (ht : compD P ext n ops = some t) {id : Nat} {ρ : Env} {own : Nat → Nat → Prop} {H : AH D} {w : World} {tm : Nat → Value} {a : Act}
    (htm : TmRel ρ n tm a.tmps) (hr : Rel P cfg ρ own H w) {Kf : (Nat → Value) → AH D → Prop} (h : t.wp C tm H Kf) {Q : Exit → Act → World → Prop}
    (hQ : ∀ tm' H' ρ' own' a' w', Kf tm' H' → Ext ρ own w ρ' own' w' → TmRel ρ' n tm' a'.tmps → Rel P cfg ρ' own' H' w' → a'.defers = a.defers → Q .normal a' w') : (Code.region id ops true).wp P Q a w := by
  obtain ⟨ds, fx, rfl⟩ := compD_fix ht
  refine wp_region_any hmix ?_
  have hun : ∀ j, ¬ Lst (Array.replicate ops.size false) j := fun j h => by
    unfold Lst at h
    by_cases hj : j < ops.size <;> simp [hj] at h
  have hinv : DInv P cfg C n ops ds Kf tm ρ own w a.defers (Array.replicate ops.size false) a { w with drawn := w.drawn + 1 } [] ds ds.length tm H ρ own := by
    refine ⟨fun x => by simp, fun x hx => (by cases hx), fun x hx => (by cases hx), by simp, fun x hx => (by cases hx), fun x _ => hun _, fun x hx => (by cases hx), fun tm' _ h2 => ?_, fun j hj => absurd hj (hun j), hr.drew P cfg rfl, ⟨ρ.le_refl, fun k b hb => .inl ⟨k, hb⟩, Nat.le_refl _, fun _ _ _ => rfl, rfl, rfl, rfl⟩, h, Nat.le_refl _, rfl, fun x _ t _ _ => rfl⟩
    have : tm' = tm := funext fun t => h2 t (by rintro ⟨x, hx, _⟩; cases hx)
    rw [this]; exact htm
  obtain ⟨done', rest', tm', f', h', hh'⟩ := DInv.advance fx _ ds [] tm H ρ own hinv
  refine dreg_any hC mono hext fx (fun tm2 H2 ρ2 own2 a2 w2 k e t r d => hQ tm2 H2 ρ2 own2 a2 w2 k e t r d) ops.size _ a _ done' rest' f' tm' H ρ own h' hh' ?_
  unfold cnt
  simp

/-- CODE. -/
theorem code_ok (hmix : P.follows .mixedOrders = true) {C : Sg D} (hC : SgOk P cfg C) (mono : CallMono C.call) (hext : ExtOk P ext) (F : Nat) : ∀ (c : Code) (ac : AC), compC P ext n c = some ac → ∀ (Qa : AExit → (Nat → Value) → AH D → Prop) (tm : Nat → Value) (H : AH D), ac.wp C F Qa tm H →
    ∀ (ρ : Env) (own : Nat → Nat → Prop) (w : World) (a : Act), TmRel ρ n tm a.tmps → Rel P cfg ρ own H w → c.wp P (Lift cfg n P ρ own w a.defers Qa) a w := by
  intro c
  induction c with
  | skip =>
    intro ac hc Qa tm H h ρ own w a htm hr
    simp [compC] at hc; subst hc
    exact wp_skip ⟨_, _, _, _, _, h, trivial, htm, Ext.refl _ _ _, hr, rfl⟩
  | region id ops draw =>
    intro ac hc Qa tm H h ρ own w a htm hr
    cases draw with
    | false =>
      simp only [compC, Option.map_eq_some_iff] at hc
      obtain ⟨is, his, rfl⟩ := hc
      refine wp_region_list (insL_ok hC hext _ is his ρ own H w tm a htm hr _ _ h (fun tm' H' a' w' ρ' own' k e t r d => ?_) (fun v tm' H' v' a' w' ρ' own' k e hv t r d => ?_))
      · exact ⟨_, _, _, _, _, k, trivial, t, e, r, d⟩
      · exact ⟨_, _, _, _, _, k, ⟨_, rfl, hv⟩, t, e, r, d⟩
    | true =>
      simp only [compC, Option.map_eq_some_iff] at hc
      obtain ⟨t, ht, rfl⟩ := hc
      obtain ⟨ρ0, own0, hr0, hle0, hown0⟩ := walkD_ok hC t tm H ρ own w hr
      exact dreg_ok hmix hC.call mono hext ht (htm.mono hle0) hr0 h fun tm' H' ρ' own' a' w' k e t r d => ⟨_, _, _, _, _, k, trivial, t, (SeesG.toExt (H := H) (H1 := H) hle0 hown0).trans e, r, d⟩
  | seq x y ihx ihy =>
    intro ac hc Qa tm H h ρ own w a htm hr
    simp only [compC, Option.bind_eq_some_iff, Option.map_eq_some_iff] at hc
    obtain ⟨ax, hax, ay, hay, rfl⟩ := hc
    refine wp_seq (Code.wp_mono (fun e a1 w1 hl => ?_) (ihx ax hax _ tm H h ρ own w a htm hr))
    obtain ⟨ae, tm1, H1, ρ1, own1, k, x1, t1, e1, r1, d1⟩ := hl
    cases ae <;> cases e <;> simp only [XR] at x1
    · refine Code.wp_mono (fun e2 a2 w2 hl2 => ?_) (ihy ay hay Qa tm1 H1 k ρ1 own1 w1 a1 t1 r1)
      rw [d1] at hl2
      exact hl2.trans cfg n e1
    · exact ⟨_, _, _, _, _, k, x1, t1, e1, r1, d1⟩
    · exact ⟨_, _, _, _, _, k, x1, t1, e1, r1, d1⟩
    · exact ⟨_, _, _, _, _, k, x1, t1, e1, r1, d1⟩
    · exact ⟨_, _, _, _, _, k, x1, t1, e1, r1, d1⟩
  | cond c x y ihx ihy =>
    intro ac hc Qa tm H h ρ own w a htm hr
    simp only [compC, Option.bind_eq_some_iff, Option.map_eq_some_iff] at hc
    obtain ⟨c', hc', ax, hax, ay, hay, rfl⟩ := hc
    have hv := opd_ok htm hc'
    simp only [AC.wp] at h
    split at h
    case h_2 => exact h.elim
    rename_i t ht
    rw [ht] at hv
    cases t with
    | true => exact wp_cond_true hv.bool_eq (ihx ax hax Qa tm H (by simpa using h) ρ own w a htm hr)
    | false => exact wp_cond_false hv.bool_eq (ihy ay hay Qa tm H (by simpa using h) ρ own w a htm hr)
  | block id x ih =>
    intro ac hc Qa tm H h ρ own w a htm hr
    simp only [compC, Option.map_eq_some_iff] at hc
    obtain ⟨ax, hax, rfl⟩ := hc
    refine wp_block (Code.wp_mono (fun e a1 w1 hl => ?_) (ih ax hax _ tm H h ρ own w a htm hr))
    obtain ⟨ae, tm1, H1, ρ1, own1, k, x1, t1, e1, r1, d1⟩ := hl
    cases ae <;> cases e <;> simp only [XR] at x1
    · exact ⟨_, _, _, _, _, k, trivial, t1, e1, r1, d1⟩
    · rename_i i j
      subst x1
      simp only [Exit.inBlock] at k ⊢
      by_cases hij : i = id
      · rw [if_pos hij] at k ⊢; exact ⟨_, _, _, _, _, k, trivial, t1, e1, r1, d1⟩
      · rw [if_neg hij] at k ⊢; exact ⟨_, _, _, _, _, k, rfl, t1, e1, r1, d1⟩
    · exact ⟨_, _, _, _, _, k, x1, t1, e1, r1, d1⟩
    · exact ⟨_, _, _, _, _, k, x1, t1, e1, r1, d1⟩
    · exact ⟨_, _, _, _, _, k, x1, t1, e1, r1, d1⟩
  | loop x ih =>
    intro ac hc Qa tm H h ρ own w a htm hr
    simp only [compC, Option.map_eq_some_iff] at hc
    obtain ⟨ax, hax, rfl⟩ := hc
    have hN : ∀ i x, ρ.loc i = some x → i < H.next := fun i x hx => Nat.lt_of_not_le fun hle => by rw [hr.dom i hle] at hx; cases hx
    have key : ∀ (m : Nat) (tm1 : Nat → Value) (H1 : AH D), loopN C.view H.next (ax.wp C F) m Qa tm1 H1 → ∀ (ρ1 : Env) (own1 : Nat → Nat → Prop) (w1 : World) (a1 : Act), TmRel ρ1 n tm1 a1.tmps → Rel P cfg ρ1 own1 H1 w1 →
        Ext ρ own w ρ1 own1 w1 → a1.defers = a.defers → Code.rounds P x (Lift cfg n P ρ own w a.defers Qa) m a1 w1 := by
      intro m
      induction m with
      | zero => intro tm1 H1 h; exact h.elim
      | succ m ihm =>
        intro tm1 H1 h ρ1 own1 w1 a1 htm1 hr1 he1 hd1
        rw [rounds_succ]
        refine Code.wp_mono (fun e a2 w2 hl => ?_) (ih ax hax _ tm1 H1 h ρ1 own1 w1 a1 htm1 hr1)
        obtain ⟨ae, tm2, H2, ρ2, own2, k, x2, t2, e2, r2, d2⟩ := hl
        rw [hd1] at d2
        have e12 := he1.trans e2
        cases ae <;> cases e <;> simp only [XR] at x2
        · rcases k with k | ⟨tm3, H3, hs, k⟩
          · exact ihm tm2 H2 k ρ2 own2 w2 a2 t2 r2 e12 d2
          · obtain ⟨ρ3, own3, s1, s2, s3, s4⟩ := hC.view _ _ _ _ _ hs ρ2 own2 w2 r2
            refine ihm tm3 H3 k ρ3 own3 w2 a2 ⟨t2.1, fun t ht => s4 _ _ (t2.2 t ht)⟩ s1 ⟨fun i y hy => s2 i (hN i y hy) y (e12.le i y hy), fun j b hb => ?_, e12.size, e12.kept, e12.os, e12.tape, e12.output⟩ d2
            obtain ⟨j', hj'⟩ := s3 b ⟨j, hb⟩
            exact e12.owned j' b hj'
        · exact ⟨_, _, _, _, _, k, x2, t2, e12, r2, d2⟩
        · exact ⟨_, _, _, _, _, k, x2, t2, e12, r2, d2⟩
        · exact ⟨_, _, _, _, _, k, x2, t2, e12, r2, d2⟩
        · exact ⟨_, _, _, _, _, k, x2, t2, e12, r2, d2⟩
    rcases h with h | ⟨tm3, H3, hs, h⟩
    · exact wp_loop_rounds F (key F tm H h ρ own w a htm hr (Ext.refl _ _ _) rfl)
    · obtain ⟨ρ3, own3, s1, s2, s3, s4⟩ := hC.view _ _ _ _ _ hs ρ own w hr
      refine wp_loop_rounds F (key F tm3 H3 h ρ3 own3 w a ⟨htm.1, fun t ht => s4 _ _ (htm.2 t ht)⟩ s1 ⟨fun i y hy => s2 i (hN i y hy) y hy, fun j b hb => .inl (s3 b ⟨j, hb⟩), Nat.le_refl _, fun _ _ _ => rfl, rfl, rfl, rfl⟩ rfl)
  | exit id =>
    intro ac hc Qa tm H h ρ own w a htm hr
    simp [compC] at hc; subst hc
    exact wp_exit ⟨_, _, _, _, _, h, rfl, htm, Ext.refl _ _ _, hr, rfl⟩
  | scope x ih =>
    intro ac hc Qa tm H h ρ own w a htm hr
    simp only [compC, Option.map_eq_some_iff] at hc
    obtain ⟨ax, hax, rfl⟩ := hc
    refine wp_scope_straight (Code.wp_mono (fun e a1 w1 hl => ?_) (ih ax hax _ tm H h ρ own w a htm hr))
    obtain ⟨ae, tm1, H1, ρ1, own1, k, x1, t1, e1, r1, d1⟩ := hl
    cases ae <;> cases e <;> simp only [XR] at x1
    · exact ⟨_, _, _, _, _, k, trivial, t1, e1, r1, d1⟩
    · exact ⟨_, _, _, _, _, k, x1, t1, e1, r1, d1⟩
    · exact k.elim
    · exact ⟨_, _, _, _, _, k, x1, t1, e1, r1, d1⟩
    · exact ⟨_, _, _, _, _, k, x1, t1, e1, r1, d1⟩
  | label l =>
    intro ac hc Qa tm H h ρ own w a htm hr
    simp [compC] at hc; subst hc
    exact wp_label ⟨_, _, _, _, _, h, trivial, htm, Ext.refl _ _ _, hr, rfl⟩
  | goto l =>
    intro ac hc Qa tm H h ρ own w a htm hr
    simp [compC] at hc; subst hc
    exact wp_goto ⟨_, _, _, _, _, h, rfl, htm, Ext.refl _ _ _, hr, rfl⟩
  | ret =>
    intro ac hc Qa tm H h ρ own w a htm hr
    simp [compC] at hc; subst hc
    exact wp_ret ⟨_, _, _, _, _, h, trivial, htm, Ext.refl _ _ _, hr, rfl⟩
  | rangeFunc f ps x y _ _ => intro ac hc; simp [compC] at hc
  | refuse why => intro ac hc; simp [compC] at hc

end
end Go.Abs
