/-
  A REGION THAT DRAWS ITS ORDER: every order.
-/
import Derived.Test.YtlecfiofljigbaaA17
set_option linter.unusedSimpArgs false
set_option linter.unusedVariables false
set_option linter.unnecessarySimpa false
set_option linter.unusedSectionVars false
namespace Go.Abs
open Go.RowKit
open Classical

section
variable {D : Type} {P : Program} {cfg : D → HRep} {C : CallT D} {ext : FuncId → Option Ext1} {n : Nat}
variable {ops : Array Oper} {ds : List DI} {Kf : (Nat → Value) → AH D → Prop} {tm0 : Nat → Value} {ρ0 : Env} {own0 : Nat → Nat → Prop} {w0 : World} {D0 : List Deferred}

theorem DFix.dst (fx : DFix P ext n ops ds) {x y : DI} (hx : x ∈ ds) (hy : y ∈ ds) (hne : x ≠ y) (hq : x.loud = false) {t : Nat} (h1 : x.i.dst = some t) : y.i.dst ≠ some t := by
  intro h2
  have := ((pairD_spec (fx.pair x hx y hy fun e => hne (fx.inj x hx y hy e))).2 t h1 h2).1
  rw [hq] at this; cases this

def cnt (listed : Array Bool) : Nat := listed.toList.count false

theorem cnt_set {listed : Array Bool} {i : Nat} (hi : i < listed.size) (h : ¬ Lst listed i) : cnt (listed.setIfInBounds i true) + 1 = cnt listed := by
  unfold cnt
  have hf : listed.toList[i]'(by simpa using hi) = false := by
    unfold Lst at h
    simp [hi] at h
    simpa using h
  rw [Array.toList_setIfInBounds, List.count_set (by simpa using hi)]
  have hpos : 0 < listed.toList.count false := by
    rw [List.count_pos_iff, ← hf]
    exact List.getElem_mem _
  have e1 : (true == false) = false := rfl
  simp only [hf, beq_self_eq_true, if_true, e1, Bool.false_eq_true, if_false]
  omega

theorem ready_iff {listed : Array Bool} (hs : listed.size = ops.size) {i : Nat} : i ∈ Region.ready .any ops listed ↔ i < ops.size ∧ ¬ Lst listed i ∧ Ready ops (Lst listed) i := by
  rw [mem_ready]
  constructor
  · rintro ⟨h1, o, ho, h2⟩
    have hlt := (Array.getElem?_eq_some_iff.1 ho).1
    refine ⟨hlt, ?_, fun o' ho' e he hb => by rw [ho] at ho'; cases ho'; exact h2 e he hb⟩
    unfold Lst
    have : i < listed.size := by omega
    simp [this] at h1 ⊢
    exact h1
  · rintro ⟨hlt, h1, h2⟩
    refine ⟨?_, ops[i], by simp [hlt], fun e he hb => h2 _ (by simp [hlt]) e he hb⟩
    unfold Lst at h1
    have : i < listed.size := by omega
    simp [this] at h1 ⊢
    exact h1

theorem putD_at {d : Option Nat} {tm : Nat → Value} {v v2 : Value} (h : putD d tm v = putD d tm v2) : d = none ∨ v = v2 := by
  cases d with
  | none => exact .inl rfl
  | some d =>
    have := congrFun h d
    simp [putD, upd] at this
    exact .inr this

theorem dreg_any (hC : CallOk P cfg C) (mono : CallMono C) (hext : ExtOk P ext) (fx : DFix P ext n ops ds) {Q : Exit → Act → World → Prop}
    (hQ : ∀ tm H ρ own a w, Kf tm H → Ext ρ0 own0 w0 ρ own w → TmRel ρ n tm a.tmps → Rel P cfg ρ own H w → a.defers = D0 → Q .normal a w) :
    ∀ (fuel : Nat) (listed : Array Bool) (a : Act) (w : World) (done rest : List DI) (f : Nat) (tm : Nat → Value) (H : AH D) (ρ : Env) (own : Nat → Nat → Prop),
      DInv P cfg C n ops ds Kf tm0 ρ0 own0 w0 D0 listed a w done rest f tm H ρ own → (∀ x ∈ rest, x.loud = false → ∃ y ∈ rest, befB (Region.before ops) y.ix x.ix = true) → cnt listed ≤ fuel → wpAny P .any ops Q fuel listed a w := by
  have fin : ∀ (listed : Array Bool) (a : Act) (w : World) (done rest : List DI) (f : Nat) (tm : Nat → Value) (H : AH D) (ρ : Env) (own : Nat → Nat → Prop),
      DInv P cfg C n ops ds Kf tm0 ρ0 own0 w0 D0 listed a w done rest f tm H ρ own → (∀ i, i < ops.size → Lst listed i) → Q .normal a w := by
    intro listed a w done rest f tm H ρ own h hall
    have hix : ∀ x ∈ ds, Lst listed x.ix := fun x hx => by
      obtain ⟨o, ho, _⟩ := fx.comp x hx
      exact hall _ (Array.getElem?_eq_some_iff.1 ho).1
    have hr : rest = [] := by
      cases hrr : rest with
      | nil => rfl
      | cons x l =>
        have hx : x ∈ rest := by rw [hrr]; simp
        exact absurd (hix x ((h.mem x).2 (by simp [hx]))) (h.restU x hx)
    subst hr
    have hwp : Kf tm H := by
      have hwp := h.wp
      cases f <;> simpa [gen, DT.wp] using hwp
    refine hQ tm H ρ own a w hwp h.ext (h.tmr tm (fun t ht => ?_) (fun t _ => rfl)) h.rel h.def_
    obtain ⟨x, hx, hxu, _⟩ := ht
    exact absurd (hix x ((h.mem x).2 (by simp [hx]))) hxu
  intro fuel
  induction fuel with
  | zero =>
    intro listed a w done rest f tm H ρ own h _ hc
    have hall : ∀ i, i < ops.size → Lst listed i := fun i hi => by
      by_cases hL : Lst listed i
      · exact hL
      · have := cnt_set (listed := listed) (i := i) (by rw [h.size]; exact hi) hL
        omega
    refine ⟨?_, fin listed a w done rest f tm H ρ own h hall⟩
    rw [List.eq_nil_iff_forall_not_mem]
    intro i hi
    rw [ready_iff h.size] at hi
    exact hi.2.1 (hall i hi.1)
  | succ fuel ih =>
    intro listed a w done rest f tm H ρ own h hhead hc
    refine ⟨fun hr => ?_, fun i hi => ?_⟩
    · refine fin listed a w done rest f tm H ρ own h ?_
      have key : ∀ k i, i < k → i < ops.size → Lst listed i := by
        intro k
        induction k with
        | zero => intro i hi; omega
        | succ k ihk =>
          intro i hi hlt
          by_cases hL : Lst listed i
          · exact hL
          · exfalso
            have : i ∈ Region.ready .any ops listed := (ready_iff h.size).2 ⟨hlt, hL, fun o ho e he hb => ihk e.on (by have := fx.edge i o ho e he hb; omega) (by have := fx.edge i o ho e he hb; omega)⟩
            rw [hr] at this; cases this
      exact fun i hi => key (i + 1) i (by omega) hi
    · obtain ⟨hlt, hiu, hir⟩ := (ready_iff h.size).1 hi
      obtain ⟨x, hx, hxi⟩ := fx.all i hlt
      subst hxi
      obtain ⟨o, ho, hcomp⟩ := fx.comp x hx
      have hil : x.ix < listed.size := by rw [h.size]; exact hlt
      have hbl : ∀ z, befB (Region.before ops) z x.ix = true → Lst listed z := fun z hz => before_listed h.down z x.ix hir hz
      have hcnt := cnt_set hil hiu
      have hsz : (listed.setIfInBounds x.ix true).size = ops.size := by simp [h.size]
      have hdown : ∀ j, Lst (listed.setIfInBounds x.ix true) j → Ready ops (Lst (listed.setIfInBounds x.ix true)) j := fun j hj o' ho' e he hb => by
        rw [lst_set hil] at hj ⊢
        rcases hj with rfl | hj
        · exact .inr (hir o' ho' e he hb)
        · exact .inr (h.down j hj o' ho' e he hb)
      -- the frame, as it stands
      let tmU : Nat → Value := fun t => if ∃ y ∈ done, ¬ Lst listed y.ix ∧ y.i.dst = some t then tm0 t else tm t
      have hU : TmRel ρ n tmU a.tmps := h.tmr tmU (fun t ht => if_pos ht) (fun t ht => if_neg ht)
      unfold wpOp
      rw [ho]
      have hdsteq := (guard_of hU hcomp).2.1
      have hmd : ∀ y ∈ done, y ∈ ds := fun y hy => (h.mem y).2 (.inl hy)
      have hmr : ∀ y ∈ rest, y ∈ ds := fun y hy => (h.mem y).2 (.inr hy)
      have goal : (if Region.wanted o (yielded ops a.tmps) then o.wp P a w (wpAny P .any ops Q fuel (listed.setIfInBounds x.ix true)) Q else wpAny P .any ops Q fuel (listed.setIfInBounds x.ix true) (a.put o.dst undef) w) := by
        by_cases hxd : x ∈ done
        · -- what the walk has passed already
          have hxq : x.loud = false := by
            cases hh : x.loud
            · rfl
            · exact absurd (h.loudL x hxd hh) hiu
          obtain ⟨hq, d, hd, hself⟩ := oneD_spec (fx.one x hx) hxq
          have hreads : ∀ t ∈ x.i.reads, tm t = tmU t := fun t ht => by
            refine (if_neg ?_).symm
            rintro ⟨y, hy, hyu, hyd⟩
            have hyq : y.loud = false := by
              cases hh : y.loud
              · rfl
              · exact absurd (h.loudL y hy hh) hyu
            by_cases hxy : y.ix = x.ix
            · have h' := fx.inj y (hmd y hy) x hx hxy
              subst h'; rw [hd] at hyd; cases hyd; exact hself ht
            · rcases (pairD_spec (fx.pair y (hmd y hy) x hx hxy)).1 t hyd ht with h' | ⟨h', _⟩
              · exact hyu (hbl _ h')
              · rw [hyq] at h'; cases h'
          have hself' : upd tm d (tm d) = tm := by funext t; unfold upd; split <;> simp_all
          have hw : x.i.wp C tm H (fun tm' H' => tm' = tm ∧ H' = H) (fun _ _ => False) := again_wp hd (h.again x hxd hiu) ⟨hself', rfl⟩
          refine ins_ok hC hext hU h.rel hcomp (wp_congr hreads mono hw) (fun v H' v' w' ρ' own' hk he hv hr' => ?_) (fun _ _ _ _ _ _ hk => hk.elim)
          obtain ⟨v2, e1, e2, rfl⟩ := hk
          have hv2 : v2 = tm d := by
            have := congrFun e2 d
            simpa [hd, putD, upd] using this
          have hvv : v = tm d := by
            rcases putD_at e1 with h0 | h0
            · rw [hd] at h0; cases h0
            · rw [h0, hv2]
          subst hvv
          refine ih _ _ w' done rest f tm _ ρ' own' ⟨h.mem, h.dj, h.downD, hsz, fun y hy hl => (lst_set hil _).2 (.inr (h.loudL y hy hl)), fun y hy hl => ?_, fun y hy hyu => h.again y hy (fun hh => hyu ((lst_set hil _).2 (.inr hh))), ?_, hdown, hr', h.ext.trans he, h.wp, h.fuel, by rw [put_defers]; exact h.def_, h.keep⟩ hhead (by omega)
          · rcases (lst_set hil _).1 hl with hh | hh
            · exact h.dj x hxd y hy hh.symm
            · exact h.restU y hy hh
          · intro tm' h1 h2
            have hput := put_rel (hU.mono he.le) (some d) hv
            rw [← hdsteq, hd]
            have : tm' = putD (some d) tmU (tm d) := by
              funext t
              by_cases htd : t = d
              · subst htd
                rw [h2 t (by
                  rintro ⟨y, hy, hyu, hyd⟩
                  refine fx.dst hx (hmd y hy) ?_ hxq hd hyd
                  rintro rfl
                  exact hyu ((lst_set hil _).2 (.inl rfl)))]
                simp [putD, upd]
              · have hpt : putD (some d) tmU (tm d) t = tmU t := by simp [putD, upd, htd]
                rw [hpt]
                by_cases hex : ∃ y ∈ done, ¬ Lst listed y.ix ∧ y.i.dst = some t
                · obtain ⟨y, hy, hyu, hyd⟩ := hex
                  have hyx : y.ix ≠ x.ix := fun e => by
                    have := fx.inj y (hmd y hy) x hx e
                    subst this
                    rw [hd] at hyd; cases hyd; exact htd rfl
                  rw [h1 t ⟨y, hy, fun hh => by
                    rcases (lst_set hil _).1 hh with h3 | h3
                    · exact hyx h3
                    · exact hyu h3, hyd⟩]
                  exact (if_pos ⟨y, hy, hyu, hyd⟩).symm
                · rw [h2 t (fun ⟨y, hy, hyu, hyd⟩ => hex ⟨y, hy, fun hh => hyu ((lst_set hil _).2 (.inr hh)), hyd⟩)]
                  exact (if_neg hex).symm
            rw [this]; exact hput
        · -- the next one that acts
          have hxr : x ∈ rest := ((h.mem x).1 hx).resolve_left hxd
          have hfree : ∀ y ∈ rest, befB (Region.before ops) y.ix x.ix = false := fun y hy => by
            cases hh : befB (Region.before ops) y.ix x.ix
            · rfl
            · exact absurd (hbl _ hh) (h.restU y hy)
          have hyl : x.loud = true := by
            cases hh : x.loud
            · obtain ⟨y, hy, hb⟩ := hhead x hxr hh
              rw [hfree y hy] at hb; cases hb
            · rfl
          have hpr : ∀ z ∈ done, _ := fun z hz => h.pr fx hz hxr
          have hquiet : ∀ z ∈ done, ¬ Lst listed z.ix → z.loud = false := fun z hz hzu => by
            cases hh : z.loud
            · rfl
            · exact absurd (h.loudL z hz hh) hzu
          have hreads : ∀ t ∈ x.i.reads, tm t = tmU t := fun t ht => by
            refine (if_neg ?_).symm
            rintro ⟨z, hz, hzu, hzd⟩
            exact hzu (hbl _ ((hpr z hz).2.2.1 t hzd ht))
          obtain ⟨f', hff⟩ : ∃ f', f = f' + 1 := ⟨f - 1, by
            have := h.fuel
            have : 0 < rest.length := List.length_pos_of_mem hxr
            omega⟩
          subst hff
          have hwp : (DT.loud x.i (chksOf (Region.before ops) done x) (gen (Region.before ops) f' (x :: done) (without x rest))).wp C tm H Kf := by
            have hwp := h.wp
            rw [gen] at hwp
            split at hwp
            · rename_i q hq
              have hqr : q ∈ rest := List.mem_of_find?_eq_some hq
              have hqp := List.find?_some hq
              simp only [Bool.and_eq_true, Bool.not_eq_true', freeB, List.all_eq_true] at hqp
              obtain ⟨y, hy, hb⟩ := hhead q hqr hqp.1
              rw [hqp.2 y hy] at hb; cases hb
            · rw [if_neg (by rw [List.isEmpty_iff]; rintro rfl; cases hxr)] at hwp
              refine alts_mem hwp _ (List.mem_map.2 ⟨x, List.mem_filter.2 ⟨hxr, ?_⟩, rfl⟩)
              simp only [hyl, Bool.true_and, freeB, List.all_eq_true, Bool.not_eq_true']
              exact hfree
          simp only [DT.wp] at hwp
          refine ins_ok hC hext hU h.rel hcomp (wp_congr hreads mono hwp) (fun v H' v' w' ρ' own' hk he hv hr' => ?_) (fun _ _ _ _ _ _ hk => hk.elim)
          obtain ⟨v2, e1, hchk, hrest⟩ := hk
          have hvv : putD x.i.dst tm v2 = putD x.i.dst tm v := by
            rcases putD_at e1 with h0 | h0
            · rw [h0]; rfl
            · rw [h0]
          rw [hvv] at hchk hrest
          have hne : ∀ z ∈ done, z.ix ≠ x.ix := fun z hz => (hpr z hz).2.1
          have hinv : DInv P cfg C n ops ds Kf tm0 ρ0 own0 w0 D0 (listed.setIfInBounds x.ix true) (a.put o.dst v') w' (x :: done) (without x rest) f' (putD x.i.dst tm v) H' ρ' own' := by
            refine ⟨fun z => ?_, fun z hz y hy => ?_, fun z hz y hy => ?_, hsz, fun z hz hzl => ?_, fun z hz hzl => ?_, fun z hz hzu => ?_, ?_, hdown, hr', h.ext.trans he, hrest, ?_, by rw [put_defers]; exact h.def_, fun z hz t hzl hzd => ?_⟩
            · rw [h.mem z, mem_without, List.mem_cons]
              constructor
              · rintro (hz | hz)
                · exact .inl (.inr hz)
                · by_cases hzx : z.ix = x.ix
                  · exact .inl (.inl (fx.inj z (hmr z hz) x hx hzx))
                  · exact .inr ⟨hz, hzx⟩
              · rintro ((rfl | hz) | hz)
                · exact .inr hxr
                · exact .inl hz
                · exact .inr hz.1
            · obtain ⟨hy1, hy2⟩ := mem_without.1 hy
              rcases List.mem_cons.1 hz with rfl | hz
              · exact Ne.symm hy2
              · exact h.dj z hz y hy1
            · obtain ⟨hy1, hy2⟩ := mem_without.1 hy
              rcases List.mem_cons.1 hz with rfl | hz
              · exact hfree y hy1
              · exact h.downD z hz y hy1
            · rcases List.mem_cons.1 hz with rfl | hz
              · exact (lst_set hil _).2 (.inl rfl)
              · exact (lst_set hil _).2 (.inr (h.loudL z hz hzl))
            · obtain ⟨hz1, hz2⟩ := mem_without.1 hz
              rcases (lst_set hil _).1 hzl with h3 | h3
              · exact hz2 h3
              · exact h.restU z hz1 h3
            · have hzx : z ≠ x := fun e => hzu ((lst_set hil _).2 (.inl (by rw [e])))
              have hzd : z ∈ done := by
                rcases List.mem_cons.1 hz with hz | hz
                · exact absurd hz hzx
                · exact hz
              have hzu' : ¬ Lst listed z.ix := fun hh => hzu ((lst_set hil _).2 (.inr hh))
              have hzq := hquiet z hzd hzu'
              obtain ⟨p1, p2, p5, p6, p7⟩ := hpr z hzd
              have hnb : befB (Region.before ops) z.ix x.ix = false := by
                cases hh : befB (Region.before ops) z.ix x.ix
                · rfl
                · exact absurd (hbl _ hh) hzu'
              obtain ⟨hzqb, d, hd, hself⟩ := oneD_spec (fx.one z (hmd z hzd)) hzq
              by_cases hzr : z.i.op.readB = true
              · refine hchk z.i (List.mem_map.2 ⟨z, List.mem_filter.2 ⟨hzd, ?_⟩, rfl⟩)
                simp [hzq, hzr, hnb]
              · obtain ⟨op, hop, hpr2⟩ := quiet_same hzqb
                have hpure : op.pureB = true := by
                  rcases hpr2 with h3 | h3
                  · exact h3
                  · exact absurd (by rw [hop]; exact h3) hzr
                refine again_heap (again_congr (h.again z hzd hzu') (fun t ht => ?_) (fun t ht => ?_)) ⟨op, hop, hpure⟩
                · cases hxd' : x.i.dst with
                  | none => rfl
                  | some d' =>
                    simp only [putD, upd]
                    rw [if_neg]
                    rintro rfl
                    have := (p6 t hxd' ht).2
                    rw [hnb] at this; cases this
                · cases hxd' : x.i.dst with
                  | none => rfl
                  | some d' =>
                    simp only [putD, upd]
                    rw [if_neg]
                    rintro rfl
                    have := (p7 t ht hxd').1
                    rw [hzq] at this; cases this
            · intro tm2 h1 h2
              have hput := put_rel (hU.mono he.le) x.i.dst hv
              rw [← hdsteq]
              have : tm2 = putD x.i.dst tmU v := by
                funext t
                by_cases hex : ∃ z ∈ done, ¬ Lst listed z.ix ∧ z.i.dst = some t
                · obtain ⟨z, hz, hzu, hzd⟩ := hex
                  rw [h1 t ⟨z, by simp [hz], fun hh => by
                    rcases (lst_set hil _).1 hh with h3 | h3
                    · exact hne z hz h3
                    · exact hzu h3, hzd⟩]
                  have hU' : tmU t = tm0 t := if_pos ⟨z, hz, hzu, hzd⟩
                  cases hxd' : x.i.dst with
                  | none => exact hU'.symm
                  | some d' =>
                    simp only [putD, upd]
                    rw [if_neg, hU']
                    rintro rfl
                    have := ((hpr z hz).2.2.2.2 t hzd hxd').1
                    rw [hquiet z hz hzu] at this; cases this
                · rw [h2 t (by
                    rintro ⟨z, hz, hzu, hzd⟩
                    rcases List.mem_cons.1 hz with rfl | hz
                    · exact hzu ((lst_set hil _).2 (.inl rfl))
                    · exact hex ⟨z, hz, fun hh => hzu ((lst_set hil _).2 (.inr hh)), hzd⟩)]
                  have hU' : tmU t = tm t := if_neg hex
                  cases hxd' : x.i.dst with
                  | none => exact hU'.symm
                  | some d' => simp only [putD, upd]; rw [hU']
              rw [this]; exact hput
            · have := without_length hxr
              have := h.fuel
              omega
            · obtain ⟨hz1, hz2⟩ := mem_without.1 hz
              have hk := h.keep z hz1 t hzl hzd
              cases hxd' : x.i.dst with
              | none => exact hk
              | some d' =>
                simp only [putD, upd]
                rw [if_neg]
                · exact hk
                · rintro rfl
                  have := ((pairD_spec (fx.pair x hx z (hmr z hz1) (Ne.symm hz2))).2 t hxd' hzd).2
                  rw [hzl] at this; cases this
          obtain ⟨done', rest', tm', f2, h', hh'⟩ := DInv.advance fx f' _ _ _ _ _ _ hinv
          exact ih _ _ w' done' rest' f2 tm' H' ρ' own' h' hh' (by omega)
      simp only
      by_cases hw : Region.wanted o (yielded ops a.tmps) = true
      · rw [if_pos hw] at goal ⊢; exact .inl goal
      · rw [if_neg hw] at goal ⊢; exact goal

end
end Go.Abs
