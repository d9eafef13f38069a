/-
  A REGION THAT DRAWS ITS ORDER, whatever the order: the proof.
-/
import Derived.Test.YtlecfiofljigbaaA16
set_option linter.unusedSimpArgs false
set_option linter.unusedVariables false
set_option linter.unnecessarySimpa false
set_option linter.unusedSectionVars false
namespace Go.Abs
open Go.RowKit

section
variable {D : Type} {P : Program} {cfg : D → HRep} {C : CallT D} {ext : FuncId → Option Ext1} {n : Nat}

def CallMono (C : CallT D) : Prop := ∀ f args H (K K' : AEnd → AH D → Prop), (∀ r H', K r H' → K' r H') → C f args H K → C f args H K'

def Lst (listed : Array Bool) (j : Nat) : Prop := listed.getD j false = true

/-- What is fixed of such a region. -/
structure DFix (P : Program) (ext : FuncId → Option Ext1) (n : Nat) (ops : Array Oper) (ds : List DI) : Prop where
  comp : ∀ x ∈ ds, ∃ o, ops[x.ix]? = some o ∧ compIns P ext n ops o = some x.i
  all : ∀ i, i < ops.size → ∃ x ∈ ds, x.ix = i
  inj : ∀ x ∈ ds, ∀ y ∈ ds, x.ix = y.ix → x = y
  pair : ∀ x ∈ ds, ∀ y ∈ ds, x.ix ≠ y.ix → pairD (Region.before ops) x y = true
  one : ∀ x ∈ ds, oneD x = true
  edge : ∀ i o, ops[i]? = some o → ∀ e ∈ o.after, Region.binds .any e = true → e.on < i

/-- How far the walk is. -/
structure DInv (P : Program) (cfg : D → HRep) (C : CallT D) (n : Nat) (ops : Array Oper) (ds : List DI) (Kf : (Nat → Value) → AH D → Prop) (tm0 : Nat → Value) (ρ0 : Env) (own0 : Nat → Nat → Prop) (w0 : World) (D0 : List Deferred)
    (listed : Array Bool) (a : Act) (w : World) (done rest : List DI) (f : Nat) (tm : Nat → Value) (H : AH D) (ρ : Env) (own : Nat → Nat → Prop) : Prop where
  mem : ∀ x, x ∈ ds ↔ x ∈ done ∨ x ∈ rest
  dj : ∀ x ∈ done, ∀ y ∈ rest, x.ix ≠ y.ix
  downD : ∀ y ∈ done, ∀ x ∈ rest, befB (Region.before ops) x.ix y.ix = false
  size : listed.size = ops.size
  loudL : ∀ x ∈ done, x.loud = true → Lst listed x.ix
  restU : ∀ x ∈ rest, ¬ Lst listed x.ix
  again : ∀ x ∈ done, ¬ Lst listed x.ix → x.i.again tm H
  tmr : ∀ tm', (∀ t, (∃ x ∈ done, ¬ Lst listed x.ix ∧ x.i.dst = some t) → tm' t = tm0 t) → (∀ t, ¬ (∃ x ∈ done, ¬ Lst listed x.ix ∧ x.i.dst = some t) → tm' t = tm t) → TmRel ρ n tm' a.tmps
  down : ∀ j, Lst listed j → Ready ops (Lst listed) j
  rel : Rel P cfg ρ own H w
  ext : Ext ρ0 own0 w0 ρ own w
  wp : (gen (Region.before ops) f done rest).wp C tm H Kf
  fuel : rest.length ≤ f
  def_ : a.defers = D0
  keep : ∀ x ∈ rest, ∀ t, x.loud = false → x.i.dst = some t → tm t = tm0 t

variable {ops : Array Oper} {ds : List DI} {Kf : (Nat → Value) → AH D → Prop} {tm0 : Nat → Value} {ρ0 : Env} {own0 : Nat → Nat → Prop} {w0 : World} {D0 : List Deferred} {listed : Array Bool} {a : Act} {w : World}

theorem pairD_spec {b : Array Nat} {x y : DI} (h : pairD b x y = true) :
    (∀ t, x.i.dst = some t → t ∈ y.i.reads → befB b x.ix y.ix = true ∨ (x.loud = true ∧ befB b y.ix x.ix = true)) ∧
    (∀ t, x.i.dst = some t → y.i.dst = some t → x.loud = true ∧ y.loud = true) := by
  simp only [pairD, Bool.and_eq_true] at h
  obtain ⟨h5, h7⟩ := h
  refine ⟨fun t ht hm => ?_, fun t hx hy => ?_⟩
  · rw [ht] at h5
    simp only [Bool.or_eq_true, Bool.not_eq_true', List.contains_eq_mem, decide_eq_false_iff_not, Bool.and_eq_true] at h5
    rcases h5 with (h5 | h5) | h5
    · exact absurd hm h5
    · exact .inl h5
    · exact .inr h5
  · rw [hx, hy] at h7
    simpa using h7

theorem oneD_spec {x : DI} (h : oneD x = true) (hq : x.loud = false) : x.i.op.quietB = true ∧ ∃ t, x.i.dst = some t ∧ t ∉ x.i.reads := by
  simp only [oneD, Bool.or_eq_true, Bool.and_eq_true] at h
  rcases h with h | ⟨h1, h2⟩
  · rw [hq] at h; cases h
  · split at h2
    · rename_i t ht
      exact ⟨h1, t, ht, by simpa using h2⟩
    · cases h2

/-- One that is behind, one that is ahead. -/
theorem DInv.pr (fx : DFix P ext n ops ds) {done rest : List DI} {f : Nat} {tm : Nat → Value} {H : AH D} {ρ : Env} {own : Nat → Nat → Prop} (h : DInv P cfg C n ops ds Kf tm0 ρ0 own0 w0 D0 listed a w done rest f tm H ρ own) {y x : DI} (hy : y ∈ done) (hx : x ∈ rest) :
    befB (Region.before ops) x.ix y.ix = false ∧ y.ix ≠ x.ix ∧ (∀ t, y.i.dst = some t → t ∈ x.i.reads → befB (Region.before ops) y.ix x.ix = true) ∧
    (∀ t, x.i.dst = some t → t ∈ y.i.reads → x.loud = true ∧ befB (Region.before ops) y.ix x.ix = true) ∧ (∀ t, y.i.dst = some t → x.i.dst = some t → y.loud = true ∧ x.loud = true) := by
  have hyd := (h.mem y).2 (.inl hy)
  have hxd := (h.mem x).2 (.inr hx)
  have hne := h.dj y hy x hx
  have hb := h.downD y hy x hx
  obtain ⟨p1, p2⟩ := pairD_spec (fx.pair y hyd x hxd hne)
  obtain ⟨q1, q2⟩ := pairD_spec (fx.pair x hxd y hyd (Ne.symm hne))
  refine ⟨hb, hne, fun t ht hm => ?_, fun t ht hm => ?_, p2⟩
  · rcases p1 t ht hm with h | ⟨_, h⟩
    · exact h
    · rw [hb] at h; cases h
  · rcases q1 t ht hm with h | h
    · rw [hb] at h; cases h
    · exact h

theorem mem_without {x y : DI} {rest : List DI} : y ∈ without x rest ↔ y ∈ rest ∧ y.ix ≠ x.ix := by simp [without]
theorem without_length {x : DI} {rest : List DI} (hx : x ∈ rest) : (without x rest).length < rest.length := by
  unfold without
  induction rest with
  | nil => cases hx
  | cons z l ih =>
    rw [List.filter_cons]
    have hle := List.length_filter_le (fun y : DI => y.ix != x.ix) l
    by_cases hz : z.ix = x.ix
    · simp [hz]; omega
    · have : x ∈ l := by
        rcases List.mem_cons.1 hx with h | h
        · exact absurd (by rw [h]) hz
        · exact h
      have h2 := ih this
      rw [if_pos (by simpa using hz), List.length_cons, List.length_cons]; omega

/-- The quiet operations ahead of the next one that acts are gone through. -/
theorem DInv.advance (fx : DFix P ext n ops ds) : ∀ (f : Nat) (rest done : List DI) (tm : Nat → Value) (H : AH D) (ρ : Env) (own : Nat → Nat → Prop),
    DInv P cfg C n ops ds Kf tm0 ρ0 own0 w0 D0 listed a w done rest f tm H ρ own →
    ∃ done' rest' tm' f', DInv P cfg C n ops ds Kf tm0 ρ0 own0 w0 D0 listed a w done' rest' f' tm' H ρ own ∧ (∀ x ∈ rest', x.loud = false → ∃ y ∈ rest', befB (Region.before ops) y.ix x.ix = true)
  | 0, rest, done, tm, H, ρ, own, h => ⟨done, rest, tm, 0, h, fun x hx => by
      have := h.fuel
      have : rest = [] := List.length_eq_zero_iff.1 (by omega)
      subst this; cases hx⟩
  | f + 1, rest, done, tm, H, ρ, own, h => by
    cases hfind : rest.find? (fun q => !q.loud && freeB (Region.before ops) rest q) with
    | none =>
      refine ⟨done, rest, tm, f + 1, h, fun x hx hl => ?_⟩
      have := List.find?_eq_none.1 hfind x hx
      simp only [hl, Bool.not_false, Bool.true_and, freeB, List.all_eq_true, Bool.not_eq_true'] at this
      refine Classical.byContradiction fun hn => this fun y hy => ?_
      cases hh : befB (Region.before ops) y.ix x.ix
      · rfl
      · exact absurd ⟨y, hy, hh⟩ hn
    | some x =>
      have hx : x ∈ rest := List.mem_of_find?_eq_some hfind
      have hp := List.find?_some hfind
      simp only [Bool.and_eq_true, Bool.not_eq_true', freeB, List.all_eq_true] at hp
      obtain ⟨hl, hfree⟩ := hp
      have hxm : x ∈ ds := (h.mem x).2 (.inr hx)
      obtain ⟨hq, d, hd, hself⟩ := oneD_spec (fx.one x hxm) hl
      have hwp := h.wp
      rw [gen, hfind] at hwp
      simp only [DT.wp] at hwp
      obtain ⟨v, hk, hag⟩ := quiet_wp hq hd hself hwp
      refine DInv.advance fx f (without x rest) (x :: done) (upd tm d v) H ρ own ⟨fun y => ?_, fun y hy z hz => ?_, fun y hy z hz => ?_, h.size, ?_, fun y hy => h.restU y (mem_without.1 hy).1, ?_, ?_, h.down, h.rel, h.ext, hk, ?_, h.def_, ?_⟩
      · rw [h.mem y, mem_without, List.mem_cons]
        constructor
        · rintro (hy | hy)
          · exact .inl (.inr hy)
          · by_cases hyx : y.ix = x.ix
            · exact .inl (.inl (fx.inj y ((h.mem y).2 (.inr hy)) x hxm hyx))
            · exact .inr ⟨hy, hyx⟩
        · rintro ((rfl | hy) | hy)
          · exact .inr hx
          · exact .inl hy
          · exact .inr hy.1
      · obtain ⟨hz1, hz2⟩ := mem_without.1 hz
        rcases List.mem_cons.1 hy with rfl | hy
        · exact Ne.symm hz2
        · exact h.dj y hy z hz1
      · obtain ⟨hz1, hz2⟩ := mem_without.1 hz
        rcases List.mem_cons.1 hy with rfl | hy
        · exact hfree z hz1
        · exact h.downD y hy z hz1
      · intro y hy hyl
        rcases List.mem_cons.1 hy with rfl | hy
        · rw [hl] at hyl; cases hyl
        · exact h.loudL y hy hyl
      · intro y hy hyu
        rcases List.mem_cons.1 hy with rfl | hy
        · exact hag
        · have hyq : y.loud = false := by
            cases hh : y.loud
            · rfl
            · exact absurd (h.loudL y hy hh) hyu
          obtain ⟨p1, p2, p5, p6, p7⟩ := h.pr fx hy hx
          refine again_congr (h.again y hy hyu) (fun t ht => ?_) (fun t ht => ?_)
          · unfold upd
            rw [if_neg]
            rintro rfl
            have := (p6 t hd ht).1
            rw [hl] at this; cases this
          · unfold upd
            rw [if_neg]
            rintro rfl
            have := (p7 t ht hd).1
            rw [hyq] at this; cases this
      · intro tm' h1 h2
        refine h.tmr tm' (fun t ht => h1 t ?_) (fun t ht => ?_)
        · obtain ⟨y, hy, hyu, hyd⟩ := ht
          exact ⟨y, by simp [hy], hyu, hyd⟩
        · by_cases htd : t = d
          · subst htd
            rw [h1 t ⟨x, by simp, h.restU x hx, hd⟩]
            exact (h.keep x hx t hl hd).symm
          · rw [h2 t (by
              rintro ⟨y, hy, hyu, hyd⟩
              rcases List.mem_cons.1 hy with rfl | hy
              · rw [hd] at hyd; cases hyd; exact htd rfl
              · exact ht ⟨y, hy, hyu, hyd⟩)]
            unfold upd; rw [if_neg htd]
      · have := without_length hx
        have := h.fuel
        omega
      · intro y hy t hyl hyd
        obtain ⟨hy1, hy2⟩ := mem_without.1 hy
        unfold upd
        rw [if_neg]
        · exact h.keep y hy1 t hyl hyd
        · rintro rfl
          have := ((pairD_spec (fx.pair x hxm y ((h.mem y).2 (.inr hy1)) (Ne.symm hy2))).2 t hd hyd).1
          rw [hl] at this; cases this

theorem lst_set {listed : Array Bool} {i : Nat} (hi : i < listed.size) (j : Nat) : Lst (listed.setIfInBounds i true) j ↔ j = i ∨ Lst listed j := by
  unfold Lst
  by_cases h : j = i
  · subst h; simp [hi]
  · rw [getD_set_ne false (Ne.symm h)]; simp [h]

/-- Of what may come next each is one of the branches. -/
theorem alts_mem {tm : Nat → Value} {H : AH D} {K : (Nat → Value) → AH D → Prop} : ∀ {l : List DT}, (alts l).wp C tm H K → ∀ t ∈ l, t.wp C tm H K
  | [], h, _, _ => h.elim
  | [t], h, u, hu => by
    have : u = t := by simpa using hu
    subst this; exact h
  | t :: t' :: l, h, u, hu => by
    rcases List.mem_cons.1 hu with rfl | hu
    · exact h.1
    · exact alts_mem h.2 u hu

end
end Go.Abs
