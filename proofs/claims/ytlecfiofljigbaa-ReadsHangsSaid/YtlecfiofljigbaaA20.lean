/-
  FUNCTIONS.
-/
import Derived.Test.YtlecfiofljigbaaA19
set_option linter.unusedSimpArgs false
set_option linter.unusedVariables false
set_option linter.unnecessarySimpa false
set_option linter.unusedSectionVars false
namespace Go.Abs
open Go.RowKit

/-- Where a result lies: in a slot; in a variable whose address a slot holds. -/
inductive ARes where
  | t (n : Nat)
  | c (a : Nat) (agg : Bool) (sz : Nat)
  deriving Inhabited

structure AF where
  n : Nat
  res : List ARes
  body : AC
  deriving Inhabited

section
variable {D : Type}

def ARes.ev (tm : Nat → Value) (H : AH D) : ARes → Option Value
  | .t n => some (tm n)
  | .c a ag sz => match tm a with
    | .pointer (some ⟨k, o, none⟩) => if ag then (H.many k o sz).map fun l => .agg l.toArray else match H.row k with
      | some cs => cs[o]?
      | none => none
    | _ => none

def resL (tm : Nat → Value) (H : AH D) : List ARes → Option (List Value)
  | [] => some []
  | r :: l => match r.ev tm H with
    | some v => (resL tm H l).map (v :: ·)
    | none => none

def resV (tm : Nat → Value) (H : AH D) (l : List ARes) : Option Value :=
  match resL tm H l with
  | some [v] => some v
  | some vs => some (.tuple vs.toArray)
  | none => none

/-- A frame at its function's begin. -/
def frame0 (args : List Value) : Nat → Value := fun t => (args[t]?).getD undef

def AF.run (C : Sg D) (F : Nat) (af : AF) (args : List Value) (H : AH D) (K : AEnd → AH D → Prop) : Prop :=
  args.length ≤ af.n ∧ af.body.wp C F (fun e tm H' => match e with
    | .normal | .ret => match resV tm H' af.res with
      | some v => K (.ret v) H'
      | none => False
    | .pan v => K (.pan v) H'
    | _ => False) (frame0 args) H

/-- A call: by what is known of the function, else by its text. -/
def callX (G : CallT D → Sg D) (S : FuncId → Option (List Value → AH D → (AEnd → AH D → Prop) → Prop)) (T : FuncId → Option AF) (F : Nat) : Nat → CallT D
  | 0, f, args, H, K => match S f with
    | some c => c args H K
    | none => False
  | d + 1, f, args, H, K => match S f with
    | some c => c args H K
    | none => match T f with
      | some af => af.run (G (callX G S T F d)) F args H K
      | none => False

variable (P : Program) (ext : FuncId → Option Ext1)

def compRes (n : Nat) : List ResultVar → Option (List ARes)
  | [] => some []
  | .tmp t :: l => if t < n then (compRes n l).map (.t t :: ·) else none
  | .cell a t :: l => if a < n then (aggOf P t).bind fun g => (szOf P t).bind fun s => (compRes n l).map (.c a g s :: ·) else none

/-- A function of the loaded program in its plain form. -/
structure AFOk (f : FuncId) (af : AF) : Prop where
  fn : ∃ fn c, P.funcs[f]? = some fn ∧ fn.body = some c ∧ fn.ntmps = af.n ∧ compC P ext af.n c = some af.body ∧ compRes P af.n fn.results.toList = some af.res ∧ (fn.name == "runtime.NumGoroutine") = false

variable {P} {ext} {cfg : D → HRep}

theorem callable_of {f : FuncId} {fn : Func} (hf : P.funcs[f]? = some fn) (hb : fn.body.isSome = true) (hn : (fn.name == "runtime.NumGoroutine") = false) (args : Array Value) (w : World) : (callFunc f args).run P w = .ok (.enter f args) w := by
  have hn' : fn.name ≠ "runtime.NumGoroutine" := by simpa using hn
  have hb' : fn.body ≠ none := by
    intro h; rw [h] at hb; cases hb
  simp [callFunc, hf, hn', hb']

def resF (tmps : Array Value) : ResultVar → Sem Value
  | .tmp t => pure (tmps.getD t undef)
  | .cell a t => do loadVar t (← asAddr (tmps.getD a undef))

theorem results_eq (fn : Func) (tmps : Array Value) : results fn tmps = (fn.results.mapM (resF tmps) >>= fun vs => pure (if h : vs.size = 1 then vs[0] else .tuple vs)) := by
  unfold results
  congr 1

theorem res_ok {n : Nat} {ρ : Env} {own : Nat → Nat → Prop} {H : AH D} {w : World} {tm : Nat → Value} {tmps : Array Value} (htm : TmRel ρ n tm tmps) (hr : Rel P cfg ρ own H w) : ∀ {l : List ResultVar} {rs : List ARes}, compRes P n l = some rs → ∀ {vs : List Value}, resL tm H rs = some vs →
    ∃ vs', (l.mapM (resF tmps)).run P w = .ok vs' w ∧ VRs ρ vs vs'
  | [], rs, h, vs, hv => by
    simp [compRes] at h; subst h
    simp [resL] at hv; subst hv
    exact ⟨[], rfl, .nil⟩
  | .tmp t :: l, rs, h, vs, hv => by
    simp only [compRes] at h
    split at h
    case isFalse => cases h
    rename_i ht
    simp only [Option.map_eq_some_iff] at h
    obtain ⟨r, hr', rfl⟩ := h
    simp only [resL, ARes.ev, Option.map_eq_some_iff] at hv
    obtain ⟨vs0, h0, rfl⟩ := hv
    obtain ⟨vs', e1, e2⟩ := res_ok htm hr hr' h0
    refine ⟨tmps.getD t undef :: vs', ?_, .cons _ _ _ _ (htm.2 t ht) e2⟩
    rw [List.mapM_cons, Sem.run_bind]
    have : (resF tmps (.tmp t)).run P w = .ok (tmps.getD t undef) w := rfl
    rw [this, Result.andThen_ok, Sem.run_bind, e1]; rfl
  | .cell a t :: l, rs, h, vs, hv => by
    simp only [compRes] at h
    split at h
    case isFalse => cases h
    rename_i ht
    simp only [Option.bind_eq_some_iff, Option.map_eq_some_iff] at h
    obtain ⟨g, hg, s, hs, r, hr', rfl⟩ := h
    simp only [resL] at hv
    split at hv
    case h_2 => cases hv
    rename_i v he
    simp only [Option.map_eq_some_iff] at hv
    obtain ⟨vs0, h0, rfl⟩ := hv
    obtain ⟨vs', e1, e2⟩ := res_ok htm hr hr' h0
    have hav := htm.2 a ht
    simp only [ARes.ev] at he
    split at he
    case h_2 => cases he
    rename_i k o hta
    rw [hta] at hav
    obtain ⟨lc, q1, q2⟩ := hav.ptr_inv
    have hload : ∃ v', (loadVar t ⟨lc.b, lc.base + o, none⟩).run P w = .ok v' w ∧ VR ρ v v' := by
      split at he
      · rename_i hgt
        subst hgt
        simp only [Option.map_eq_some_iff] at he
        obtain ⟨cl, hcl, rfl⟩ := he
        have hlen := AH.many_length hcl
        by_cases hne : cl = []
        · subst hne
          have hs0 : s = 0 := by rw [← hlen]; rfl
          subst hs0
          exact ⟨.agg #[], by simp [loadVar, Sem.run_bind, agg_run hg, Result.andThen_ok, size_run hs, loadCells, loadCellsFrom], .agg _ _ .nil⟩
        obtain ⟨l', cs', f1, f2, f3, f4, f5⟩ := hr.many hcl hne
        rw [q1] at f1; cases f1
        have hlc := run_loadCells_list (P := P) w ⟨lc.b, lc.base + o, none⟩ cs' f5
        rw [← f2.length, f3] at hlc
        refine ⟨.agg cs'.toArray, ?_, .agg _ _ (by simpa using f2)⟩
        simp only [loadVar, Sem.run_bind, agg_run hg, Result.andThen_ok, if_true, size_run hs, hlc, Sem.run_pure]
      · rename_i hgf
        have hgf : g = false := by simpa using hgf
        subst hgf
        split at he
        case h_2 => cases he
        rename_i cs hcs
        obtain ⟨l', cs', f1, f2, f3, f4⟩ := hr.row hcs (fun e => by rw [e] at he; simp at he)
        rw [q1] at f1; cases f1
        obtain ⟨v', g1, g2⟩ := f2.get he
        refine ⟨v', ?_, g2⟩
        simp only [loadVar, Sem.run_bind, agg_run hg, Result.andThen_ok, Bool.false_eq_true, if_false, run_load, f4 _ _ g1]
    obtain ⟨v', hl1, hl2⟩ := hload
    refine ⟨v' :: vs', ?_, .cons _ _ _ _ hl2 e2⟩
    rw [List.mapM_cons, Sem.run_bind]
    have : (resF tmps (.cell a t)).run P w = .ok v' w := by
      simp only [resF, Sem.run_bind, q2, asAddr, Sem.run_pure, Result.andThen_ok, hl1]
    rw [this, Result.andThen_ok, Sem.run_bind, e1]; rfl

theorem resV_ok {n : Nat} {ρ : Env} {own : Nat → Nat → Prop} {H : AH D} {w : World} {tm : Nat → Value} {tmps : Array Value} (htm : TmRel ρ n tm tmps) (hr : Rel P cfg ρ own H w) {fn : Func} {rs : List ARes} (h : compRes P n fn.results.toList = some rs) {v : Value} (hv : resV tm H rs = some v) :
    ∃ v', (results fn tmps).run P w = .ok v' w ∧ VR ρ v v' := by
  unfold resV at hv
  have hvs : ∃ vs, resL tm H rs = some vs := by
    cases h : resL tm H rs with
    | none => rw [h] at hv; cases hv
    | some vs => exact ⟨vs, rfl⟩
  obtain ⟨vs, hvs⟩ := hvs
  obtain ⟨vs', e1, e2⟩ := res_ok htm hr h hvs
  have hrun : (results fn tmps).run P w = .ok (if h : vs'.toArray.size = 1 then vs'.toArray[0] else .tuple vs'.toArray) w := by
    rw [results_eq, Sem.run_bind, Array.mapM_eq_mapM_toList, Sem.run_map, e1]
    rfl
  rw [hvs] at hv
  have hl := e2.length
  split at hv
  · rename_i u heq
    cases heq
    cases hv
    cases e2 with
    | cons _ u' _ l' hu hl' =>
      cases hl'
      exact ⟨u', by rw [hrun]; rfl, hu⟩
  · rename_i us hne heq
    cases heq
    cases hv
    refine ⟨.tuple vs'.toArray, ?_, .tuple _ _ (by simpa using e2)⟩
    rw [hrun, dif_neg]
    intro h1
    simp at h1
    rw [h1] at hl
    obtain ⟨u, hu⟩ := List.length_eq_one_iff.1 hl
    exact hne u hu
  · cases hv

/-- A FUNCTION. -/
theorem runs_of_body (hmix : P.follows .mixedOrders = true) {C : Sg D} (hC : SgOk P cfg C) (mono : CallMono C.call) (hext : ExtOk P ext) {f : FuncId} {af : AF} (hf : AFOk P ext f af) {F : Nat} {args : List Value} {H : AH D} {K : AEnd → AH D → Prop} (h : af.run C F args H K) : Runs P cfg f args H K := by
  obtain ⟨fn, c, h1, h2, h3, h4, h5, h6⟩ := hf.fn
  refine ⟨callable_of h1 (by rw [h2]; rfl) h6, fun ρ own w args' hr hv => ?_⟩
  obtain ⟨hlen, hwp⟩ := h
  have hal : args.length = args'.size := by simpa using hv.length
  refine calls_of_wp h1 h2 ?_
  have htm : TmRel ρ af.n (frame0 args) (args' ++ Array.replicate (fn.ntmps - args'.size) undef) := by
    refine ⟨by simp; omega, fun t ht => ?_⟩
    unfold frame0
    by_cases hlt : t < args.length
    · obtain ⟨v', e1, e2⟩ := hv.get (i := t) (v := args[t]) (List.getElem?_eq_getElem hlt)
      have e1' : args'[t]? = some v' := by simpa using e1
      rw [Array.getD_eq_getD_getElem?, Array.getElem?_append_left (by omega), e1']
      simpa [hlt] using e2
    · rw [List.getElem?_eq_none (by omega), Array.getD_eq_getD_getElem?, Array.getElem?_append_right (by omega)]
      have : (Array.replicate (fn.ntmps - args'.size) undef)[t - args'.size]?.getD undef = undef := by
        rw [Array.getElem?_replicate]; split <;> rfl
      rw [this]; exact VR.undef ρ
  refine Code.wp_mono (fun e a1 w1 hl => ?_) (code_ok (n := af.n) hmix hC mono hext F c af.body h4 _ _ H hwp ρ own w { tmps := args' ++ Array.replicate (fn.ntmps - args'.size) undef, defers := [] } htm hr)
  obtain ⟨ae, tm1, H1, ρ1, own1, k, x1, t1, e1, r1, d1⟩ := hl
  have fin : (match resV tm1 H1 af.res with | some v => K (.ret v) H1 | none => False) → a1.defers = [] ∧ ∃ v, (results fn a1.tmps).run P w1 = .ok v w1 ∧ Post P cfg ρ own w K (.returned v) w1 := by
    intro hk
    split at hk
    · rename_i v hv1
      obtain ⟨v', q1, q2⟩ := resV_ok t1 r1 h5 hv1
      exact ⟨d1, v', q1, _, _, _, _, hk, e1, q2, r1⟩
    · exact hk.elim
  cases ae <;> cases e <;> simp only [XR] at x1 <;> simp only at k
  · obtain ⟨q1, v, q2, q3⟩ := fin k
    exact ⟨q1, v, q2, q3⟩
  · obtain ⟨q1, v, q2, q3⟩ := fin k
    exact ⟨q1, v, q2, q3⟩
  · exact ⟨d1, _, _, _, _, k, e1, x1, r1⟩

/-- What is known of functions is true of them, and hangs on what is asked in the right way. -/
structure SpecOk (P : Program) (cfg : D → HRep) (S : FuncId → Option (List Value → AH D → (AEnd → AH D → Prop) → Prop)) : Prop where
  ok : ∀ f c, S f = some c → ∀ args H K, c args H K → Runs P cfg f args H K
  mono : ∀ f c, S f = some c → ∀ args H (K K' : AEnd → AH D → Prop), (∀ r H', K r H' → K' r H') → c args H K → c args H K'

theorem AC.mono {C : Sg D} (mono : CallMono C.call) (F : Nat) : ∀ (c : AC) (Q Q' : AExit → (Nat → Value) → AH D → Prop) (tm : Nat → Value) (H : AH D), (∀ e tm H, Q e tm H → Q' e tm H) → c.wp C F Q tm H → c.wp C F Q' tm H := by
  have kmono : ∀ (op : AK) (tm : Nat → Value) (H : AH D) (K K' E E' : Value → AH D → Prop), (∀ v H, K v H → K' v H) → (∀ v H, E v H → E' v H) → op.wp C.call tm H K E → op.wp C.call tm H K' E' := by
    intro op tm H K K' E E' hK hE h
    unfold AK.wp at h ⊢
    split at h
    · split at h
      · refine mono _ _ _ _ _ (fun r H' hh => ?_) h
        cases r with
        | ret v => exact hK _ _ hh
        | pan v => exact hE _ _ hh
      · exact h.elim
    · split at h
      · exact hE _ _ h
      · exact h.elim
    · split at h
      · exact hK _ _ h
      · exact h.elim
  have imono : ∀ (i : AIns) (tm : Nat → Value) (H : AH D) (K K' : (Nat → Value) → AH D → Prop) (E E' : Value → AH D → Prop), (∀ v H, K v H → K' v H) → (∀ v H, E v H → E' v H) → i.wp C.call tm H K E → i.wp C.call tm H K' E' := by
    intro i tm H K K' E E' hK hE h
    unfold AIns.wp at h ⊢
    split at h
    · exact kmono _ _ _ _ _ _ _ (fun v H hh => hK _ _ hh) hE h
    · split at h
      · split at h
        · rename_i hb
          try rw [if_pos hb]
          exact kmono _ _ _ _ _ _ _ (fun v H hh => hK _ _ hh) hE h
        · rename_i hb
          try rw [if_neg hb]
          exact hK _ _ h
      · exact h.elim
  have lmono : ∀ (l : List AIns) (tm : Nat → Value) (H : AH D) (K K' : (Nat → Value) → AH D → Prop) (E E' : Value → (Nat → Value) → AH D → Prop), (∀ v H, K v H → K' v H) → (∀ v tm H, E v tm H → E' v tm H) → insL C l tm H K E → insL C l tm H K' E' := by
    intro l
    induction l with
    | nil => intro tm H K K' E E' hK _ h; exact hK _ _ h
    | cons i l ih =>
      intro tm H K K' E E' hK hE h
      exact imono i tm _ _ _ _ _ (fun tm' H' hh => ih tm' H' K K' E E' hK hE hh) (fun v H' hh => hE _ _ _ hh) h
  have dmono : ∀ (t : DT) (tm : Nat → Value) (H : AH D) (K K' : (Nat → Value) → AH D → Prop), (∀ v H, K v H → K' v H) → t.wp C.call tm H K → t.wp C.call tm H K' := by
    intro t
    induction t with
    | nil => intro tm H K K' hK h; exact hK _ _ h
    | quiet i t ih => intro tm H K K' hK h; exact imono i tm H _ _ _ _ (fun tm' H' hh => ih tm' H' K K' hK hh) (fun _ _ hh => hh) h
    | loud i chk t ih => intro tm H K K' hK h; exact imono i tm H _ _ _ _ (fun tm' H' hh => ⟨hh.1, ih tm' H' K K' hK hh.2⟩) (fun _ _ hh => hh) h
    | both a b iha ihb => intro tm H K K' hK h; exact ⟨iha tm H K K' hK h.1, ihb tm H K K' hK h.2⟩
    | bad => intro tm H K K' hK h; exact h
  intro c
  induction c with
  | skip => intro Q Q' tm H hq h; exact hq _ _ _ h
  | reg l => intro Q Q' tm H hq h; exact lmono l tm H _ _ _ _ (fun _ _ hh => hq _ _ _ hh) (fun _ _ _ hh => hq _ _ _ hh) h
  | dreg l =>
    intro Q Q' tm H hq h
    exact dmono l tm _ _ _ (fun _ _ hh => hq _ _ _ hh) h
  | seq a b iha ihb =>
    intro Q Q' tm H hq h
    refine iha _ _ tm H (fun e tm' H' hh => ?_) h
    cases e with
    | normal => exact ihb _ _ tm' H' hq hh
    | _ => exact hq _ _ _ hh
  | cond c a b iha ihb =>
    intro Q Q' tm H hq h
    simp only [AC.wp] at h ⊢
    split at h
    · split at h
      · rename_i hb
        try rw [if_pos hb]
        exact iha _ _ tm H hq h
      · rename_i hb
        try rw [if_neg hb]
        exact ihb _ _ tm H hq h
    · exact h.elim
  | block id a ih =>
    intro Q Q' tm H hq h
    refine ih _ _ tm H (fun e tm' H' hh => ?_) h
    cases e with
    | exit j =>
      simp only at hh ⊢
      split at hh
      · rename_i hj; rw [if_pos hj]; exact hq _ _ _ hh
      · rename_i hj; rw [if_neg hj]; exact hq _ _ _ hh
    | _ => exact hq _ _ _ hh
  | loop a ih =>
    intro Q Q' tm H hq h
    have key : ∀ N m tm H, loopN C.view N (a.wp C F) m Q tm H → loopN C.view N (a.wp C F) m Q' tm H := by
      intro N m
      induction m with
      | zero => intro tm H h; exact h
      | succ m ihm =>
        intro tm H h
        refine ih _ _ tm H (fun e tm' H' hh => ?_) h
        cases e with
        | normal =>
          rcases hh with hh | ⟨tm2, H2, hs, hh⟩
          · exact .inl (ihm tm' H' hh)
          · exact .inr ⟨tm2, H2, hs, ihm tm2 H2 hh⟩
        | _ => exact hq _ _ _ hh
    rcases h with h | ⟨tm2, H2, hs, h⟩
    · exact .inl (key H.next F tm H h)
    · exact .inr ⟨tm2, H2, hs, key H.next F tm2 H2 h⟩
  | exit id => intro Q Q' tm H hq h; exact hq _ _ _ h
  | scope a ih =>
    intro Q Q' tm H hq h
    refine ih _ _ tm H (fun e tm' H' hh => ?_) h
    cases e with
    | goto l => exact hh.elim
    | _ => exact hq _ _ _ hh
  | label l => intro Q Q' tm H hq h; exact hq _ _ _ h
  | goto l => intro Q Q' tm H hq h; exact hq _ _ _ h
  | ret => intro Q Q' tm H hq h; exact hq _ _ _ h

theorem AF.mono {C : Sg D} (mono : CallMono C.call) (F : Nat) (af : AF) (args : List Value) (H : AH D) (K K' : AEnd → AH D → Prop) (hk : ∀ r H', K r H' → K' r H') (h : af.run C F args H K) : af.run C F args H K' := by
  refine ⟨h.1, AC.mono mono F af.body _ _ _ H (fun e tm H' hh => ?_) h.2⟩
  cases e with
  | normal => simp only at hh ⊢; split at hh <;> first | exact hk _ _ hh | exact hh.elim
  | ret => simp only at hh ⊢; split at hh <;> first | exact hk _ _ hh | exact hh.elim
  | pan v => exact hk _ _ hh
  | _ => exact hh.elim

variable {S : FuncId → Option (List Value → AH D → (AEnd → AH D → Prop) → Prop)} {T : FuncId → Option AF} {G : CallT D → Sg D}

/-- What a function's text is run with, but for the calls. -/
structure GOk (P : Program) (cfg : D → HRep) (G : CallT D → Sg D) : Prop where
  call : ∀ C, (G C).call = C
  opn : ∀ C H k H1, (G C).opn H k = some H1 → SeesG P cfg H H1
  see : ∀ C H H1, (G C).see H H1 → SeesG P cfg H H1
  view : ∀ C, ViewOk P cfg (G C).view

theorem callX_mono (hG : GOk P cfg G) (hS : SpecOk P cfg S) (F : Nat) : ∀ d, CallMono (callX G S T F d)
  | 0 => fun f args H K K' hk h => by
    unfold callX at h ⊢
    split at h
    · rename_i c hc
      try rw [hc]
      exact hS.mono f c hc args H K K' hk h
    · exact h.elim
  | d + 1 => fun f args H K K' hk h => by
    unfold callX at h ⊢
    split at h
    · rename_i c hc
      try rw [hc]
      exact hS.mono f c hc args H K K' hk h
    · split at h
      · exact AF.mono (C := G (callX G S T F d)) (by rw [hG.call]; exact callX_mono hG hS F d) F _ args H K K' hk h
      · exact h.elim

theorem callX_ok (hG : GOk P cfg G) (hmix : P.follows .mixedOrders = true) (hext : ExtOk P ext) (hS : SpecOk P cfg S) (hT : ∀ f af, T f = some af → AFOk P ext f af) (F : Nat) : ∀ d, CallOk P cfg (callX G S T F d)
  | 0 => fun f args H K h => by
    unfold callX at h
    split at h
    · rename_i c hc; exact hS.ok f c hc args H K h
    · exact h.elim
  | d + 1 => fun f args H K h => by
    unfold callX at h
    split at h
    · rename_i c hc; exact hS.ok f c hc args H K h
    · split at h
      · rename_i af haf
        exact runs_of_body hmix (C := G (callX G S T F d)) ⟨by rw [hG.call]; exact callX_ok hG hmix hext hS hT F d, hG.opn _, hG.see _, hG.view _⟩ (by rw [hG.call]; exact callX_mono hG hS F d) hext (hT f af haf) h
      · exact h.elim

theorem semV_ok : ViewOk P cfg (semV P cfg) := fun _ _ _ _ _ h => h

/-- THE RULE: what a function's plain form comes to, its calls come to. -/
theorem runs_of (hG : GOk P cfg G) (hmix : P.follows .mixedOrders = true) (hext : ExtOk P ext) (hS : SpecOk P cfg S) (hT : ∀ f af, T f = some af → AFOk P ext f af) (F d : Nat) {f : FuncId} {af : AF} (hf : T f = some af) {args : List Value} {H : AH D} {K : AEnd → AH D → Prop} (h : af.run (G (callX G S T F d)) F args H K) : Runs P cfg f args H K :=
  runs_of_body hmix (C := G (callX G S T F d)) ⟨by rw [hG.call]; exact callX_ok hG hmix hext hS hT F d, hG.opn _, hG.see _, hG.view _⟩ (by rw [hG.call]; exact callX_mono hG hS F d) hext (hT f af hf) h

end
end Go.Abs
