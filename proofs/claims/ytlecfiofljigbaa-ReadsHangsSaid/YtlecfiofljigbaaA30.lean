/-
  LOOPS.
-/
import Derived.Test.YtlecfiofljigbaaA29
set_option linter.unusedSimpArgs false
set_option linter.unusedVariables false
set_option linter.unnecessarySimpa false
set_option linter.unusedSectionVars false
namespace Go.Abs

section
variable {D : Type} {C : Sg D} {F : Nat}

/-- Behind a round. -/
def roundQ (I : Nat → (Nat → Value) → AH D → Prop) (m : Nat) (Q : AExit → (Nat → Value) → AH D → Prop) : AExit → (Nat → Value) → AH D → Prop := fun e tm H => match e with
  | .normal => ∃ m', m' < m ∧ I m' tm H
  | e => Q e tm H

variable {I : Nat → (Nat → Value) → AH D → Prop} {m : Nat} {Q : AExit → (Nat → Value) → AH D → Prop} {tm : Nat → Value} {H : AH D}
theorem roundQ_normal : roundQ I m Q .normal tm H = ∃ m', m' < m ∧ I m' tm H := rfl
theorem roundQ_exit {j : Nat} : roundQ I m Q (.exit j) tm H = Q (.exit j) tm H := rfl
theorem roundQ_ret : roundQ I m Q .ret tm H = Q .ret tm H := rfl
theorem roundQ_pan {v : Value} : roundQ I m Q (.pan v) tm H = Q (.pan v) tm H := rfl

/-- Behind a round that may be seen otherwise. -/
def roundP (V : ViewT D) (N : Nat) (I : Nat → (Nat → Value) → AH D → Prop) (m : Nat) (tm : Nat → Value) (H : AH D) : Prop := ∃ tm2 H2, V N tm H tm2 H2 ∧ ∃ m', m' < m ∧ I m' tm2 H2
def roundV (V : ViewT D) (N : Nat) (I : Nat → (Nat → Value) → AH D → Prop) (m : Nat) (Q : AExit → (Nat → Value) → AH D → Prop) : AExit → (Nat → Value) → AH D → Prop := fun e tm H => match e with
  | .normal => roundP V N I m tm H
  | e => Q e tm H
variable {V : ViewT D} {N : Nat}
theorem roundV_normal : roundV V N I m Q .normal tm H = roundP V N I m tm H := rfl
theorem roundV_exit {j : Nat} : roundV V N I m Q (.exit j) tm H = Q (.exit j) tm H := rfl
theorem roundV_ret : roundV V N I m Q .ret tm H = Q .ret tm H := rfl
theorem roundV_pan {v : Value} : roundV V N I m Q (.pan v) tm H = Q (.pan v) tm H := rfl

/-- A LOOP: an invariant, and a number that falls. -/
theorem loop_inv (mono : CallMono C.call) (I : Nat → (Nat → Value) → AH D → Prop) {a : AC} {m : Nat} {tm : Nat → Value} {H : AH D} (h : I m tm H) (hm : m < F) (step : ∀ m tm H, I m tm H → a.wp C F (roundQ I m Q) tm H) : (AC.loop a).wp C F Q tm H := by
  have key : ∀ N f m tm H, m < f → I m tm H → loopN C.view N (a.wp C F) f Q tm H := by
    intro N f
    induction f with
    | zero => intro m tm H hm; omega
    | succ f ih =>
      intro m tm H hm h
      refine AC.mono mono F a _ _ tm H (fun e tm' H' hh => ?_) (step m tm H h)
      cases e with
      | normal =>
        obtain ⟨m', h1, h2⟩ := hh
        exact .inl (ih m' tm' H' (by omega) h2)
      | _ => exact hh
  exact .inl (key H.next F m tm H hm h)

/-- The same; it is seen otherwise behind each round, and ahead of the first one. -/
theorem loop_view (mono : CallMono C.call) (I : Nat → (Nat → Value) → AH D → Prop) {a : AC} {m : Nat} {tm : Nat → Value} {H : AH D} (h : roundP C.view H.next I (m + 1) tm H) (hm : m < F) (step : ∀ m tm H', I m tm H' → a.wp C F (roundV C.view H.next I m Q) tm H') : (AC.loop a).wp C F Q tm H := by
  have key : ∀ f m tm H', m < f → I m tm H' → loopN C.view H.next (a.wp C F) f Q tm H' := by
    intro f
    induction f with
    | zero => intro m tm H' hm; omega
    | succ f ih =>
      intro m tm H1 hm h
      refine AC.mono mono F a _ _ tm H1 (fun e tm' H' hh => ?_) (step m tm H1 h)
      cases e with
      | normal =>
        obtain ⟨tm2, H2, hs, m', h1, h2⟩ := hh
        exact .inr ⟨tm2, H2, hs, ih m' tm2 H2 (by omega) h2⟩
      | _ => exact hh
  obtain ⟨tm2, H2, hs, m', h1, h2⟩ := h
  exact .inr ⟨tm2, H2, hs, key F m' tm2 H2 (by omega) h2⟩

variable {P : Program} {frag : D → List (AObj D)}
/-- A round's end. -/
theorem round_plan {L : List (Option (AObj D))} (ps : List (Plan D)) (ks : List Nat) (l2 : List (Option (AObj D))) (m' : Nat) (hm : m' < m) (h : PlanOk frag L ps) (hn : NamesP N (planL L ps) ks l2) (hI : I m' (fun t => back (kap ks) (tm t)) (AH.of l2)) :
    roundP (semV P (cfgOf P frag)) N I m tm (AH.of L) := ⟨_, _, semV_plan ps ks h hn, m', hm, hI⟩
/-- The same; some slots say less. -/
theorem round_wk {L : List (Option (AObj D))} (ps : List (Plan D)) (ks : List Nat) (l2 : List (Option (AObj D))) (ws : List (Nat × Value)) (m' : Nat) (hm : m' < m) (h : PlanOk frag L ps) (hn : NamesP N (planL L ps) ks l2) (hw : leT (fun t => back (kap ks) (tm t)) ws) (hI : I m' (wkT (fun t => back (kap ks) (tm t)) ws) (AH.of l2)) :
    roundP (semV P (cfgOf P frag)) N I m tm (AH.of L) := ⟨_, _, semV_wk (semV_plan ps ks h hn) hw, m', hm, hI⟩
theorem round_same {hV : ∀ N (tm : Nat → Value) (H : AH D), V N tm H tm H} (m' : Nat) (hm : m' < m) (hI : I m' tm H) : roundP V N I m tm H := ⟨tm, H, hV N tm H, m', hm, hI⟩
theorem semV_refl {cfg : D → HRep} (N : Nat) (tm : Nat → Value) (H : AH D) : semV P cfg N tm H tm H := fun ρ own _ h => ⟨ρ, own, h, fun _ _ _ h => h, fun _ h => h, fun _ _ h => h⟩

end
attribute [simp ↓] roundQ_exit roundQ_ret roundQ_pan roundV_normal roundV_exit roundV_ret roundV_pan
attribute [simp] roundQ_normal
end Go.Abs
