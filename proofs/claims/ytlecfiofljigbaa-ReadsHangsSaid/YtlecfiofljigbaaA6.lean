/-
  Each operation of the plain form but append: what it does to the abstract heap, the loaded one does to the world.
-/
import Derived.Test.YtlecfiofljigbaaA5
set_option linter.unusedSimpArgs false
set_option linter.unusedVariables false
set_option linter.unnecessarySimpa false
set_option linter.unusedSectionVars false
namespace Go.Abs
open Go.RowKit

section
variable {D : Type} {P : Program} {cfg : D → HRep} {ρ : Env} {own : Nat → Nat → Prop} {H : AH D} {w : World}

theorem bin_ok {op : BinOp} {x y v x' y' : Value} (h : abin op x y = some v) (hx : VR ρ x x') (hy : VR ρ y y') (t : TypeId) (a b : Operand) :
    (do eqGuard op t a b x' y'; binOp op t x' y').run P w = .ok v w ∧ VR ρ v v := by
  unfold abin at h
  split at h
  · rename_i k a0 k' b0
    cases hx; cases hy
    have hg : ∀ op, (eqGuard op t a b (.int k a0) (.int k' b0)).run P w = .ok () w := fun op => by cases op <;> rfl
    rw [Sem.run_bind, hg, Result.andThen_ok]
    cases op <;> simp only at h
    case shl =>
      split at h
      · cases h
      · rename_i hn; cases h
        exact ⟨by simp [binOp, Op.shift, hn], .int _ _⟩
    case shr =>
      split at h
      · cases h
      · rename_i hn; cases h
        exact ⟨by simp [binOp, Op.shift, hn], .int _ _⟩
    all_goals
      split at h
      · cases h
      · rename_i hk
        have hk : k = k' := by simpa using hk
        subst hk
        first
          | (cases h; exact ⟨by simp [binOp, Op.intArith, Op.intBits, Op.intCmp], by constructor⟩)
          | (split at h
             · cases h
             · rename_i hn; cases h; exact ⟨by simp [binOp, Op.intDiv, hn], by constructor⟩)
  · rename_i k a0 k' b0
    cases hx; cases hy
    have hg : ∀ op, (eqGuard op t a b (.float k a0) (.float k' b0)).run P w = .ok () w := fun op => by cases op <;> rfl
    rw [Sem.run_bind, hg, Result.andThen_ok]
    split at h
    · cases h
    · rename_i hk
      have hk : k = k' := by simpa using hk
      subst hk
      cases op <;> simp only at h <;> first | (cases h; done) | (cases h; exact ⟨by simp [binOp, Op.floatCmp], by constructor⟩)
  · rename_i a0 b0
    cases hx; cases hy
    have hg : ∀ op, (eqGuard op t a b (.string a0) (.string b0)).run P w = .ok () w := fun op => by cases op <;> rfl
    rw [Sem.run_bind, hg, Result.andThen_ok]
    cases op <;> simp only at h
    case add =>
      split at h
      · rename_i hle; cases h
        refine ⟨?_, .string _⟩
        have : ¬ (((a0.size + b0.size : Nat) : Int) > IntKind.i64.max) := by
          have hm : IntKind.i64.max = 9223372036854775807 := by decide
          rw [hm]; omega
        simp only [binOp, Op.stringOp]
        rw [if_neg this]; rfl
      · cases h
    all_goals first | (cases h; done) | (cases h; exact ⟨by simp [binOp, Op.stringOp], by constructor⟩)
  · cases h

theorem un_ok {op : UnOp} {x v x' : Value} (h : aun op x = some v) (hx : VR ρ x x') : (Op.unary op x').run P w = .ok v w ∧ VR ρ v v := by
  unfold aun at h
  split at h <;> first | (cases h; done) | skip
  all_goals (cases h; cases hx; exact ⟨by simp [Op.unary, Op.intArith, Op.intBits], by constructor⟩)

theorem guard_ok {op : BinOp} {t : TypeId} (hg : P.eqGuardType P.depth t = false) {s : Sh} {x y : Value} {b : Bool} (h : aeq s x y = some b) {x' y' : Value} (hx : VR ρ x x') (hy : VR ρ y y') (a c : Operand) (w : World) :
    (eqGuard op t a c x' y').run P w = .ok () w := by
  have nn : ¬ (x = .nilIface ∧ y = .nilIface) := by
    rintro ⟨rfl, rfl⟩
    cases s <;> simp [aeq, eqBool, eqInt, eqStr, eqPtr, eqSlc, eqMp, eqFnc, aggOf2] at h
  have nx : ∀ c, x ≠ .chan c := by
    rintro c rfl
    cases s <;> simp [aeq, eqBool, eqInt, eqStr, eqPtr, eqSlc, eqMp, eqFnc, aggOf2] at h
  have ny : ∀ c, y ≠ .chan c := by
    rintro c rfl
    cases s <;> cases x <;> simp [aeq, eqBool, eqInt, eqStr, eqPtr, eqSlc, eqMp, eqFnc, aggOf2] at h
  cases hx <;> cases hy <;> first
    | (exact run_eqGuard_agg w op t a c _ _ hg)
    | (exact absurd ⟨rfl, rfl⟩ nn)
    | (exact absurd rfl (nx _))
    | (exact absurd rfl (ny _))
    | (cases op <;> rfl)

theorem eq_ok {t : TypeId} {s : Sh} (hs : shOf P 20 t = some s) (hg : P.eqGuardType P.depth t = false) (hnum : ∀ k, P.underlying t ≠ some (.int k)) (hstr : P.underlying t ≠ some .string)
    {x y x' y' : Value} {b : Bool} (h : aeq s x y = some b) (hx : VR ρ x x') (hy : VR ρ y y') (a c : Operand) (w : World) :
    (do eqGuard .eql t a c x' y'; binOp .eql t x' y').run P w = .ok (.bool b) w ∧ (do eqGuard .neq t a c x' y'; binOp .neq t x' y').run P w = .ok (.bool (!b)) w := by
  have he : (Op.equal t x' y').run P w = .ok b w := eq_claim P 20 t s hs ρ x y x' y' b h hx hy w Op.maxDepth (by decide)
  have key : binOp .eql t x' y' = (do pure (.bool (← Op.equal t x' y'))) ∧ binOp .neq t x' y' = (do pure (.bool (!(← Op.equal t x' y')))) := by
    have h1 : ∀ k a, x ≠ .int k a := fun k a e => by
      subst e
      unfold shOf at hs
      split at hs <;> first
        | (rename_i hu; exact hnum _ hu)
        | (cases hs; simp [aeq, eqBool, eqStr, eqPtr, eqSlc, eqMp, eqFnc] at h; done)
        | skip
      · split at hs
        · cases hs
        · simp only [Option.map_eq_some_iff] at hs; obtain ⟨_, _, rfl⟩ := hs; simp [aeq, aggOf2] at h
      · simp only [Option.bind_eq_some_iff, Option.map_eq_some_iff] at hs; obtain ⟨_, _, _, _, _, _, rfl⟩ := hs; simp [aeq, aggOf2] at h
      · cases hs
    have h2 : ∀ a, x ≠ .string a := fun a e => by
      subst e
      unfold shOf at hs
      split at hs <;> first
        | (rename_i hu; exact hstr hu)
        | (cases hs; simp [aeq, eqBool, eqInt, eqPtr, eqSlc, eqMp, eqFnc] at h; done)
        | skip
      · split at hs
        · cases hs
        · simp only [Option.map_eq_some_iff] at hs; obtain ⟨_, _, rfl⟩ := hs; simp [aeq, aggOf2] at h
      · simp only [Option.bind_eq_some_iff, Option.map_eq_some_iff] at hs; obtain ⟨_, _, _, _, _, _, rfl⟩ := hs; simp [aeq, aggOf2] at h
      · cases hs
    have h3 : ∀ k a, x ≠ .float k a := fun k a e => by
      subst e
      cases s <;> simp [aeq, eqBool, eqInt, eqStr, eqPtr, eqSlc, eqMp, eqFnc, aggOf2] at h
    have h4 : ∀ c, x ≠ .chan c := fun c e => by
      subst e
      cases s <;> simp [aeq, eqBool, eqInt, eqStr, eqPtr, eqSlc, eqMp, eqFnc, aggOf2] at h
    cases hx <;> first
      | (exact absurd rfl (h4 _))
      | (exact absurd rfl (h1 _ _))
      | (exact absurd rfl (h2 _))
      | (exact absurd rfl (h3 _ _))
      | (exact ⟨rfl, rfl⟩)
  rw [key.1, key.2]
  constructor
  · rw [Sem.run_bind, guard_ok hg h hx hy, Result.andThen_ok, Sem.run_bind, he]; rfl
  · rw [Sem.run_bind, guard_ok hg h hx hy, Result.andThen_ok, Sem.run_bind, he]; rfl

/-! ### fill -/

theorem fillAt : ∀ (cs : List Value) (off : Nat) (cells : Array Value), off + cs.length ≤ cells.size →
    ((cs.zipIdx.foldl (fun a (c, j) => a.setIfInBounds (off + j) c) cells).toList = setMany cells.toList off cs) := by
  intro cs
  have key : ∀ (cs : List Value) (off k : Nat) (cells : Array Value), ((cs.zipIdx k).foldl (fun a (c, j) => a.setIfInBounds (off + j) c) cells).toList = setMany cells.toList (off + k) cs := by
    intro cs
    induction cs with
    | nil => intro off k cells; rfl
    | cons v l ih =>
      intro off k cells
      simp only [List.zipIdx_cons, List.foldl_cons, setMany]
      rw [ih off (k + 1)]
      simp [Array.toList_setIfInBounds, Nat.add_assoc]
  exact fun off cells _ => key cs off 0 cells

theorem fill_ok {place : Nat → Option (Nat × Nat)} {n : Nat} {tm : Nat → Value} {a : Act} (htm : TmRel ρ n tm a.tmps) : ∀ (parts : List (Nat × Operand)) (ps : List (Nat × Nat × Opd)), partsOf n place parts = some ps →
    ∀ (cells : List Value) (cells' : Array Value) (l : List Value), VRs ρ cells cells'.toList → fillL cells (ps.map fun p => (p.1, p.2.1, p.2.2.ev tm)) = some l →
    ∃ l', Instr.fill place cells' (parts.map fun p => (p.1, a.eval p.2)) = some l' ∧ VRs ρ l l'.toList
  | [], ps, h, cells, cells', l, hc, hf => by
    simp [partsOf] at h; subst h
    simp [fillL] at hf; subst hf
    exact ⟨cells', by simp [Instr.fill], hc⟩
  | (i, x) :: parts, ps, h, cells, cells', l, hc, hf => by
    simp only [partsOf, Option.bind_eq_some_iff, Option.map_eq_some_iff] at h
    obtain ⟨p, hp, y, hy, r, hr, rfl⟩ := h
    simp only [List.map_cons, fillL] at hf
    have hxv := opd_ok htm hy
    have hsz := hxv.cells_size
    have hlen := hc.length
    split at hf
    · cases hf
    · rename_i hb
      obtain ⟨l', hl', hv⟩ := fill_ok htm parts r hr _ ((a.eval x).cells.zipIdx.foldl (fun cs (c, j) => cs.setIfInBounds (p.1 + j) c) cells') l (by
        rw [← Array.foldl_toList, Array.toList_zipIdx, fillAt _ _ _ (by
          simp only [Bool.or_eq_true, decide_eq_true_eq, not_or, Decidable.not_not] at hb
          simp only [Array.length_toList] at hlen ⊢
          omega)]
        exact hxv.cells.setMany hc p.1) hf
      refine ⟨l', ?_, hv⟩
      simp only [List.map_cons, Instr.fill, hp]
      have hb' : ¬ ((a.eval x).cells.size ≠ p.2 || p.1 + (a.eval x).cells.size > cells'.size) = true := by
        simp only [Bool.or_eq_true, decide_eq_true_eq, not_or, Decidable.not_not] at hb
        simp only [Array.length_toList] at hlen
        simp only [Bool.or_eq_true, decide_eq_true_eq, not_or]
        omega
      rw [if_neg hb']
      exact hl'

end
end Go.Abs
