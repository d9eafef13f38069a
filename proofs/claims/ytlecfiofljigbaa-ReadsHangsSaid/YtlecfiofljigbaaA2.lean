/-
  The abstract heap, what it is for a world to be one, and what a call comes to over it.
-/
import Derived.Test.YtlecfiofljigbaaA1
set_option linter.unusedSimpArgs false
set_option linter.unusedVariables false
set_option linter.unnecessarySimpa false
set_option linter.unusedSectionVars false
namespace Go.Abs
open Go.RowKit

/-- What lies under a key. -/
inductive AObj (D : Type) where
  | arr (e : TypeId) (cs : List Value)        -- a row of the run's own: its first cells
  | ro (cs : List Value)                      -- some cells of a row that nobody writes
  | map (es : List MapEntry) (clock : Nat)
  | miter (m : Nat) (since : Nat) (seen : List Nat) (stepped : Nat)
  | siter (s : ByteArray) (pos : Nat)
  | hi (d : D)

/-- The heap: keys from next on are free. -/
structure AH (D : Type) where
  next : Nat
  get : Nat → Option (AObj D)

/-- How a datum lies in a world: where it begins, the blocks that are its own. It hangs on those alone. -/
structure HRep where
  holds : Loc → (Nat → Prop) → World → Prop
  keep : ∀ l own w w', (∀ i, own i → w'.heap[i]? = w.heap[i]?) → holds l own w → holds l own w'

inductive VE (ρ : Env) : List MapEntry → List MapEntry → Prop
  | nil : VE ρ [] []
  | cons (k k' v v' : Value) (n : Nat) (l l' : List MapEntry) : VR ρ k k' → VR ρ v v' → VE ρ l l' → VE ρ (⟨k, v, n⟩ :: l) (⟨k', v', n⟩ :: l')

section
variable {D : Type} (P : Program) (cfg : D → HRep)

/-- One key's object lies in the world. -/
def ObjOk (ρ : Env) (own : Nat → Prop) (k : Nat) (o : AObj D) (w : World) : Prop :=
  match o with
  | .arr e cs => (∃ l cs', ρ.loc k = some l ∧ l.base = 0 ∧ l.s = P.cellsOf e ∧ l.tot = cs'.size ∧ (∀ i, own i ↔ i = l.b) ∧ w.heap[l.b]? = some (.cells cs' e (0, 0)) ∧
      cs.length ≤ cs'.size ∧ VRs ρ cs (cs'.toList.take cs.length) ∧ cs.all (·.oneCell') = true) ∨
      (cs = [] ∧ (∀ i, ¬ own i) ∧ ∃ l, ρ.loc k = some l ∧ l.base = 0 ∧ l.s = P.cellsOf e ∧ l.tot = 0)
  | .ro cs => (∀ i, ¬ own i) ∧ (cs ≠ [] → ∃ l cs' e fr, ρ.loc k = some l ∧ w.heap[l.b]? = some (.cells cs' e fr) ∧ l.base + cs.length ≤ cs'.size ∧
      VRs ρ cs ((cs'.toList.drop l.base).take cs.length) ∧ cs.all (·.oneCell') = true)
  | .map es clock => ∃ l es', ρ.loc k = some l ∧ (∀ i, own i ↔ i = l.b) ∧ w.heap[l.b]? = some (.map es' clock) ∧ VE ρ es es'.toList
  | .miter m since seen stepped => ∃ l lm, ρ.loc k = some l ∧ l.base = 0 ∧ (∀ i, own i ↔ i = l.b) ∧ ρ.loc m = some lm ∧ w.heap[l.b]? = some (.mapIter (some lm.b) since seen.toArray stepped)
  | .siter s pos => ∃ l, ρ.loc k = some l ∧ l.base = 0 ∧ (∀ i, own i ↔ i = l.b) ∧ w.heap[l.b]? = some (.stringIter s pos)
  | .hi d => ∃ l, ρ.loc k = some l ∧ l.base = 0 ∧ own l.b ∧ (cfg d).holds l own w

/-- THE WORLD IS THE HEAP: each key's object lies there, in blocks that are its own. -/
structure Rel (ρ : Env) (own : Nat → Nat → Prop) (H : AH D) (w : World) : Prop where
  fresh : ∀ k, H.next ≤ k → H.get k = none
  dom : ∀ k, H.next ≤ k → ρ.loc k = none
  obj : ∀ k o, H.get k = some o → ObjOk P cfg ρ (own k) k o w
  gone : ∀ k, H.get k = none → ∀ b, ¬ own k b
  bound : ∀ k b, own k b → b < w.heap.size
  disj : ∀ k k' b, own k b → own k' b → k = k'
  ro : ∀ k cs, H.get k = some (.ro cs) → cs ≠ [] → ∀ l, ρ.loc k = some l → ∀ k', ¬ own k' l.b

/-- From one world to a later one: places stay, what is owned was owned or is new, and all that nobody owns is as it was. -/
structure Ext (ρ : Env) (own : Nat → Nat → Prop) (w : World) (ρ' : Env) (own' : Nat → Nat → Prop) (w' : World) : Prop where
  le : ρ.le ρ'
  owned : ∀ k b, own' k b → (∃ k0, own k0 b) ∨ w.heap.size ≤ b
  size : w.heap.size ≤ w'.heap.size
  kept : ∀ b, b < w.heap.size → (∀ k, ¬ own k b) → w'.heap[b]? = w.heap[b]?
  os : w'.os = w.os
  tape : w'.tape = w.tape
  output : w'.output = w.output

theorem Ext.refl (ρ : Env) (own : Nat → Nat → Prop) (w : World) : Ext ρ own w ρ own w :=
  ⟨ρ.le_refl, fun k b h => .inl ⟨k, h⟩, Nat.le_refl _, fun _ _ _ => rfl, rfl, rfl, rfl⟩

theorem Ext.trans {ρ ρ1 ρ2 : Env} {own own1 own2 : Nat → Nat → Prop} {w w1 w2 : World} (h : Ext ρ own w ρ1 own1 w1) (k : Ext ρ1 own1 w1 ρ2 own2 w2) : Ext ρ own w ρ2 own2 w2 where
  le := Env.le_trans h.le k.le
  owned := fun i b hb => by
    rcases k.owned i b hb with ⟨k0, h0⟩ | h0
    · exact h.owned _ _ h0
    · exact .inr (Nat.le_trans h.size h0)
  size := Nat.le_trans h.size k.size
  kept := fun b hb hn => by
    rw [k.kept b (Nat.lt_of_lt_of_le hb h.size) (fun i hi => ?_), h.kept b hb hn]
    rcases h.owned i b hi with ⟨k0, h0⟩ | h0
    · exact hn _ h0
    · omega
  os := k.os.trans h.os
  tape := k.tape.trans h.tape
  output := k.output.trans h.output

/-- A draw turns nothing. -/
theorem Rel.drew {ρ : Env} {own : Nat → Nat → Prop} {H : AH D} {w w' : World} (h : Rel P cfg ρ own H w) (hh : w'.heap = w.heap) : Rel P cfg ρ own H w' where
  fresh := h.fresh
  dom := h.dom
  obj := fun k o hk => by
    have := h.obj k o hk
    cases o <;> simp only [ObjOk] at this ⊢ <;> (try rw [hh]) <;> first | exact this | skip
    obtain ⟨l, h1, h2, h3, h4⟩ := this
    exact ⟨l, h1, h2, h3, (cfg _).keep _ _ _ _ (fun i _ => by rw [hh]) h4⟩
  gone := h.gone
  bound := fun k b hb => by rw [hh]; exact h.bound k b hb
  disj := h.disj
  ro := h.ro

theorem VE.mono {ρ ρ' : Env} (h : ρ.le ρ') : ∀ {l l' : List MapEntry}, VE ρ l l' → VE ρ' l l'
  | _, _, .nil => .nil
  | _, _, .cons k k' v v' n l l' h1 h2 h3 => .cons k k' v v' n l l' (h1.mono h) (h2.mono h) (VE.mono h h3)

/-- An object abides where its own blocks (a row that nobody writes: its block) abide. -/
theorem ObjOk.keep {ρ ρ' : Env} {own : Nat → Prop} {k : Nat} {o : AObj D} {w w' : World} (hle : ρ.le ρ') (h : ObjOk P cfg ρ own k o w)
    (hk : ∀ b, own b → w'.heap[b]? = w.heap[b]?) (hro : ∀ cs l, o = .ro cs → cs ≠ [] → ρ.loc k = some l → w'.heap[l.b]? = w.heap[l.b]?) : ObjOk P cfg ρ' own k o w' := by
  cases o with
  | arr e cs =>
    rcases h with ⟨l, cs', h1, h2, h3, h4, h5, h6, h7, h8, h9⟩ | ⟨h1, h2, l, h3, h4, h5, h6⟩
    · exact .inl ⟨l, cs', hle _ _ h1, h2, h3, h4, h5, (hk l.b ((h5 l.b).2 rfl)).trans h6, h7, h8.mono hle, h9⟩
    · exact .inr ⟨h1, h2, l, hle _ _ h3, h4, h5, h6⟩
  | ro cs =>
    refine ⟨h.1, fun hne => ?_⟩
    obtain ⟨l, cs', e, fr, h1, h3, h4, h5, h6⟩ := h.2 hne
    exact ⟨l, cs', e, fr, hle _ _ h1, (hro cs l rfl hne h1).trans h3, h4, h5.mono hle, h6⟩
  | map es clock =>
    obtain ⟨l, es', h1, h2, h3, h4⟩ := h
    exact ⟨l, es', hle _ _ h1, h2, (hk l.b ((h2 l.b).2 rfl)).trans h3, h4.mono hle⟩
  | miter m since seen stepped =>
    obtain ⟨l, lm, h1, h0, h2, h3, h4⟩ := h
    exact ⟨l, lm, hle _ _ h1, h0, h2, hle _ _ h3, (hk l.b ((h2 l.b).2 rfl)).trans h4⟩
  | siter s pos =>
    obtain ⟨l, h1, h0, h2, h3⟩ := h
    exact ⟨l, hle _ _ h1, h0, h2, (hk l.b ((h2 l.b).2 rfl)).trans h3⟩
  | hi d =>
    obtain ⟨l, h1, h0, h2, h3⟩ := h
    exact ⟨l, hle _ _ h1, h0, h2, (cfg d).keep _ _ _ _ hk h3⟩

/-! ### The heap's own steps -/

def AH.upd (H : AH D) (k : Nat) (o : AObj D) : AH D := { H with get := fun j => if j = k then some o else H.get j }
def AH.del (H : AH D) (k : Nat) : AH D := { H with get := fun j => if j = k then none else H.get j }
def AH.add (H : AH D) (o : AObj D) : AH D := { next := H.next + 1, get := fun j => if j = H.next then some o else H.get j }

@[simp] theorem AH.next_upd (H : AH D) (k : Nat) (o : AObj D) : (H.upd k o).next = H.next := rfl
@[simp] theorem AH.next_del (H : AH D) (k : Nat) : (H.del k).next = H.next := rfl
@[simp] theorem AH.next_add (H : AH D) (o : AObj D) : (H.add o).next = H.next + 1 := rfl
theorem AH.get_upd (H : AH D) (k : Nat) (o : AObj D) (j : Nat) : (H.upd k o).get j = if j = k then some o else H.get j := rfl
theorem AH.get_del (H : AH D) (k j : Nat) : (H.del k).get j = if j = k then none else H.get j := rfl
theorem AH.get_add (H : AH D) (o : AObj D) (j : Nat) : (H.add o).get j = if j = H.next then some o else H.get j := rfl

variable {P} {cfg}
variable {ρ : Env} {own : Nat → Nat → Prop} {H : AH D} {w : World}

theorem Rel.lt (h : Rel P cfg ρ own H w) {k : Nat} {o : AObj D} (hk : H.get k = some o) : k < H.next := by
  rcases Nat.lt_or_ge k H.next with hlt | hge
  · exact hlt
  · rw [h.fresh k hge] at hk; cases hk

/-- One key's object is another one, in its own block, that has turned. -/
theorem Rel.turn (h : Rel P cfg ρ own H w) {k b : Nat} {o o' : AObj D} (hk : H.get k = some o) (hb : ∀ i, own k i ↔ i = b) {w' : World}
    (hsz : w'.heap.size = w.heap.size) (hoth : ∀ i, i ≠ b → w'.heap[i]? = w.heap[i]?) (hok : ObjOk P cfg ρ (own k) k o' w') (hnr : ∀ cs, o' ≠ .ro cs) :
    Rel P cfg ρ own (H.upd k o') w' := by
  refine ⟨fun j hj => ?_, h.dom, fun j x hj => ?_, fun j hj => ?_, fun j i hi => by rw [hsz]; exact h.bound j i hi, h.disj, fun j cs hj hcs => ?_⟩
  · rw [AH.get_upd]
    have := h.lt hk
    simp only [AH.next_upd] at hj
    rw [if_neg (by omega)]; exact h.fresh j hj
  · rw [AH.get_upd] at hj
    split at hj
    · rename_i e; subst e; cases hj; exact hok
    · rename_i hne
      refine (h.obj j x hj).keep P cfg ρ.le_refl (fun i hi => hoth i ?_) (fun cs l hx hcs hl => hoth l.b ?_)
      · rintro rfl
        exact hne (h.disj j k i hi ((hb i).2 rfl))
      · intro e
        subst hx
        exact h.ro j cs hj hcs _ hl k ((hb _).2 e)
  · rw [AH.get_upd] at hj
    split at hj
    · cases hj
    · exact h.gone j hj
  · rw [AH.get_upd] at hj
    split at hj
    · cases hj; exact absurd rfl (hnr cs)
    · exact h.ro j cs hj hcs

theorem Ext.turn {k b : Nat} (hb : own k b) {w' : World} (hsz : w'.heap.size = w.heap.size) (hoth : ∀ i, i ≠ b → w'.heap[i]? = w.heap[i]?)
    (hos : w'.os = w.os) (htape : w'.tape = w.tape) (hout : w'.output = w.output) : Ext ρ own w ρ own w' :=
  ⟨ρ.le_refl, fun j i hi => .inl ⟨j, hi⟩, by omega, fun i _ hn => hoth i (fun e => hn k (e ▸ hb)), hos, htape, hout⟩

/-- A key is forgotten. -/
theorem Rel.forget (h : Rel P cfg ρ own H w) (k : Nat) : Rel P cfg ρ (fun j b => j ≠ k ∧ own j b) (H.del k) w := by
  refine ⟨fun j hj => ?_, h.dom, fun j x hj => ?_, fun j hj b hb => ?_, fun j b hb => h.bound j b hb.2, fun j j' b hb hb' => h.disj j j' b hb.2 hb'.2, fun j cs hj hcs l hl k' hk' => ?_⟩
  · rw [AH.get_del]; split
    · rfl
    · exact h.fresh j hj
  · rw [AH.get_del] at hj
    split at hj
    · cases hj
    · rename_i hne
      have e : (fun b => j ≠ k ∧ own j b) = own j := by funext b; simp [hne]
      show ObjOk P cfg ρ (fun b => j ≠ k ∧ own j b) j x w
      rw [e]; exact h.obj j x hj
  · rw [AH.get_del] at hj
    split at hj
    · rename_i e; exact hb.1 e
    · exact h.gone j hj b hb.2
  · rw [AH.get_del] at hj
    split at hj
    · cases hj
    · exact h.ro j cs hj hcs l hl k' hk'.2

theorem Ext.forget (k : Nat) : Ext ρ own w ρ (fun j b => j ≠ k ∧ own j b) w :=
  ⟨ρ.le_refl, fun j b hb => .inl ⟨j, hb.2⟩, Nat.le_refl _, fun _ _ _ => rfl, rfl, rfl, rfl⟩

def Env.put (ρ : Env) (k : Nat) (l : Loc) : Env := ⟨fun j => if j = k then some l else ρ.loc j⟩
theorem Env.loc_put (ρ : Env) (k : Nat) (l : Loc) (j : Nat) : (ρ.put k l).loc j = if j = k then some l else ρ.loc j := rfl
theorem Env.put_le {k : Nat} {l : Loc} (h : ρ.loc k = none) : ρ.le (ρ.put k l) := fun j x hj => by
  rw [Env.loc_put]; split
  · rename_i e; subst e; rw [h] at hj; cases hj
  · exact hj

/-- A new block. -/
theorem Rel.alloc (h : Rel P cfg ρ own H w) (x : Obj) {o : AObj D} (hnr : ∀ cs, o ≠ .ro cs) (tot s : Nat)
    (hok : ObjOk P cfg (ρ.put H.next ⟨w.heap.size, 0, tot, s⟩) (fun b => b = w.heap.size) H.next o (w.alloc x)) :
    Rel P cfg (ρ.put H.next ⟨w.heap.size, 0, tot, s⟩) (fun j b => if j = H.next then b = w.heap.size else own j b) (H.add o) (w.alloc x) := by
  have hle : ρ.le (ρ.put H.next ⟨w.heap.size, 0, tot, s⟩) := Env.put_le (h.dom _ (Nat.le_refl _))
  have hro : ∀ j cs l, H.get j = some (.ro cs) → cs ≠ [] → ρ.loc j = some l → l.b < w.heap.size := fun j cs l hj hcs hl => by
    obtain ⟨l', cs', e, fr, h1, h3, _⟩ := (h.obj j _ hj).2 hcs
    rw [hl] at h1; cases h1
    exact (Array.getElem?_eq_some_iff.1 h3).1
  refine ⟨fun j hj => ?_, fun j hj => ?_, fun j y hj => ?_, fun j hj b hb => ?_, fun j b hb => ?_, fun j j' b hb hb' => ?_, fun j cs hj hcs l hl k' hk' => ?_⟩
  · simp only [AH.next_add] at hj
    rw [AH.get_add, if_neg (by omega)]; exact h.fresh j (by omega)
  · simp only [AH.next_add] at hj
    rw [Env.loc_put, if_neg (by omega)]; exact h.dom j (by omega)
  · rw [AH.get_add] at hj
    split at hj
    · rename_i e; subst e; cases hj
      simpa using hok
    · rename_i hne
      have := (h.obj j y hj).keep P cfg (w' := w.alloc x) hle (fun b hb => Below.heap_alloc w x b (h.bound j b hb)) (fun cs l hx hcs hl => by
        subst hx
        exact Below.heap_alloc w x _ (hro j cs l hj hcs hl))
      simpa [hne] using this
  · rw [AH.get_add] at hj
    split at hj
    · cases hj
    · rename_i hne
      simp only [if_neg hne] at hb
      exact h.gone j hj b hb
  · show b < (w.alloc x).heap.size
    simp only [World.size_alloc]
    split at hb
    · omega
    · have := h.bound j b hb; omega
  · split at hb <;> split at hb'
    · omega
    · have := h.bound j' b hb'; omega
    · have := h.bound j b hb; omega
    · exact h.disj j j' b hb hb'
  · rw [AH.get_add] at hj
    split at hj
    · cases hj; exact hnr cs rfl
    · rename_i hne
      rw [Env.loc_put, if_neg hne] at hl
      have hlt := hro j cs l hj hcs hl
      split at hk'
      · omega
      · exact h.ro j cs hj hcs l hl k' hk'

theorem Ext.alloc (h : Rel P cfg ρ own H w) (x : Obj) (l : Loc) : Ext ρ own w (ρ.put H.next l) (fun j b => if j = H.next then b = w.heap.size else own j b) (w.alloc x) where
  le := Env.put_le (h.dom _ (Nat.le_refl _))
  owned := fun j b hb => by
    split at hb
    · exact .inr (by omega)
    · exact .inl ⟨j, hb⟩
  size := by simp
  kept := fun b hb _ => Below.heap_alloc w x b hb
  os := rfl
  tape := rfl
  output := rfl

end
end Go.Abs
