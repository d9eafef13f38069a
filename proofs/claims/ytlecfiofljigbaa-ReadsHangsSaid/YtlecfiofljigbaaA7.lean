/-
  Rows, maps, slices: the lemmas that the operations lean on.
-/
import Derived.Test.YtlecfiofljigbaaA6
set_option linter.unusedSimpArgs false
set_option linter.unusedVariables false
set_option linter.unnecessarySimpa false
set_option linter.unusedSectionVars false
namespace Go.Abs
open Go.RowKit

section
variable {D : Type} {P : Program} {cfg : D → HRep} {ρ : Env} {own : Nat → Nat → Prop} {H : AH D} {w : World}

/-- A new row. -/
theorem Rel.newRow (hr : Rel P cfg ρ own H w) (e : TypeId) {cs : List Value} {cs' : Array Value} (hlen : cs.length ≤ cs'.size) (hv : VRs ρ cs (cs'.toList.take cs.length)) (h1 : cs.all (·.oneCell') = true) :
    ∃ ρ' own', ρ'.loc H.next = some ⟨w.heap.size, 0, cs'.size, P.cellsOf e⟩ ∧ Ext ρ own w ρ' own' (w.alloc (.cells cs' e)) ∧ Rel P cfg ρ' own' (H.add (.arr e cs)) (w.alloc (.cells cs' e)) := by
  refine ⟨ρ.put H.next ⟨w.heap.size, 0, cs'.size, P.cellsOf e⟩, _, by simp [Env.loc_put], Ext.alloc hr _ _, hr.alloc _ (by intro cs h; cases h) _ _ ?_⟩
  have hle : ρ.le (ρ.put H.next ⟨w.heap.size, 0, cs'.size, P.cellsOf e⟩) := Env.put_le (hr.dom _ (Nat.le_refl _))
  exact .inl ⟨⟨w.heap.size, 0, cs'.size, P.cellsOf e⟩, cs', by simp [Env.loc_put], rfl, rfl, rfl, fun i => Iff.rfl, heap_alloc_new w _, hlen, hv.mono hle, h1⟩

/-- A row of nothing, that lies nowhere. -/
theorem Rel.nilRow (hr : Rel P cfg ρ own H w) (e : TypeId) (g : Nat) :
    ∃ ρ' own', ρ'.loc H.next = some ⟨g, 0, 0, P.cellsOf e⟩ ∧ Ext ρ own w ρ' own' w ∧ (∀ b, (∃ j, own' j b) → ∃ j, own j b) ∧ Rel P cfg ρ' own' (H.add (.arr e [])) w := by
  have hle : ρ.le (ρ.put H.next ⟨g, 0, 0, P.cellsOf e⟩) := Env.put_le (hr.dom _ (Nat.le_refl _))
  have hno : ∀ j b, own j b → j ≠ H.next := fun j b hb e => by
    subst e
    exact hr.gone _ (hr.fresh _ (Nat.le_refl _)) b hb
  refine ⟨ρ.put H.next ⟨g, 0, 0, P.cellsOf e⟩, own, by simp [Env.loc_put], ⟨hle, fun j b hb => .inl ⟨j, hb⟩, Nat.le_refl _, fun _ _ _ => rfl, rfl, rfl, rfl⟩, fun b h => h, ⟨fun j hj => ?_, fun j hj => ?_, fun j y hj => ?_, fun j hj b hb => ?_, hr.bound, hr.disj, fun j cs hj hcs l hl k' hk' => ?_⟩⟩
  · simp only [AH.next_add] at hj
    rw [AH.get_add, if_neg (by omega)]; exact hr.fresh j (by omega)
  · simp only [AH.next_add] at hj
    rw [Env.loc_put, if_neg (by omega)]; exact hr.dom j (by omega)
  · rw [AH.get_add] at hj
    split at hj
    · rename_i hjn; subst hjn; cases hj
      exact .inr ⟨rfl, fun i hi => hno _ _ hi rfl, ⟨g, 0, 0, P.cellsOf e⟩, by simp [Env.loc_put], rfl, rfl, rfl⟩
    · exact (hr.obj j y hj).keep P cfg hle (fun _ _ => rfl) fun _ _ _ _ _ => rfl
  · rw [AH.get_add] at hj
    split at hj
    · cases hj
    · exact hr.gone j hj b hb
  · rw [AH.get_add] at hj
    split at hj
    · cases hj
    · rename_i hne
      rw [Env.loc_put, if_neg hne] at hl
      exact hr.ro j cs hj hcs l hl k' hk'

theorem VRs.take_all {l : List Value} {l' : Array Value} (h : VRs ρ l l'.toList) : VRs ρ l (l'.toList.take l.length) := by
  have := h.length
  rw [this, List.take_length]; exact h

theorem Rel.same (hr : Rel P cfg ρ own H w) {k : Nat} {o : AObj D} (hk : H.get k = some o) : Rel P cfg ρ own (H.upd k o) w := by
  have : H.upd k o = H := by
    unfold AH.upd
    cases H with
    | mk n g =>
      congr
      funext j
      simp only
      split
      · rename_i e; subst e; exact hk.symm
      · rfl
  rw [this]; exact hr

/-- A store into a row. -/
theorem Rel.storeRow (hr : Rel P cfg ρ own H w) {k o : Nat} {e : TypeId} {cs : List Value} (hk : H.get k = some (.arr e cs)) {l : List Value} {l' : List Value} (hv : VRs ρ l l') (h1 : l.all (·.oneCell') = true) (hfit : o + l.length ≤ cs.length) :
    ∃ lc w', ρ.loc k = some lc ∧ (storeCells ⟨lc.b, lc.base + o, none⟩ l').run P w = .ok () w' ∧ Ext ρ own w ρ own w' ∧ Rel P cfg ρ own (H.upd k (.arr e (setMany cs o l))) w' := by
  rcases hr.obj k _ hk with ⟨lc, cs', e1, e2, e3, e4, e5, e6, e7, e8, e9⟩ | ⟨rfl, _, lc, e1, _⟩
  case inr =>
    have hl0 : l = [] := by simp at hfit; exact hfit.2
    subst hl0
    cases hv
    exact ⟨lc, w, e1, by simp [storeCells], Ext.refl _ _ _, hr.same hk⟩
  have hll := hv.length
  have h1' : ∀ v ∈ l', v.oneCell' = true := by
    rw [hv.oneCells, List.all_eq_true] at h1
    exact h1
  have hst := run_storeCells_at P lc.b o e l' 0 cs' w e6 (by omega) h1'
  simp only [Nat.add_zero] at hst
  refine ⟨lc, _, e1, by rw [e2, Nat.zero_add]; exact hst, ?_, ?_⟩
  · exact Ext.turn (k := k) (b := lc.b) ((e5 _).2 rfl) (by simp) (fun i hi => setRow_other w lc.b i _ hi) rfl rfl rfl
  · refine hr.turn hk e5 (by simp) (fun i hi => setRow_other w lc.b i _ hi) ?_ (by intro cs h; cases h)
    have hset : (cs'.toList.take o ++ l' ++ cs'.toList.drop (o + l'.length)) = setMany cs'.toList o l' := (setMany_eq l' cs'.toList o (by simp; omega)).symm
    refine .inl ⟨lc, _, e1, e2, e3, ?_, e5, setRow_heap w lc.b cs' _ e _ e6, ?_, ?_, setMany_all _ _ _ h1 e9⟩
    · rw [hset]; simp [setMany_length, e4]
    · rw [hset]; simpa [setMany_length] using e7
    · rw [hset]
      simp only [setMany_length]
      rw [setMany_take l' cs'.toList o cs.length (by omega) (by simpa using e7)]
      exact hv.setMany e8 o

/-! ### Maps -/

theorem VE.len {l l' : List MapEntry} (h : VE ρ l l') : l.length = l'.length := by
  induction h with
  | nil => rfl
  | cons _ _ _ _ _ _ _ _ _ _ ih => simp [ih]

def keyDesc (s : Bool) (d : TypeDesc) : Prop := if s then d = .string else ∃ k, d = .int k

theorem key_desc {t : TypeId} {s : Bool} (h : keyKind P t = some s) : ∃ d, P.underlying t = some d ∧ keyDesc s d := by
  unfold keyKind at h
  split at h
  · rename_i k hu; cases h; exact ⟨_, hu, ⟨k, rfl⟩⟩
  · rename_i hu; cases h; exact ⟨_, hu, rfl⟩
  · cases h

theorem same_ok {s : Bool} {d : TypeDesc} (hd : keyDesc s d) {k e k' e' : Value} (hk : VR ρ k k') (he : VR ρ e e') {q : Bool} (h : sameK s k e = some q) : Instr.sameNow d k' e' = some q ∧ (q = true → k' = e') := by
  unfold sameK at h
  split at h
  · cases hk; cases he
    split at h
    · cases h
    · rename_i hs
      split at h
      · rename_i hkk; subst hkk; cases h
        have hs : s = false := by simpa using hs
        subst hs
        obtain ⟨kk, rfl⟩ := hd
        exact ⟨by simp [Instr.sameNow], fun h => by simp at h; rw [h]⟩
      · cases h
  · cases hk; cases he
    split at h
    · rename_i hs; cases h
      subst hs
      have hd' : d = .string := hd
      subst hd'
      refine ⟨by simp [Instr.sameNow], fun h => ?_⟩
      rw [beq_toListBytes] at h
      have h := eq_of_beq h
      rw [ByteArray.toList_eq, ByteArray.toList_eq] at h
      rw [ByteArray.ext (Array.toList_inj.1 h)]
    · cases h
  · cases h

theorem check_ok {t : TypeId} {d : TypeDesc} {s : Bool} (hu : P.underlying t = some d) (hd : keyDesc s d) (b : Bool) (v : Value) (w : World) : (Instr.checkKey b 10000 t v).run P w = .ok () w := by
  unfold Instr.checkKey
  rw [Sem.run_bind, und_run hu, Result.andThen_ok]
  cases s with
  | false => obtain ⟨k, rfl⟩ := hd; rfl
  | true => have hd' : d = .string := hd; subst hd'; rfl

theorem find_ok {s : Bool} {d : TypeDesc} (hd : keyDesc s d) {k k' : Value} (hk : VR ρ k k') : ∀ {es es' : List MapEntry} (_ : VE ρ es es') (i : Nat) (r : Option Value), findIn s k es = some r →
    match r with
    | none => Instr.findNow d k' es' i = some none
    | some v => ∃ j v', Instr.findNow d k' es' i = some (some (j, v')) ∧ VR ρ v v'
  | _, _, .nil, i, r, h => by simp [findIn] at h; subst h; rfl
  | _, _, .cons a a' v v' n l l' h1 h2 h3, i, r, h => by
    unfold findIn at h
    split at h
    · rename_i hs; cases h
      exact ⟨i, v', by simp [Instr.findNow, (same_ok hd hk h1 hs).1], h2⟩
    · rename_i hs
      have := find_ok hd hk h3 (i + 1) r h
      cases r with
      | none => simpa [Instr.findNow, (same_ok hd hk h1 hs).1] using this
      | some u => simpa [Instr.findNow, (same_ok hd hk h1 hs).1] using this
    · cases h

theorem put_ok {s : Bool} {d : TypeDesc} (hd : keyDesc s d) {k k' v v' : Value} (hk : VR ρ k k') (hv : VR ρ v v') (c : Nat) : ∀ {es es' : List MapEntry} (_ : VE ρ es es') (i : Nat) (r : List MapEntry × Nat), putIn s k v c es = some r →
    (Instr.findNow d k' es' i = some none ∧ VE ρ r.1 (es' ++ [⟨k', v', c⟩]) ∧ r.2 = c + 1) ∨
    (∃ j u, Instr.findNow d k' es' i = some (some (i + j, u)) ∧ (∃ e, es'[j]? = some e ∧ e.key = k') ∧ VE ρ r.1 (es'.modify j fun e => { e with key := k', val := v' }) ∧ r.2 = c)
  | _, _, .nil, i, r, h => by simp [putIn] at h; subst h; exact .inl ⟨rfl, .cons _ _ _ _ _ _ _ hk hv .nil, rfl⟩
  | _, _, .cons a a' x x' n l l' h1 h2 h3, i, r, h => by
    unfold putIn at h
    split at h
    · rename_i hs; cases h
      have := same_ok hd hk h1 hs
      exact .inr ⟨0, x', by simp [Instr.findNow, this.1], ⟨⟨a', x', n⟩, rfl, (this.2 rfl).symm⟩, by simp; exact .cons _ _ _ _ _ _ _ hk hv h3, rfl⟩
    · rename_i hs
      simp only [Option.map_eq_some_iff] at h
      obtain ⟨r', hr', rfl⟩ := h
      rcases put_ok hd hk hv c h3 (i + 1) r' hr' with ⟨e1, e2, e3⟩ | ⟨j, u, e1, e2, e3, e4⟩
      · exact .inl ⟨by simpa [Instr.findNow, (same_ok hd hk h1 hs).1] using e1, .cons _ _ _ _ _ _ _ h1 h2 e2, e3⟩
      · exact .inr ⟨j + 1, u, by simp only [Instr.findNow, (same_ok hd hk h1 hs).1]; rw [e1]; simp; omega, by simpa using e2, by simpa using .cons _ _ _ _ _ _ _ h1 h2 e3, e4⟩
    · cases h

theorem del_ok {s : Bool} {d : TypeDesc} (hd : keyDesc s d) {k k' : Value} (hk : VR ρ k k') : ∀ {es es' : List MapEntry} (_ : VE ρ es es') (i : Nat) (r : List MapEntry), delIn s k es = some r →
    (Instr.findNow d k' es' i = some none ∧ VE ρ r es') ∨ (∃ j u, Instr.findNow d k' es' i = some (some (i + j, u)) ∧ VE ρ r (es'.eraseIdx j))
  | _, _, .nil, i, r, h => by simp [delIn] at h; subst h; exact .inl ⟨rfl, .nil⟩
  | _, _, .cons a a' x x' n l l' h1 h2 h3, i, r, h => by
    unfold delIn at h
    split at h
    · rename_i hs; cases h
      exact .inr ⟨0, x', by simp [Instr.findNow, (same_ok hd hk h1 hs).1], by simpa using h3⟩
    · rename_i hs
      simp only [Option.map_eq_some_iff] at h
      obtain ⟨r', hr', rfl⟩ := h
      rcases del_ok hd hk h3 (i + 1) r' hr' with ⟨e1, e2⟩ | ⟨j, u, e1, e2⟩
      · exact .inl ⟨by simpa [Instr.findNow, (same_ok hd hk h1 hs).1] using e1, .cons _ _ _ _ _ _ _ h1 h2 e2⟩
      · exact .inr ⟨j + 1, u, by simp only [Instr.findNow, (same_ok hd hk h1 hs).1]; rw [e1]; simp; omega, by simpa using .cons _ _ _ _ _ _ _ h1 h2 e2⟩
    · cases h

theorem Rel.mapAt (hr : Rel P cfg ρ own H w) {k c : Nat} {es : List MapEntry} (h : H.mapAt k = some (es, c)) : H.get k = some (.map es c) ∧
    ∃ l es', ρ.loc k = some l ∧ (∀ i, own k i ↔ i = l.b) ∧ w.heap[l.b]? = some (.map es' c) ∧ VE ρ es es'.toList := by
  unfold AH.mapAt at h
  split at h
  · rename_i hg; cases h
    exact ⟨hg, hr.obj k _ hg⟩
  · cases h

theorem Rel.setMap (hr : Rel P cfg ρ own H w) {k c c' : Nat} {es es2 : List MapEntry} (hk : H.get k = some (.map es c)) {l : Loc} (hl : ρ.loc k = some l) {es' : Array MapEntry} (hv : VE ρ es2 es'.toList) :
    Ext ρ own w ρ own { w with heap := w.heap.setIfInBounds l.b (.map es' c') } ∧ Rel P cfg ρ own (H.upd k (.map es2 c')) { w with heap := w.heap.setIfInBounds l.b (.map es' c') } := by
  obtain ⟨l1, es0, e1, e2, e3, e4⟩ := hr.obj k _ hk
  rw [hl] at e1; cases e1
  have hlt := (Array.getElem?_eq_some_iff.1 e3).1
  have hoth : ∀ i, i ≠ l.b → (w.heap.setIfInBounds l.b (.map es' c'))[i]? = w.heap[i]? := fun i hi => Array.getElem?_setIfInBounds_ne (Ne.symm hi)
  refine ⟨Ext.turn (k := k) (b := l.b) ((e2 _).2 rfl) (by simp) hoth rfl rfl rfl, hr.turn hk e2 (by simp) hoth ?_ (by intro cs h; cases h)⟩
  exact ⟨l, es', hl, e2, by simp [hlt], hv⟩

theorem Rel.newMap (hr : Rel P cfg ρ own H w) : ∃ ρ' own' l, ρ'.loc H.next = some l ∧ l.b = w.heap.size ∧ Ext ρ own w ρ' own' (w.alloc (.map #[] 0)) ∧ Rel P cfg ρ' own' (H.add (.map [] 0)) (w.alloc (.map #[] 0)) := by
  refine ⟨ρ.put H.next ⟨w.heap.size, 0, 0, 0⟩, _, ⟨w.heap.size, 0, 0, 0⟩, by simp [Env.loc_put], rfl, Ext.alloc hr _ _, hr.alloc _ (by intro cs h; cases h) _ _ ?_⟩
  exact ⟨⟨w.heap.size, 0, 0, 0⟩, #[], by simp [Env.loc_put], fun i => Iff.rfl, heap_alloc_new w _, .nil⟩

/-! ### Slices -/

theorem bound_ok {y y' n : Nat} {v v' : Value} (h : bound y v = some n) (hv : VR ρ v v') (hy : y ≤ y') (c : BoundsCode) (w : World) : (Instr.sliceBound v' y' c).run P w = .ok n w ∧ n ≤ y := by
  unfold bound at h
  split at h
  · rename_i k i
    cases hv
    split at h
    · rename_i hi; cases h
      refine ⟨run_sliceBound w k i y' c hi.1 (by omega), by omega⟩
    · cases h
  · cases h

end
end Go.Abs
