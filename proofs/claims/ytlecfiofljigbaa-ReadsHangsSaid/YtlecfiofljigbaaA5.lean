/-
  An operation of the plain form does to the abstract heap what the loaded one does to the world: all but append.
-/
import Derived.Test.YtlecfiofljigbaaA4
import Derived.Laws.Small
import Derived.Laws.StructEq
import Derived.Laws.CopyRow
import Derived.ChangeKeysEq
set_option linter.unusedSimpArgs false
set_option linter.unusedVariables false
set_option linter.unnecessarySimpa false
set_option linter.unusedSectionVars false
namespace Go.Abs
open Go.RowKit

section
variable {D : Type} {P : Program} {cfg : D → HRep} {ρ : Env} {own : Nat → Nat → Prop} {H : AH D} {w : World}

/-- What an operation comes to: a value, and a world that is the heap H'. -/
def StepOk (P : Program) (cfg : D → HRep) (ρ : Env) (own : Nat → Nat → Prop) (w : World) (r : Result Next) (v : Value) (H' : AH D) : Prop :=
  ∃ v' w' ρ' own', (r = .ok (.value v') w' ∨ (r = .ok .skip w' ∧ v' = undef)) ∧ Ext ρ own w ρ' own' w' ∧ VR ρ' v v' ∧ Rel P cfg ρ' own' H' w'

theorem StepOk.pure (hr : Rel P cfg ρ own H w) {r : Result Next} {v v' : Value} (h : r = .ok (.value v') w) (hv : VR ρ v v') : StepOk P cfg ρ own w r v H :=
  ⟨v', w, ρ, own, .inl h, Ext.refl _ _ _, hv, hr⟩

theorem und_run {t : TypeId} {d : TypeDesc} (h : P.underlying t = some d) (w : World) : (underlying t).run P w = .ok d w := run_underlying h w

theorem sz_info {t : TypeId} {n : Nat} (h : szOf P t = some n) : ∃ i, P.info? t = some i ∧ i.size = n := by
  simpa [szOf, Option.map_eq_some_iff] using h

theorem size_run {t : TypeId} {n : Nat} (h : szOf P t = some n) (w : World) : (sizeOf t).run P w = .ok n w := by
  obtain ⟨i, hi, rfl⟩ := sz_info h
  simp [sizeOf, typeInfo, hi]

theorem cellsOf_eq {t : TypeId} {n : Nat} (h : szOf P t = some n) : P.cellsOf t = n := by
  obtain ⟨i, hi, rfl⟩ := sz_info h
  simp [Program.cellsOf, hi]

theorem agg_run {t : TypeId} {g : Bool} (h : aggOf P t = some g) (w : World) : (isAgg t).run P w = .ok g w := by
  simp only [aggOf, Option.map_eq_some_iff] at h
  obtain ⟨d, hd, hg⟩ := h
  unfold isAgg
  rw [Sem.run_bind, und_run hd]
  subst hg
  cases d <;> rfl

theorem zero_run {t : TypeId} {z : Value} (h : zeroOf P t = some z) (w : World) : (zeroValue t).run P w = .ok z w ∧ ground z = true ∧ z.cells.toList.all (·.oneCell') = true ∧ szOf P t = some z.cells.size := by
  simp only [zeroOf, Option.bind_eq_some_iff] at h
  obtain ⟨i, hi, z', hz, hc⟩ := h
  split at hc
  · rename_i hcc
    cases hc
    refine ⟨by simp [zeroValue, typeInfo, hi, hz], hcc.1, hcc.2.1, by simp [szOf, hi, hcc.2.2]⟩
  · cases hc

theorem VR.cells {v v' : Value} (h : VR ρ v v') : VRs ρ v.cells.toList v'.cells.toList := by
  have one : ∀ {a b : Value}, VR ρ a b → VRs ρ [a] [b] := fun h => .cons _ _ _ _ h .nil
  cases h
  case junk c h1 =>
    have e : v'.cells = #[v'] := by cases v' <;> first | rfl | cases h1
    rw [e]; exact one (.junk c v' h1)
  all_goals first | assumption | (simp only [Value.cells]; exact one (by constructor <;> assumption))

theorem VR.cells_size {v v' : Value} (h : VR ρ v v') : v.cells.size = v'.cells.size := by
  have := h.cells.length; simpa using this

theorem VR.oneCell {v v' : Value} (h : VR ρ v v') : v.oneCell' = v'.oneCell' := by
  cases h
  case junk c h1 => exact h1.symm
  all_goals rfl

theorem VRs.oneCells : ∀ {l l' : List Value}, VRs ρ l l' → l.all (·.oneCell') = l'.all (·.oneCell')
  | _, _, .nil => rfl
  | _, _, .cons _ _ _ _ h1 h2 => by simp [VR.oneCell h1, VRs.oneCells h2]

/-- The cells of a row, as the world has them. -/
theorem Rel.row (hr : Rel P cfg ρ own H w) {k : Nat} {cs : List Value} (hk : H.row k = some cs) (hne : cs ≠ []) :
    ∃ l cs', ρ.loc k = some l ∧ VRs ρ cs cs' ∧ cs.all (·.oneCell') = true ∧ ∀ i v', cs'[i]? = some v' → w.cell? ⟨l.b, l.base + i, none⟩ = some v' := by
  unfold AH.row at hk
  split at hk
  · rename_i e cs0 hg
    cases hk
    rcases hr.obj k _ hg with ⟨l, cs', h1, h2, h3, h4, h5, h6, h7, h8, h9⟩ | hx
    case inr => exact absurd hx.1 hne
    refine ⟨l, _, h1, h8, h9, fun i v' hi => ?_⟩
    rw [h2, Nat.zero_add, cell_of_row w l.b i cs' e (0, 0) h6]
    rw [List.getElem?_take] at hi
    split at hi
    · simpa using hi
    · cases hi
  · rename_i cs0 hg
    cases hk
    obtain ⟨l, cs', e, fr, h1, h3, h4, h5, h6⟩ := (hr.obj k _ hg).2 hne
    refine ⟨l, _, h1, h5, h6, fun i v' hi => ?_⟩
    rw [cell_of_row w l.b _ cs' e fr h3]
    rw [List.getElem?_take] at hi
    split at hi
    · simpa [List.getElem?_drop] using hi
    · cases hi
  · cases hk

theorem AH.many_length {H : AH D} {k o n : Nat} {cs : List Value} (hk : H.many k o n = some cs) : cs.length = n := by
  unfold AH.many at hk
  split at hk
  · split at hk
    · cases hk; simp; omega
    · cases hk
  · cases hk
theorem Rel.many (hr : Rel P cfg ρ own H w) {k o n : Nat} {cs : List Value} (hk : H.many k o n = some cs) (hne : cs ≠ []) :
    ∃ l cs', ρ.loc k = some l ∧ VRs ρ cs cs' ∧ cs.length = n ∧ cs.all (·.oneCell') = true ∧ ∀ i v', cs'[i]? = some v' → w.cell? ((⟨l.b, l.base + o, none⟩ : Addr).add i) = some v' := by
  unfold AH.many at hk
  split at hk
  · rename_i all hall
    split at hk
    · rename_i hle
      cases hk
      obtain ⟨l, cs', h1, h2, h3, h4⟩ := hr.row hall (fun e => hne (by rw [e]; simp))
      refine ⟨l, _, h1, (h2.drop o).take n, by simp; omega, ?_, fun i v' hi => ?_⟩
      · rw [List.all_eq_true] at h3 ⊢
        exact fun x hx => h3 x (List.mem_of_mem_drop (List.mem_of_mem_take hx))
      · rw [Addr.add_lit, Nat.add_assoc]
        rw [List.getElem?_take] at hi
        split at hi
        · rw [List.getElem?_drop] at hi; exact h4 _ _ hi
        · cases hi
    · cases hk
  · cases hk

theorem setMany_eq : ∀ (l cs : List Value) (o : Nat), o + l.length ≤ cs.length → setMany cs o l = cs.take o ++ l ++ cs.drop (o + l.length)
  | [], cs, o, _ => by simp [setMany]
  | v :: l, cs, o, h => by
    simp only [List.length_cons] at h
    rw [setMany, setMany_eq l _ _ (by simp; omega)]
    have := list_seg_step cs o v l (by omega)
    rw [show o + 1 + l.length = o + 1 + l.length from rfl] at this
    simpa using this

theorem VRs.setMany {l l' : List Value} (h : VRs ρ l l') : ∀ {cs cs' : List Value} (_ : VRs ρ cs cs') (o : Nat), VRs ρ (Abs.setMany cs o l) (Abs.setMany cs' o l') := by
  induction l generalizing l' with
  | nil => cases h; intro cs cs' hc o; exact hc
  | cons v l ih =>
    cases h with
    | cons _ v' _ l'' h1 h2 => intro cs cs' hc o; exact ih h2 (hc.set o h1) (o + 1)

theorem setMany_length : ∀ (l cs : List Value) (o : Nat), (setMany cs o l).length = cs.length
  | [], _, _ => rfl
  | _ :: l, _, _ => by simp [setMany, setMany_length l]

theorem setMany_all : ∀ (l cs : List Value) (o : Nat), l.all (·.oneCell') = true → cs.all (·.oneCell') = true → (setMany cs o l).all (·.oneCell') = true
  | [], _, _, _, h => h
  | v :: l, cs, o, h, hc => by
    simp only [List.all_cons, Bool.and_eq_true] at h
    refine setMany_all l _ _ h.2 ?_
    rw [List.all_eq_true] at hc ⊢
    intro x hx
    rcases List.mem_or_eq_of_mem_set hx with hx | rfl
    · exact hc x hx
    · exact h.1

theorem setMany_take (l cs : List Value) (o n : Nat) (h : o + l.length ≤ n) (hn : n ≤ cs.length) : (setMany cs o l).take n = setMany (cs.take n) o l := by
  rw [setMany_eq l cs o (by omega), setMany_eq l (cs.take n) o (by simp; omega)]
  rw [List.take_take, Nat.min_eq_left (by omega), List.drop_take]
  rw [List.take_append, List.take_append]
  simp only [List.length_append, List.length_take]
  rw [List.take_of_length_le (l := cs.take o) (by simp; omega), List.take_of_length_le (l := l) (by omega)]
  congr 2
  omega

/-! ### Values alone -/

theorem part_ok {ag : Bool} {off sz : Nat} {t : TypeId} (hs : szOf P t = some sz) (hg : aggOf P t = some ag) {xs xs' : Array Value} (h : VRs ρ xs.toList xs'.toList) {v : Value}
    (hp : partOf ag off sz xs.toList = some v) (w : World) : ∃ v', (part t xs' off).run P w = .ok v' w ∧ VR ρ v v' := by
  unfold partOf at hp
  unfold part
  rw [Sem.run_bind, agg_run hg]
  split at hp
  · rename_i ht
    cases hp
    refine ⟨.agg (xs'.extract off (off + sz)), by simp [ht, size_run hs], .agg _ _ ?_⟩
    have := (h.drop off).take sz
    simpa [List.extract_eq_take_drop] using this
  · rename_i hf
    obtain ⟨v', hv', hr⟩ := h.get hp
    have : xs'[off]? = some v' := by simpa using hv'
    exact ⟨v', by simp [hf, this], hr⟩

def EqClaim (P : Program) (d : Nat) : Prop := ∀ (t : TypeId) (s : Sh), shOf P d t = some s → ∀ (ρ : Env) (x y x' y' : Value) (b : Bool), aeq s x y = some b → VR ρ x x' → VR ρ y y' →
    ∀ (w : World) (k : Nat), d ≤ k → (Op.equalIn k t x' y').run P w = .ok b w

theorem fields_ok {d : Nat} (ih : EqClaim P d) : ∀ (fs : List Field) (rs : List (Nat × Nat × Bool × Sh)), shFs P (shOf P d) fs = some rs → ∀ (ρ : Env) (xs ys xs' ys' : Array Value) (b : Bool),
    aeqF rs xs.toList ys.toList = some b → VRs ρ xs.toList xs'.toList → VRs ρ ys.toList ys'.toList → ∀ (w : World) (k : Nat), d ≤ k → (Op.eqFields k xs' ys' fs).run P w = .ok b w
  | [], rs, h, ρ, xs, ys, xs', ys', b, hb, hx, hy, w, k, hk => by
    simp [shFs] at h; subst h
    simp [aeqF] at hb; subst hb
    simp [Op.eqFields]
  | f :: fs, rs, h, ρ, xs, ys, xs', ys', b, hb, hx, hy, w, k, hk => by
    unfold shFs at h
    split at h
    · rename_i hn
      simp only [Op.eqFields, hn, ne_eq, not_true_eq_false, if_false]
      exact fields_ok ih fs rs h ρ xs ys xs' ys' b hb hx hy w k hk
    · rename_i hn
      simp only [Option.bind_eq_some_iff, Option.map_eq_some_iff] at h
      obtain ⟨s, hs, z, hz, g, hg, r, hr, rfl⟩ := h
      unfold aeqF at hb
      split at hb
      · rename_i a c ha hc
        obtain ⟨a', ha', hra⟩ := part_ok hz hg hx ha w
        obtain ⟨c', hc', hrc⟩ := part_ok hz hg hy hc w
        simp only [Op.eqFields, hn, ne_eq, not_false_eq_true, if_true, Sem.run_bind, ha', hc', Result.andThen_ok]
        split at hb
        · rename_i he
          rw [ih f.type s hs ρ a c a' c' true he hra hrc w k hk]
          simpa using fields_ok ih fs r hr ρ xs ys xs' ys' b hb hx hy w k hk
        · rename_i he
          cases hb
          rw [ih f.type s hs ρ a c a' c' false he hra hrc w k hk]
          simp
        · cases hb
      · cases hb

theorem items_ok {d : Nat} (ih : EqClaim P d) {e : TypeId} {s : Sh} (hs : shOf P d e = some s) {sz : Nat} (hz : szOf P e = some sz) {ag : Bool} (hg : aggOf P e = some ag) {ρ : Env} {xs ys xs' ys' : Array Value}
    (hx : VRs ρ xs.toList xs'.toList) (hy : VRs ρ ys.toList ys'.toList) (w : World) (k : Nat) (hk : d ≤ k) : ∀ (n i : Nat) (b : Bool), aeqA n sz ag s i xs.toList ys.toList = some b →
    (Op.eqItems k e sz xs' ys' (List.range' i n)).run P w = .ok b w
  | 0, i, b, hb => by simp [aeqA] at hb; subst hb; simp [Op.eqItems]
  | n + 1, i, b, hb => by
    unfold aeqA at hb
    rw [List.range'_succ]
    split at hb
    · rename_i a c ha hc
      obtain ⟨a', ha', hra⟩ := part_ok hz hg hx ha w
      obtain ⟨c', hc', hrc⟩ := part_ok hz hg hy hc w
      simp only [Op.eqItems, Sem.run_bind, ha', hc', Result.andThen_ok]
      split at hb
      · rename_i he
        rw [ih e s hs ρ a c a' c' true he hra hrc w k hk]
        simpa using items_ok ih hs hz hg hx hy w k hk n (i + 1) b hb
      · rename_i he
        cases hb
        rw [ih e s hs ρ a c a' c' false he hra hrc w k hk]
        simp
      · cases hb
    · cases hb

theorem eq_claim (P : Program) : ∀ d, EqClaim P d
  | 0 => fun t s h => by simp [shOf] at h
  | d + 1 => by
    intro t s h ρ x y x' y' b hb hx hy w k hk
    obtain ⟨k, rfl⟩ : ∃ j, k = j + 1 := ⟨k - 1, by omega⟩
    have ih := eq_claim P d
    unfold shOf at h
    split at h
    · rename_i hu; cases h
      rw [aeq] at hb
      unfold eqBool at hb
      split at hb
      · cases hb; cases hx; cases hy; simp [Op.equalIn, und_run hu]
      · cases hb
    · rename_i hu; cases h
      rw [aeq] at hb
      unfold eqInt at hb
      split at hb
      · split at hb
        · rename_i hkk; cases hb; subst hkk; cases hx; cases hy; simp [Op.equalIn, und_run hu]
        · cases hb
      · cases hb
    · rename_i hu; cases h
      rw [aeq] at hb
      unfold eqStr at hb
      split at hb
      · cases hb; cases hx; cases hy; simp [Op.equalIn, und_run hu, beq_toListBytes]
      · cases hb
    · rename_i hu; cases h
      rw [aeq] at hb
      unfold eqPtr at hb
      split at hb
      · cases hb; cases hx; cases hy <;> simp [Op.equalIn, und_run hu]
      · cases hb; cases hx; cases hy; simp [Op.equalIn, und_run hu]
      · cases hb
    · rename_i hu; cases h
      rw [aeq] at hb
      unfold eqSlc at hb
      split at hb
      · cases hb; cases hx; cases hy; simp [Op.equalIn, und_run hu]
      · split at hb
        · rename_i hc; cases hb; cases hx; cases hy
          · simp [Op.equalIn, und_run hu]
          · omega
        · cases hb
      · split at hb
        · rename_i hc; cases hb; cases hy; cases hx
          · simp [Op.equalIn, und_run hu]
          · omega
        · cases hb
      · cases hb
    · rename_i hu; cases h
      rw [aeq] at hb
      unfold eqMp at hb
      split at hb
      · cases hb; cases hx; cases hy <;> simp [Op.equalIn, und_run hu]
      · cases hb; cases hx; cases hy; simp [Op.equalIn, und_run hu]
      · cases hb
    · rename_i hu; cases h
      rw [aeq] at hb
      unfold eqFnc at hb
      split at hb
      · cases hb; cases hx; cases hy; simp [Op.equalIn, und_run hu]
      · cases hb; cases hx; cases hy; simp [Op.equalIn, und_run hu]
      · cases hb; cases hx; cases hy; simp [Op.equalIn, und_run hu]
      · cases hb
    · rename_i fs hu
      split at h
      · cases h
      · rename_i hp
        simp only [Option.map_eq_some_iff] at h
        obtain ⟨rs, hrs, rfl⟩ := h
        rw [aeq] at hb
        unfold aggOf2 at hb
        split at hb
        case h_2 => cases hb
        rename_i xs0 ys0 hag
        split at hag
        case h_2 => cases hag
        rename_i xs ys
        cases hag
        obtain ⟨xs', rfl, hxs⟩ := hx.agg_inv
        obtain ⟨ys', rfl, hys⟩ := hy.agg_inv
        have hf : P.fieldsOf t = fs := by simp [Program.fieldsOf, hu]
        rw [run_equalIn_struct w k t xs' ys' (by rw [hf]; exact hu) (by simpa using hp), hf]
        exact fields_ok ih fs.toList rs hrs ρ xs ys xs' ys' b hb hxs hys w k (by omega)
    · rename_i n e hu
      simp only [Option.bind_eq_some_iff, Option.map_eq_some_iff] at h
      obtain ⟨s', hs, z, hz, g, hg, rfl⟩ := h
      rw [aeq] at hb
      unfold aggOf2 at hb
      split at hb
      case h_2 => cases hb
      rename_i xs0 ys0 hag
      split at hag
      case h_2 => cases hag
      rename_i xs ys
      cases hag
      obtain ⟨xs', rfl, hxs⟩ := hx.agg_inv
      obtain ⟨ys', rfl, hys⟩ := hy.agg_inv
      obtain ⟨i, hi, _⟩ := sz_info hz
      rw [run_equalIn_array w k xs' ys' hu hi, cellsOf_eq hz, List.range_eq_range']
      exact items_ok ih hs hz hg hxs hys w k (by omega) n 0 b hb
    · cases h

end
end Go.Abs
