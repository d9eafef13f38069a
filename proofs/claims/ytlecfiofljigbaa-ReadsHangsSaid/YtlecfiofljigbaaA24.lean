/-
  THE FRAME: what a call comes to over a few objects it comes to over a heap in which these lie, and nothing else turns.
-/
import Derived.Test.YtlecfiofljigbaaA23
set_option linter.unusedSimpArgs false
set_option linter.unusedVariables false
set_option linter.unnecessarySimpa false
set_option linter.unusedSectionVars false
namespace Go.Abs
open Go.RowKit

section
variable {D : Type} {P : Program} {cfg : D → HRep}

open Classical in
/-- The heap with the few objects as they are now. -/
noncomputable def AH.emb (H : AH D) (θ : Nat → Nat) (n : Nat) (H1 : AH D) : AH D where
  next := H.next + (H1.next - n)
  get := fun j => if h : ∃ i, θ i = j then (H1.get h.choose).map (·.ren θ) else H.get j

theorem AH.emb_img {H H1 : AH D} {θ : Nat → Nat} {n : Nat} (inj : ∀ i j, θ i = θ j → i = j) (i : Nat) : (H.emb θ n H1).get (θ i) = (H1.get i).map (·.ren θ) := by
  have h : ∃ i', θ i' = θ i := ⟨i, rfl⟩
  unfold AH.emb
  simp only [dif_pos h]
  rw [inj _ _ h.choose_spec]
theorem AH.emb_oth {H H1 : AH D} {θ : Nat → Nat} {n : Nat} {j : Nat} (h : ¬ ∃ i, θ i = j) : (H.emb θ n H1).get j = H.get j := by
  unfold AH.emb
  simp only [dif_neg h]

def renE (θ : Nat → Nat) : AEnd → AEnd
  | .ret v => .ret (ren θ v)
  | .pan v => .pan (ren θ v)

variable {θ : Nat → Nat} {Hs H : AH D}

open Classical in
theorem Runs.frame (e : Emb θ Hs H) {f : FuncId} {args : List Value} {Ks : AEnd → AH D → Prop} (h : Runs P cfg f args Hs Ks)
    (hn : ∀ r H1, Ks r H1 → Hs.next ≤ H1.next ∧ ∀ i cs, H1.get i = some (.ro cs) → cs ≠ [] → ∃ cs', Hs.get i = some (.ro cs') ∧ cs' ≠ []) :
    Runs P cfg f (rens θ args) H fun r H' => ∃ r1 H1, Ks r1 H1 ∧ r = renE θ r1 ∧ H' = H.emb θ Hs.next H1 := by
  refine ⟨h.1, fun ρ own w args' hr hv => ?_⟩
  refine (h.2 (ρ.on θ) _ w args' (e.rel hr) (VRs.of_rens _ hv)).mono fun en w1 ⟨r1, H1, ρ1, own1, k1, x1, v1, r1'⟩ => ?_
  obtain ⟨hle, hro⟩ := hn _ _ k1
  let ρ2 : Env := ⟨fun j => if h : ∃ i, θ i = j then ρ1.loc h.choose else ρ.loc j⟩
  have himg : ∀ i, ρ2.loc (θ i) = ρ1.loc i := fun i => by
    have hx : ∃ i', θ i' = θ i := ⟨i, rfl⟩
    show (if h : ∃ i', θ i' = θ i then ρ1.loc h.choose else ρ.loc (θ i)) = _
    rw [dif_pos hx, e.inj _ _ hx.choose_spec]
  have hoth : ∀ j, (¬ ∃ i, θ i = j) → ρ2.loc j = ρ.loc j := fun j hj => by
    show (if h : ∃ i', θ i' = j then ρ1.loc h.choose else ρ.loc j) = _
    rw [dif_neg hj]
  have hon : ρ2.on θ = ρ1 := by
    cases ρ1
    unfold Env.on
    congr
    exact funext fun i => himg i
  let own2 : Nat → Nat → Prop := fun j b => if h : ∃ i, θ i = j then own1 h.choose b else own j b
  have oimg : ∀ i, own2 (θ i) = own1 i := fun i => by
    have hx : ∃ i', θ i' = θ i := ⟨i, rfl⟩
    funext b
    show (if h : ∃ i', θ i' = θ i then own1 h.choose b else own (θ i) b) = _
    rw [dif_pos hx, e.inj _ _ hx.choose_spec]
  have ooth : ∀ j, (¬ ∃ i, θ i = j) → own2 j = own j := fun j hj => by
    funext b
    show (if h : ∃ i', θ i' = j then own1 h.choose b else own j b) = _
    rw [dif_neg hj]
  have hge : ∀ j, H.next ≤ j → θ (Hs.next + (j - H.next)) = j := fun j hj => by
    rw [e.hi _ (by omega)]; omega
  have hlele : ρ.le ρ2 := fun j x hx => by
    by_cases hj : ∃ i, θ i = j
    · obtain ⟨i, rfl⟩ := hj
      rw [himg]
      exact x1.le i x hx
    · rw [hoth j hj]; exact hx
  -- what was owned by the few was owned under their names
  have oback : ∀ i b, own1 i b → (∃ k0, own (θ k0) b) ∨ w.heap.size ≤ b := fun i b hb => by
    rcases x1.owned i b hb with ⟨k0, h0⟩ | h0
    · exact .inl ⟨k0, h0.2⟩
    · exact .inr h0
  have kept : ∀ j b, (¬ ∃ i, θ i = j) → own j b → w1.heap[b]? = w.heap[b]? := fun j b hj hb =>
    x1.kept b (hr.bound j b hb) fun k hk => hj ⟨k, (hr.disj _ _ b hb hk.2).symm⟩
  have sep : ∀ i j b, (¬ ∃ i, θ i = j) → own1 i b → ¬ own j b := fun i j b hj h1 h2 => by
    rcases oback i b h1 with ⟨k0, h0⟩ | h0
    · exact hj ⟨k0, hr.disj _ _ b h0 h2⟩
    · have := hr.bound j b h2; omega
  refine ⟨renE θ r1, H.emb θ Hs.next H1, ρ2, own2, ⟨r1, H1, k1, rfl, rfl⟩, ⟨hlele, fun j b hb => ?_, x1.size, fun b hb hno => ?_, x1.os, x1.tape, x1.output⟩, ?_, ?_⟩
  · by_cases hj : ∃ i, θ i = j
    · obtain ⟨i, rfl⟩ := hj
      rw [oimg] at hb
      rcases oback i b hb with ⟨k0, h0⟩ | h0
      · exact .inl ⟨_, h0⟩
      · exact .inr h0
    · rw [ooth j hj] at hb; exact .inl ⟨j, hb⟩
  · exact x1.kept b hb fun k hk => hno _ hk.2
  · cases r1 with
    | ret v =>
      cases en with
      | returned v' =>
        show VR ρ2 (ren θ v) v'
        exact VR.to_ren (by rw [hon]; exact v1)
      | panicked c => exact v1.elim
      | outgrown => exact v1.elim
    | pan v =>
      cases en with
      | returned v' => exact v1.elim
      | outgrown => exact v1.elim
      | panicked c =>
        obtain ⟨v', q1, q2⟩ := v1
        exact ⟨v', q1, VR.to_ren (by rw [hon]; exact q2)⟩
  · have nimg : ∀ j, H.next ≤ j → ∃ i, θ i = j ∧ i = Hs.next + (j - H.next) := fun j hj => ⟨_, hge j hj, rfl⟩
    refine ⟨fun j hj => ?_, fun j hj => ?_, fun j o ho => ?_, fun j hj b hb => ?_, fun j b hb => ?_, fun j j' b hb hb' => ?_, fun j cs hj hcs l hl j' hb => ?_⟩
    · have hj' : H.next + (H1.next - Hs.next) ≤ j := hj
      have := hge j (by omega)
      rw [← this, AH.emb_img e.inj, r1'.fresh _ (by omega)]; rfl
    · have hj' : H.next + (H1.next - Hs.next) ≤ j := hj
      have := hge j (by omega)
      rw [← this, himg, r1'.dom _ (by omega)]
    · by_cases hx : ∃ i, θ i = j
      · obtain ⟨i, rfl⟩ := hx
        rw [AH.emb_img e.inj] at ho
        simp only [Option.map_eq_some_iff] at ho
        obtain ⟨o1, ho1, rfl⟩ := ho
        rw [oimg]
        exact ObjOk.to_ren (by rw [hon]; exact r1'.obj i o1 ho1)
      · rw [AH.emb_oth hx] at ho
        rw [ooth j hx]
        refine (hr.obj j o ho).keep P cfg hlele (fun b hb => kept j b hx hb) fun cs l hcs hne hl => ?_
        subst hcs
        have hno := hr.ro j cs ho hne l hl
        obtain ⟨l', cs', e', fr, q1, q3, q4⟩ := (hr.obj j _ ho).2 hne
        rw [hl] at q1; cases q1
        have hlt : l.b < w.heap.size := by
          rcases Nat.lt_or_ge l.b w.heap.size with h | h
          · exact h
          · rw [Array.getElem?_eq_none h] at q3; cases q3
        exact x1.kept l.b hlt fun k hk => hno _ hk.2
    · by_cases hx : ∃ i, θ i = j
      · obtain ⟨i, rfl⟩ := hx
        rw [AH.emb_img e.inj] at hj
        rw [oimg] at hb
        exact r1'.gone i (by simpa using hj) b hb
      · rw [AH.emb_oth hx] at hj
        rw [ooth j hx] at hb
        exact hr.gone j hj b hb
    · by_cases hx : ∃ i, θ i = j
      · obtain ⟨i, rfl⟩ := hx
        rw [oimg] at hb
        exact r1'.bound i b hb
      · rw [ooth j hx] at hb
        exact Nat.lt_of_lt_of_le (hr.bound j b hb) x1.size
    · by_cases hx : ∃ i, θ i = j
      · obtain ⟨i, rfl⟩ := hx
        rw [oimg] at hb
        by_cases hx' : ∃ i, θ i = j'
        · obtain ⟨i', rfl⟩ := hx'
          rw [oimg] at hb'
          rw [r1'.disj i i' b hb hb']
        · rw [ooth j' hx'] at hb'
          exact absurd hb' (sep i j' b hx' hb)
      · rw [ooth j hx] at hb
        by_cases hx' : ∃ i, θ i = j'
        · obtain ⟨i', rfl⟩ := hx'
          rw [oimg] at hb'
          exact absurd hb (sep i' j b hx hb')
        · rw [ooth j' hx'] at hb'
          exact hr.disj j j' b hb hb'
    · have inworld : ∀ {cs0 : List Value} {j0 : Nat}, H.get j0 = some (.ro cs0) → cs0 ≠ [] → ρ.loc j0 = some l → (∀ j', ¬ own j' l.b) ∧ l.b < w.heap.size := fun {cs0 j0} h1 hne h2 => by
        refine ⟨hr.ro j0 cs0 h1 hne l h2, ?_⟩
        obtain ⟨l', cs', e', fr, q1, q3, q4⟩ := (hr.obj j0 _ h1).2 hne
        rw [h2] at q1; cases q1
        rcases Nat.lt_or_ge l.b w.heap.size with h | h
        · exact h
        · rw [Array.getElem?_eq_none h] at q3; cases q3
      have old : (∀ j', ¬ own j' l.b) ∧ l.b < w.heap.size := by
        by_cases hx : ∃ i, θ i = j
        · obtain ⟨i, rfl⟩ := hx
          rw [AH.emb_img e.inj] at hj
          simp only [Option.map_eq_some_iff] at hj
          obtain ⟨o1, ho1, ho2⟩ := hj
          have : ∃ cs1, o1 = .ro cs1 := by cases o1 <;> simp [AObj.ren] at ho2 <;> exact ⟨_, rfl⟩
          obtain ⟨cs1, rfl⟩ := this
          have hne1 : cs1 ≠ [] := fun e => by
            subst e
            simp only [AObj.ren, rens] at ho2
            cases ho2; exact hcs rfl
          obtain ⟨cs0, hcs0, hne0⟩ := hro i cs1 ho1 hne1
          have hi : i < Hs.next := Nat.lt_of_not_le fun hle => by rw [e.fresh i hle] at hcs0; cases hcs0
          have hbig : H.get (θ i) = some (.ro (rens θ cs0)) := by rw [e.get i hi, hcs0]; rfl
          rw [himg] at hl
          have hne0' : rens θ cs0 ≠ [] := fun e => hne0 (List.eq_nil_of_length_eq_zero (by rw [← rens_length θ cs0, e]; rfl))
          have hl0 : ρ.loc (θ i) = some l := by
            obtain ⟨l0, cs', e', fr, q1, _⟩ := (hr.obj _ _ hbig).2 hne0'
            have := x1.le i l0 q1
            rw [hl] at this; cases this; exact q1
          exact inworld hbig hne0' hl0
        · rw [AH.emb_oth hx] at hj
          rw [hoth j hx] at hl
          exact inworld hj hcs hl
      by_cases hx : ∃ i, θ i = j'
      · obtain ⟨i', rfl⟩ := hx
        rw [oimg] at hb
        rcases oback i' l.b hb with ⟨k0, h0⟩ | h0
        · exact old.1 _ h0
        · have := old.2; omega
      · rw [ooth j' hx] at hb
        exact old.1 j' hb

end
end Go.Abs
