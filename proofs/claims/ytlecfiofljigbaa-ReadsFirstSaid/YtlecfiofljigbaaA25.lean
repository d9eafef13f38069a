/-
  DATA that lie in several objects: what they are, how they are opened, and packed again.
-/
import Derived.Test.YtlecfiofljigbaaA24
set_option linter.unusedSimpArgs false
set_option linter.unusedVariables false
set_option linter.unnecessarySimpa false
set_option linter.unusedSectionVars false
namespace Go.Abs
open Go.RowKit

section
variable {D : Type} {P : Program}

/-- A heap as a list: key i has what stands at i. -/
def AH.of (l : List (Option (AObj D))) : AH D := { next := l.length, get := fun i => (l[i]?).join }

def AObj.mine : AObj D → Bool
  | .ro _ => false
  | _ => true

/-- The names of a few objects in a heap. -/
def sh (n N : Nat) (ks : List Nat) : Nat → Nat := fun i => if i < n then ks.getD i 0 else N + (i - n)

theorem Rel.cfg_mono {cfg cfg' : D → HRep} {ρ : Env} {own : Nat → Nat → Prop} {H : AH D} {w : World} (h : Rel P cfg ρ own H w)
    (hc : ∀ k o, H.get k = some o → ObjOk P cfg ρ (own k) k o w → ObjOk P cfg' ρ (own k) k o w) : Rel P cfg' ρ own H w :=
  ⟨h.fresh, h.dom, fun k o ho => hc k o ho (h.obj k o ho), h.gone, h.bound, h.disj, h.ro⟩

theorem Rel.keepAll {cfg : D → HRep} {ρ : Env} {own : Nat → Nat → Prop} {H : AH D} {w w' : World} (h : Rel P cfg ρ own H w) (hm : ∀ k o, H.get k = some o → o.mine = true)
    (hk : ∀ k b, own k b → w'.heap[b]? = w.heap[b]?) : Rel P cfg ρ own H w' := by
  refine ⟨h.fresh, h.dom, fun k o ho => (h.obj k o ho).keep P cfg ρ.le_refl (hk k) fun cs l hcs _ _ => ?_, h.gone, fun k b hb => ?_, h.disj, h.ro⟩
  · subst hcs; have := hm k _ ho; cases this
  · have h1 := h.bound k b hb
    have h2 := hk k b hb
    rw [Array.getElem?_eq_getElem h1] at h2
    rcases Nat.lt_or_ge b w'.heap.size with h | h
    · exact h
    · rw [Array.getElem?_eq_none h] at h2; cases h2

variable (P) (frag : D → List (AObj D))

def fragH (d : D) : AH D := AH.of ((frag d).map some)

/-- How a datum lies, where it is known how those lie of which it is made. -/
def stepH (cfg : D → HRep) (d : D) : HRep where
  holds l own w := ∃ ρ own', Rel P cfg ρ own' (fragH frag d) w ∧ ρ.loc 0 = some l ∧ (∀ b, own b ↔ ∃ k, own' k b) ∧ (frag d).all (·.mine) = true
  keep := fun l own w w' hk ⟨ρ, own', h1, h2, h3, h4⟩ => ⟨ρ, own', h1.keepAll (fun k o ho => by
        have hm : o ∈ frag d := by
          simp only [fragH, AH.of, List.getElem?_map] at ho
          cases hx : (frag d)[k]? with
          | none => rw [hx] at ho; cases ho
          | some x => rw [hx] at ho; simp at ho; subst ho; exact List.mem_of_getElem? hx
        exact List.all_eq_true.1 h4 o hm) (fun k b hb => hk b ((h3 b).2 ⟨k, hb⟩)), h2, h3, h4⟩

def HoldsN : Nat → (D → HRep)
  | 0 => fun _ => ⟨fun _ _ _ => False, fun _ _ _ _ _ h => h⟩
  | n + 1 => stepH P frag (HoldsN n)

variable {P} {frag}

theorem ObjOk.cfg_mono {cfg cfg' : D → HRep} (hc : ∀ d l own w, (cfg d).holds l own w → (cfg' d).holds l own w) {ρ : Env} {own : Nat → Prop} {k : Nat} {o : AObj D} {w : World} (h : ObjOk P cfg ρ own k o w) : ObjOk P cfg' ρ own k o w := by
  cases o with
  | hi d =>
    obtain ⟨l, h1, h2, h3, h4⟩ := h
    exact ⟨l, h1, h2, h3, hc _ _ _ _ h4⟩
  | _ => exact h

theorem HoldsN.succ : ∀ (n : Nat) (d : D) l own w, (HoldsN P frag n d).holds l own w → (HoldsN P frag (n + 1) d).holds l own w
  | 0, _, _, _, _, h => h.elim
  | n + 1, d, l, own, w, ⟨ρ, own', h1, h2, h3, h4⟩ => ⟨ρ, own', h1.cfg_mono fun _ _ _ h => h.cfg_mono (HoldsN.succ n), h2, h3, h4⟩
theorem HoldsN.le {n m : Nat} (h : n ≤ m) (d : D) l own w (hh : (HoldsN P frag n d).holds l own w) : (HoldsN P frag m d).holds l own w := by
  induction h with
  | refl => exact hh
  | step _ ih => exact HoldsN.succ _ d l own w ih

variable (P) (frag)
/-- How the data lie. -/
def cfgOf (d : D) : HRep := ⟨fun l own w => ∃ n, (HoldsN P frag n d).holds l own w, fun l own w w' hk ⟨n, h⟩ => ⟨n, (HoldsN P frag n d).keep l own w w' hk h⟩⟩
variable {P} {frag}

theorem holds_open {d : D} {l : Loc} {own : Nat → Prop} {w : World} (h : (cfgOf P frag d).holds l own w) :
    ∃ ρ own', Rel P (cfgOf P frag) ρ own' (fragH frag d) w ∧ ρ.loc 0 = some l ∧ (∀ b, own b ↔ ∃ k, own' k b) := by
  obtain ⟨n, h⟩ := h
  cases n with
  | zero => exact h.elim
  | succ n =>
    obtain ⟨ρ, own', h1, h2, h3, h4⟩ := h
    exact ⟨ρ, own', h1.cfg_mono fun _ _ _ h => h.cfg_mono (cfg' := cfgOf P frag) fun _ _ _ _ h => ⟨n, h⟩, h2, h3⟩

theorem holds_pack {d : D} {l : Loc} {own : Nat → Prop} {w : World} {ρ : Env} {own' : Nat → Nat → Prop} (h : Rel P (cfgOf P frag) ρ own' (fragH frag d) w) (h0 : ρ.loc 0 = some l) (ho : ∀ b, own b ↔ ∃ k, own' k b) (hm : (frag d).all (·.mine) = true) :
    (cfgOf P frag d).holds l own w := by
  have key : ∀ m, ∃ n, ∀ k, k < m → ∀ o, (fragH frag d).get k = some o → ObjOk P (HoldsN P frag n) ρ (own' k) k o w := by
    intro m
    induction m with
    | zero => exact ⟨0, fun k hk => by omega⟩
    | succ m ih =>
      obtain ⟨n, hn⟩ := ih
      have hlast : ∃ n', ∀ o, (fragH frag d).get m = some o → ObjOk P (HoldsN P frag n') ρ (own' m) m o w := by
        cases hg : (fragH frag d).get m with
        | none => exact ⟨0, fun o ho => by cases ho⟩
        | some o =>
          have hob := h.obj m o hg
          cases o with
          | hi d' =>
            obtain ⟨l', q1, q2, q3, n', q4⟩ := hob
            exact ⟨n', fun o ho => by cases ho; exact ⟨l', q1, q2, q3, q4⟩⟩
          | _ => exact ⟨0, fun o ho => by cases ho; exact hob⟩
      obtain ⟨n', hn'⟩ := hlast
      refine ⟨max n n', fun k hk o ho => ?_⟩
      by_cases hkm : k = m
      · subst hkm
        exact (hn' o ho).cfg_mono fun _ _ _ _ => HoldsN.le (Nat.le_max_right _ _) _ _ _ _
      · exact (hn k (by omega) o ho).cfg_mono fun _ _ _ _ => HoldsN.le (Nat.le_max_left _ _) _ _ _ _
  obtain ⟨n, hn⟩ := key (fragH frag d).next
  exact ⟨n + 1, ρ, own', h.cfg_mono fun k o ho _ => hn k (h.lt ho) o ho, h0, ho, hm⟩

/-! ### Opening -/
variable {f : FuncId} {args : List Value} {K : AEnd → AH D → Prop}

open Classical in
theorem Rel.open {ρ : Env} {own : Nat → Nat → Prop} {H : AH D} {w : World} (h : Rel P (cfgOf P frag) ρ own H w) {k : Nat} {d : D} (hk : H.get k = some (.hi d)) {θ : Nat → Nat} (hθ : θ = sh 1 H.next [k]) :
    ∃ ρ' own', Rel P (cfgOf P frag) ρ' own' (H.emb θ 1 (fragH frag d)) w ∧ ρ.le ρ' ∧ (∀ b, (∃ j, own' j b) → ∃ j, own j b) := by
  obtain ⟨l, h1, h2, h3, h4⟩ := h.obj k _ hk
  obtain ⟨ρd, ownd, r, r0, ro⟩ := holds_open h4
  have klt : k < H.next := h.lt hk
  have θ0 : θ 0 = k := by rw [hθ]; simp [sh]
  have θs : ∀ i, 1 ≤ i → θ i = H.next + (i - 1) := fun i hi => by rw [hθ]; simp [sh, Nat.not_lt.2 hi]
  have inj : ∀ i j, θ i = θ j → i = j := by
    intro i j hij
    rcases Nat.eq_zero_or_pos i with rfl | hi <;> rcases Nat.eq_zero_or_pos j with rfl | hj
    · rfl
    · rw [θ0, θs j hj] at hij; omega
    · rw [θ0, θs i hi] at hij; omega
    · rw [θs i hi, θs j hj] at hij; omega
  have hge : ∀ j, H.next ≤ j → θ (1 + (j - H.next)) = j := fun j hj => by
    rw [θs _ (by omega)]; omega
  let ρ2 : Env := ⟨fun j => if h : ∃ i, θ i = j then ρd.loc h.choose else ρ.loc j⟩
  have himg : ∀ i, ρ2.loc (θ i) = ρd.loc i := fun i => by
    have hx : ∃ i', θ i' = θ i := ⟨i, rfl⟩
    show (if h : ∃ i', θ i' = θ i then ρd.loc h.choose else ρ.loc (θ i)) = _
    rw [dif_pos hx, inj _ _ hx.choose_spec]
  have hoth : ∀ j, (¬ ∃ i, θ i = j) → ρ2.loc j = ρ.loc j := fun j hj => by
    show (if h : ∃ i', θ i' = j then ρd.loc h.choose else ρ.loc j) = _
    rw [dif_neg hj]
  have hon : ρ2.on θ = ρd := by
    cases ρd
    unfold Env.on
    congr
    exact funext fun i => himg i
  let own2 : Nat → Nat → Prop := fun j b => if h : ∃ i, θ i = j then ownd h.choose b else own j b
  have oimg : ∀ i, own2 (θ i) = ownd i := fun i => by
    have hx : ∃ i', θ i' = θ i := ⟨i, rfl⟩
    funext b
    show (if h : ∃ i', θ i' = θ i then ownd h.choose b else own (θ i) b) = _
    rw [dif_pos hx, inj _ _ hx.choose_spec]
  have ooth : ∀ j, (¬ ∃ i, θ i = j) → own2 j = own j := fun j hj => by
    funext b
    show (if h : ∃ i', θ i' = j then ownd h.choose b else own j b) = _
    rw [dif_neg hj]
  have hle : ρ.le ρ2 := fun j x hx => by
    by_cases hj : ∃ i, θ i = j
    · obtain ⟨i, rfl⟩ := hj
      rw [himg]
      rcases Nat.eq_zero_or_pos i with rfl | hi
      · rw [θ0, h1] at hx; cases hx; exact r0
      · rw [h.dom _ (by rw [θs i hi]; omega)] at hx; cases hx
    · rw [hoth j hj]; exact hx
  have notk : ∀ j, (¬ ∃ i, θ i = j) → j ≠ k := fun j hj e => hj ⟨0, by rw [θ0, e]⟩
  have back : ∀ i b, ownd i b → own k b := fun i b hb => (ro b).2 ⟨i, hb⟩
  refine ⟨ρ2, own2, ⟨fun j hj => ?_, fun j hj => ?_, fun j o ho => ?_, fun j hj b hb => ?_, fun j b hb => ?_, fun j j' b hb hb' => ?_, fun j cs hj hcs l' hl j' hb => ?_⟩, hle, fun b ⟨j, hb⟩ => ?_⟩
  · have hj' : H.next + ((fragH frag d).next - 1) ≤ j := hj
    rw [← hge j (by omega), AH.emb_img inj, r.fresh _ (by omega)]; rfl
  · have hj' : H.next + ((fragH frag d).next - 1) ≤ j := hj
    rw [← hge j (by omega), himg, r.dom _ (by omega)]
  · by_cases hx : ∃ i, θ i = j
    · obtain ⟨i, rfl⟩ := hx
      rw [AH.emb_img inj] at ho
      simp only [Option.map_eq_some_iff] at ho
      obtain ⟨o1, ho1, rfl⟩ := ho
      rw [oimg]
      exact ObjOk.to_ren (by rw [hon]; exact r.obj i o1 ho1)
    · rw [AH.emb_oth hx] at ho
      rw [ooth j hx]
      exact (h.obj j o ho).keep P _ hle (fun _ _ => rfl) fun _ _ _ _ _ => rfl
  · by_cases hx : ∃ i, θ i = j
    · obtain ⟨i, rfl⟩ := hx
      rw [AH.emb_img inj] at hj
      rw [oimg] at hb
      exact r.gone i (by simpa using hj) b hb
    · rw [AH.emb_oth hx] at hj
      rw [ooth j hx] at hb
      exact h.gone j hj b hb
  · by_cases hx : ∃ i, θ i = j
    · obtain ⟨i, rfl⟩ := hx
      rw [oimg] at hb
      exact r.bound i b hb
    · rw [ooth j hx] at hb
      exact h.bound j b hb
  · by_cases hx : ∃ i, θ i = j
    · obtain ⟨i, rfl⟩ := hx
      rw [oimg] at hb
      by_cases hx' : ∃ i, θ i = j'
      · obtain ⟨i', rfl⟩ := hx'
        rw [oimg] at hb'
        rw [r.disj i i' b hb hb']
      · rw [ooth j' hx'] at hb'
        exact absurd (h.disj _ _ b hb' (back i b hb)) (notk j' hx')
    · rw [ooth j hx] at hb
      by_cases hx' : ∃ i, θ i = j'
      · obtain ⟨i', rfl⟩ := hx'
        rw [oimg] at hb'
        exact absurd (h.disj _ _ b hb (back i' b hb')) (notk j hx)
      · rw [ooth j' hx'] at hb'
        exact h.disj j j' b hb hb'
  · have hno : ∀ i, ownd i l'.b → (∃ i, θ i = j) ∨ False := by
      intro i hi
      by_cases hx : ∃ i, θ i = j
      · exact .inl hx
      · rw [AH.emb_oth hx] at hj
        rw [hoth j hx] at hl
        exact absurd (back i _ hi) (h.ro j cs hj hcs l' hl k)
    by_cases hx : ∃ i, θ i = j
    · obtain ⟨i, rfl⟩ := hx
      rw [AH.emb_img inj] at hj
      simp only [Option.map_eq_some_iff] at hj
      obtain ⟨o1, ho1, ho2⟩ := hj
      -- the data have no rows that nobody writes
      obtain ⟨n, hh⟩ := h4
      cases n with
      | zero => exact hh.elim
      | succ n =>
        obtain ⟨_, _, _, _, _, hm⟩ := hh
        have hmem : o1 ∈ frag d := by
          simp only [fragH, AH.of, List.getElem?_map] at ho1
          cases hx : (frag d)[i]? with
          | none => rw [hx] at ho1; cases ho1
          | some x => rw [hx] at ho1; simp at ho1; subst ho1; exact List.mem_of_getElem? hx
        have := List.all_eq_true.1 hm o1 hmem
        cases o1 <;> simp [AObj.ren] at ho2 <;> cases this
    · rw [AH.emb_oth hx] at hj
      rw [hoth j hx] at hl
      by_cases hx' : ∃ i, θ i = j'
      · obtain ⟨i', rfl⟩ := hx'
        rw [oimg] at hb
        exact h.ro j cs hj hcs l' hl k (back i' _ hb)
      · rw [ooth j' hx'] at hb
        exact h.ro j cs hj hcs l' hl j' hb
  · by_cases hx : ∃ i, θ i = j
    · obtain ⟨i, rfl⟩ := hx
      rw [oimg] at hb
      exact ⟨k, back i b hb⟩
    · rw [ooth j hx] at hb
      exact ⟨j, hb⟩

theorem Runs.open {H : AH D} {k : Nat} {d : D} (hk : H.get k = some (.hi d)) (h : Runs P (cfgOf P frag) f args (H.emb (sh 1 H.next [k]) 1 (fragH frag d)) K) : Runs P (cfgOf P frag) f args H K := by
  refine ⟨h.1, fun ρ own w args' hr hv => ?_⟩
  obtain ⟨ρ', own', r', le, ob⟩ := hr.open hk rfl
  refine (h.2 ρ' own' w args' r' (hv.mono le)).mono fun en w1 ⟨r1, H1, ρ1, own1, k1, x1, v1, r1'⟩ => ⟨r1, H1, ρ1, own1, k1, ⟨Env.le_trans le x1.le, fun j b hb => ?_, x1.size, fun b hb hno => x1.kept b hb fun j hj => ?_, x1.os, x1.tape, x1.output⟩, v1, r1'⟩
  · rcases x1.owned j b hb with ⟨k0, h0⟩ | h0
    · exact .inl (ob b ⟨k0, h0⟩)
    · exact .inr h0
  · obtain ⟨j', hj'⟩ := ob b ⟨j, hj⟩
    exact hno j' hj'

end
end Go.Abs
