/-
  CALLS: what is known of a function over a few objects, at a place where it is called.
-/
import Derived.Test.YtlecfiofljigbaaA28
set_option linter.unusedSimpArgs false
set_option linter.unusedVariables false
set_option linter.unnecessarySimpa false
set_option linter.unusedSectionVars false
namespace Go.Abs

section
variable {D : Type} {P : Program} {cfg : D → HRep}

def AH.addn (H : AH D) : AH D := { next := H.next + 1, get := fun j => if j = H.next then none else H.get j }
def addsN (θ : Nat → Nat) (H : AH D) : List (Option (AObj D)) → AH D
  | [] => H
  | some o :: l => addsN θ (H.add (o.ren θ)) l
  | none :: l => addsN θ H.addn l
def AH.sub (H : AH D) (k : Nat) : Option (AObj D) → AH D
  | some o => H.upd k o
  | none => H.del k
/-- A heap in which a few objects are put at their keys, new ones behind. -/
def putK (θ : Nat → Nat) (H : AH D) : List Nat → List (Option (AObj D)) → AH D
  | [], l2 => addsN θ H l2
  | _ :: _, [] => H
  | k :: ks, o :: l2 => putK θ (H.sub k (o.map (·.ren θ))) ks l2

theorem AH.sub_next (H : AH D) (k : Nat) (o : Option (AObj D)) : (H.sub k o).next = H.next := by cases o <;> rfl
theorem AH.sub_get (H : AH D) (k : Nat) (o : Option (AObj D)) (j : Nat) : (H.sub k o).get j = if j = k then o else H.get j := by cases o <;> rfl
theorem of_addn (l : List (Option (AObj D))) : (AH.of l).addn = AH.of (l ++ [none]) := by
  refine AH.ext' (by simp [AH.of, AH.addn]) fun k => ?_
  show (if k = l.length then none else (AH.of l).get k) = _
  rw [of_get, of_get]
  by_cases hk : k = l.length
  · subst hk; simp
  · rw [if_neg hk]
    rcases Nat.lt_or_ge k l.length with h | h
    · rw [List.getElem?_append_left h]
    · rw [List.getElem?_append_right h, List.getElem?_eq_none h, List.getElem?_eq_none (by simp; omega)]

theorem addsN_next (θ : Nat → Nat) : ∀ (l : List (Option (AObj D))) (H : AH D), (addsN θ H l).next = H.next + l.length
  | [], _ => rfl
  | some o :: l, H => by rw [addsN, addsN_next θ l, AH.next_add, List.length_cons]; omega
  | none :: l, H => by
    rw [addsN, addsN_next θ l, List.length_cons]
    show H.next + 1 + l.length = _
    omega
theorem addsN_get (θ : Nat → Nat) (j : Nat) : ∀ (l : List (Option (AObj D))) (H : AH D), (addsN θ H l).get j = if H.next ≤ j ∧ j < H.next + l.length then ((l[j - H.next]?).join).map (·.ren θ) else H.get j
  | [], H => by rw [addsN, if_neg (by rw [List.length_nil]; omega)]
  | o :: l, H => by
    have key : ∀ H' : AH D, H'.next = H.next + 1 → (∀ i, H'.get i = if i = H.next then o.map (·.ren θ) else H.get i) → (addsN θ H' l).get j = if H.next ≤ j ∧ j < H.next + (o :: l).length then (((o :: l)[j - H.next]?).join).map (·.ren θ) else H.get j := by
      intro H' hn hg
      rw [addsN_get θ j l, hn, hg, List.length_cons]
      by_cases h : j = H.next
      · subst h
        rw [if_neg (by omega), if_pos rfl, if_pos (by omega), Nat.sub_self]
        rfl
      · by_cases h2 : H.next + 1 ≤ j ∧ j < H.next + 1 + l.length
        · rw [if_pos h2, if_pos (by omega)]
          obtain ⟨m, hm⟩ : ∃ m, j - H.next = m + 1 := ⟨j - H.next - 1, by omega⟩
          rw [hm, List.getElem?_cons_succ, show j - (H.next + 1) = m by omega]
        · rw [if_neg h2, if_neg h, if_neg (by omega)]
    cases o with
    | some o => rw [addsN]; exact key _ rfl fun i => AH.get_add _ _ _
    | none => rw [addsN]; exact key _ rfl fun i => rfl

theorem putK_next (θ : Nat → Nat) : ∀ (ks : List Nat) (l2 : List (Option (AObj D))) (H : AH D), ks.length ≤ l2.length → (putK θ H ks l2).next = H.next + (l2.length - ks.length)
  | [], l2, H, _ => by rw [putK, addsN_next]; rfl
  | k :: ks, [], H, h => by simp at h
  | k :: ks, o :: l2, H, h => by
    rw [putK, putK_next θ ks l2 _ (by simpa using h), AH.sub_next, List.length_cons, List.length_cons]; omega
theorem putK_old (θ : Nat → Nat) (j : Nat) : ∀ (ks : List Nat) (l2 : List (Option (AObj D))) (H : AH D), ks.length ≤ l2.length → j < H.next → j ∉ ks → (putK θ H ks l2).get j = H.get j
  | [], l2, H, _, hj, _ => by rw [putK, addsN_get, if_neg (by omega)]
  | k :: ks, [], H, h, _, _ => by simp at h
  | k :: ks, o :: l2, H, h, hj, hn => by
    simp only [List.mem_cons, not_or] at hn
    rw [putK, putK_old θ j ks l2 _ (by simpa using h) (by rwa [AH.sub_next]) hn.2, AH.sub_get, if_neg hn.1]
theorem putK_new (θ : Nat → Nat) (m : Nat) : ∀ (ks : List Nat) (l2 : List (Option (AObj D))) (H : AH D), ks.length ≤ l2.length → (∀ k ∈ ks, k < H.next) → (∀ j, H.next ≤ j → H.get j = none) → (putK θ H ks l2).get (H.next + m) = ((l2[ks.length + m]?).join).map (·.ren θ)
  | [], l2, H, _, _, hf => by
    rw [putK, addsN_get, List.length_nil, Nat.zero_add, Nat.add_sub_cancel_left]
    by_cases h : m < l2.length
    · rw [if_pos (by omega)]
    · rw [if_neg (by omega), List.getElem?_eq_none (by omega), hf _ (by omega)]; rfl
  | k :: ks, [], H, h, _, _ => by simp at h
  | k :: ks, o :: l2, H, h, hlt, hf => by
    have hk := hlt k (by simp)
    have := putK_new θ m ks l2 (H.sub k (o.map (·.ren θ))) (by simpa using h) (fun k' hk' => by rw [AH.sub_next]; exact hlt k' (by simp [hk'])) (fun j hj => by
      rw [AH.sub_next] at hj
      rw [AH.sub_get, if_neg (by omega)]; exact hf j hj)
    rw [AH.sub_next] at this
    rw [putK, this, List.length_cons, show ks.length + 1 + m = ks.length + m + 1 by omega, List.getElem?_cons_succ]
theorem putK_at (θ : Nat → Nat) : ∀ (ks : List Nat) (l2 : List (Option (AObj D))) (H : AH D), ks.length ≤ l2.length → ks.Nodup → (∀ k ∈ ks, k < H.next) → ∀ i, i < ks.length → (putK θ H ks l2).get (ks.getD i 0) = ((l2[i]?).join).map (·.ren θ)
  | [], l2, H, _, _, _, i, hi => by simp at hi
  | k :: ks, [], H, h, _, _, _, _ => by simp at h
  | k :: ks, o :: l2, H, h, hn, hlt, i, hi => by
    rw [List.nodup_cons] at hn
    cases i with
    | zero =>
      rw [putK]
      show (putK θ (H.sub k (o.map (·.ren θ))) ks l2).get k = _
      rw [putK_old θ k ks l2 _ (by simpa using h) (by rw [AH.sub_next]; exact hlt k (by simp)) hn.1, AH.sub_get, if_pos rfl]
      cases o <;> rfl
    | succ i =>
      rw [putK]
      exact putK_at θ ks l2 _ (by simpa using h) hn.2 (fun k' hk' => by rw [AH.sub_next]; exact hlt k' (by simp [hk'])) i (by simpa using hi)

theorem emb_putK {H : AH D} {l2 : List (Option (AObj D))} {ks : List Nat} (hn : ks.Nodup) (hlt : ∀ k ∈ ks, k < H.next) (hf : ∀ j, H.next ≤ j → H.get j = none) (hl2 : ks.length ≤ l2.length) :
    H.emb (sh ks.length H.next ks) ks.length (AH.of l2) = putK (sh ks.length H.next ks) H ks l2 := by
  have inj := sh_inj hn hlt
  refine AH.ext' ?_ fun j => ?_
  · show H.next + (l2.length - ks.length) = _
    rw [putK_next _ _ _ _ hl2]
  · by_cases hj : ∃ i, sh ks.length H.next ks i = j
    · obtain ⟨i, rfl⟩ := hj
      rw [AH.emb_img inj, of_get]
      rcases Nat.lt_or_ge i ks.length with hi | hi
      · rw [sh_lo hi, putK_at _ _ _ _ hl2 hn hlt i hi]
      · rw [sh_hi hi, putK_new _ _ _ _ _ hl2 hlt hf]
        congr 4; omega
    · rw [AH.emb_oth hj]
      have hjl : j < H.next := by
        refine Nat.lt_of_not_le fun hle => hj ⟨ks.length + (j - H.next), ?_⟩
        rw [sh_hi (by omega)]; omega
      have hjn : j ∉ ks := fun hm => by
        obtain ⟨i, hi, rfl⟩ := List.getElem_of_mem hm
        refine hj ⟨i, ?_⟩
        rw [sh_lo hi, List.getD_eq_getElem?_getD, List.getElem?_eq_getElem hi]; rfl
      rw [putK_old _ _ _ _ _ hl2 hjl hjn]

/-- Rows that nobody writes stay such. -/
def roKept (l l2 : List (Option (AObj D))) : Prop := ∀ (i : Nat) (cs : List Value), (l2[i]?).join = some (.ro cs) → cs ≠ [] → ∃ cs', (l[i]?).join = some (.ro cs') ∧ cs' ≠ []
theorem ro_none {l l2 : List (Option (AObj D))} (h : l2.all (fun o => match o with | some (.ro _) => false | _ => true) = true) : roKept l l2 := by
  intro i cs hi
  cases hx : l2[i]? with
  | none => rw [hx] at hi; cases hi
  | some o =>
    rw [hx] at hi
    have := List.all_eq_true.1 h o (List.mem_of_getElem? hx)
    simp only [Option.join_some] at hi
    subst hi
    cases this
theorem ro_same {l l2 : List (Option (AObj D))} (h : ∀ (i : Nat) (cs : List Value), (l2[i]?).join = some (.ro cs) → (l[i]?).join = some (.ro cs)) : roKept l l2 := fun i cs hi hne => ⟨cs, h i cs hi, hne⟩

/-- Objects at their keys. -/
def atK (H : AH D) (θ : Nat → Nat) : List Nat → List (Option (AObj D)) → Prop
  | [], [] => True
  | k :: ks, some o :: l => H.get k = some (o.ren θ) ∧ atK H θ ks l
  | _, _ => False
theorem atK.length {H : AH D} {θ : Nat → Nat} : ∀ {ks : List Nat} {l : List (Option (AObj D))}, atK H θ ks l → ks.length = l.length
  | [], [], _ => rfl
  | [], _ :: _, h => h.elim
  | _ :: _, [], h => h.elim
  | _ :: _, none :: _, h => h.elim
  | _ :: _, some _ :: _, h => by simp [atK.length h.2]
theorem atK.get {H : AH D} {θ : Nat → Nat} : ∀ {ks : List Nat} {l : List (Option (AObj D))}, atK H θ ks l → ∀ i, i < ks.length → ∃ o, (l[i]?).join = some o ∧ H.get (ks.getD i 0) = some (o.ren θ)
  | [], [], _, i, hi => by simp at hi
  | [], _ :: _, h, _, _ => h.elim
  | _ :: _, [], h, _, _ => h.elim
  | _ :: _, none :: _, h, _, _ => h.elim
  | k :: ks, some o :: l, h, 0, _ => ⟨o, rfl, h.1⟩
  | k :: ks, some o :: l, h, i + 1, hi => by
    obtain ⟨x, h1, h2⟩ := atK.get h.2 i (by simpa using hi)
    exact ⟨x, by simpa using h1, h2⟩

/-- WHAT IS KNOWN OF A FUNCTION OVER A FEW OBJECTS, at any heap in which these lie. -/
theorem Runs.atK {f : FuncId} {args0 : List Value} {l l2 : List (Option (AObj D))} {r : AEnd} (h : Runs P cfg f args0 (AH.of l) fun r' H' => r' = r ∧ H' = AH.of l2) (hro : roKept l l2) {H : AH D} (ks : List Nat)
    (hn : ks.Nodup) (hl2 : ks.length ≤ l2.length) (hat : Abs.atK H (sh ks.length H.next ks) ks l) {args : List Value} (ha : args = rens (sh ks.length H.next ks) args0) {r' : AEnd} (hr' : r' = renE (sh ks.length H.next ks) r) {H' : AH D} (hH : H' = putK (sh ks.length H.next ks) H ks l2) :
    Runs P cfg f args H fun r1 H1 => r1 = r' ∧ H1 = H' := by
  subst ha hr' hH
  refine ⟨h.1, fun ρ own w args' hrel hv => ?_⟩
  have hlt : ∀ k ∈ ks, k < H.next := fun k hk => by
    obtain ⟨i, hi, rfl⟩ := List.getElem_of_mem hk
    obtain ⟨o, _, h2⟩ := hat.get i hi
    rw [List.getD_eq_getElem?_getD, List.getElem?_eq_getElem hi] at h2
    exact hrel.lt h2
  have hl : l.length = ks.length := hat.length.symm
  have hem : Emb (sh ks.length H.next ks) (AH.of l) H := Emb.of_keys (H := H) hn hlt hl (fun i hi => by
    rw [of_next] at hi; rw [of_get, List.getElem?_eq_none hi]; rfl) fun i hi => by
      obtain ⟨o, h1, h2⟩ := hat.get i hi
      rw [h2, of_get, h1]; rfl
  have hfr := Runs.frame hem h fun r1 H1 h1 => by
    obtain ⟨_, rfl⟩ := h1
    exact ⟨by rw [of_next, of_next, hl]; exact hl2, fun i cs hi hne => hro i cs hi hne⟩
  refine (hfr.2 ρ own w args' hrel hv).mono fun en w1 ⟨r1, H1, ρ1, own1, ⟨r2, H2, ⟨e1, e2⟩, e3, e4⟩, x1, v1, r1'⟩ => ⟨r1, H1, ρ1, own1, ⟨by rw [e3, e1], ?_⟩, x1, v1, r1'⟩
  rw [e4, e2, of_next, hl, emb_putK hn hlt hrel.fresh hl2]

end
attribute [simp] putK addsN AH.sub of_addn atK
end Go.Abs
