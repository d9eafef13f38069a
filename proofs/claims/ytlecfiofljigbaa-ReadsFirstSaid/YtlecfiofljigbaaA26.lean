/-
  PACKING: what stands behind a call is seen as fewer objects.
-/
import Derived.Test.YtlecfiofljigbaaA25
set_option linter.unusedSimpArgs false
set_option linter.unusedVariables false
set_option linter.unnecessarySimpa false
set_option linter.unusedSectionVars false
namespace Go.Abs
open Go.RowKit

section
variable {D : Type} {P : Program} {frag : D → List (AObj D)}

theorem sh_lo {n N : Nat} {ks : List Nat} {i : Nat} (h : i < n) : sh n N ks i = ks.getD i 0 := by simp [sh, h]
theorem sh_hi {n N : Nat} {ks : List Nat} {i : Nat} (h : n ≤ i) : sh n N ks i = N + (i - n) := by simp [sh, Nat.not_lt.2 h]

theorem sh_inj {N : Nat} {ks : List Nat} (hn : ks.Nodup) (hlt : ∀ k ∈ ks, k < N) : ∀ i j, sh ks.length N ks i = sh ks.length N ks j → i = j := by
  intro i j hij
  have get : ∀ i, i < ks.length → ks.getD i 0 = ks[i]! ∧ ks.getD i 0 ∈ ks := fun i hi => by
    rw [List.getD_eq_getElem?_getD, List.getElem?_eq_getElem hi]
    exact ⟨by simp [hi], List.getElem_mem hi⟩
  by_cases hi : i < ks.length <;> by_cases hj : j < ks.length
  · rw [sh_lo hi, sh_lo hj, List.getD_eq_getElem?_getD, List.getD_eq_getElem?_getD, List.getElem?_eq_getElem hi, List.getElem?_eq_getElem hj] at hij
    exact (List.getElem_inj hn).1 hij
  · rw [sh_lo hi, sh_hi (by omega)] at hij
    have := hlt _ (get i hi).2
    omega
  · rw [sh_hi (by omega), sh_lo hj] at hij
    have := hlt _ (get j hj).2
    omega
  · rw [sh_hi (by omega), sh_hi (by omega)] at hij
    omega

/-- The few objects at these keys. -/
theorem Emb.of_keys {H Hs : AH D} {ks : List Nat} (hn : ks.Nodup) (hlt : ∀ k ∈ ks, k < H.next) (hl : Hs.next = ks.length) (hf : ∀ i, Hs.next ≤ i → Hs.get i = none)
    (hget : ∀ i, i < ks.length → H.get (ks.getD i 0) = (Hs.get i).map (·.ren (sh ks.length H.next ks))) : Emb (sh ks.length H.next ks) Hs H := by
  refine ⟨sh_inj hn hlt, fun i hi => ?_, fun i hi => ?_, fun i hi => ?_, hf⟩
  · rw [hl] at hi
    rw [sh_lo hi, List.getD_eq_getElem?_getD, List.getElem?_eq_getElem hi]
    exact hlt _ (List.getElem_mem hi)
  · rw [hl] at hi ⊢
    rw [sh_hi hi]
  · rw [hl] at hi
    rw [sh_lo hi]; exact hget i hi

/-! ### What says less -/

/-- The second value says no more than the first one. -/
def leV (v w : Value) : Prop := v = w ∨ (v = .slice none 0 0 ∧ ∃ k c, w = .slice (some ⟨k, 0, none⟩) 0 c ∧ c ≤ 1) ∨ ∃ k o n c, v = .slice (some ⟨k, o, none⟩) n c ∧ w = .slice (some ⟨k, o, none⟩) n 0
def leVs : List Value → List Value → Prop
  | _, [] => True
  | [], _ :: _ => False
  | v :: l, w :: m => leV v w ∧ leVs l m
def leO : AObj D → AObj D → Prop
  | .arr e cs, .arr e' cs' => e = e' ∧ leVs cs cs'
  | o, o' => o = o'

theorem leV_refl (v : Value) : leV v v = True := by simp [leV]
theorem leV_nil (k c : Nat) (h : c ≤ 1) : leV (.slice none 0 0) (.slice (some ⟨k, 0, none⟩) 0 c) = True := eq_true (.inr (.inl ⟨rfl, k, c, rfl, h⟩))
theorem leV_tag (k o n c : Nat) : leV (.slice (some ⟨k, o, none⟩) n c) (.slice (some ⟨k, o, none⟩) n 0) = True := by simp [leV]
theorem leVs_refl : ∀ (l : List Value), leVs l l = True
  | [] => by simp [leVs]
  | v :: l => by simp [leVs, leV_refl, leVs_refl l]
theorem leVs_cons (v w : Value) (l m : List Value) : leVs (v :: l) (w :: m) = (leV v w ∧ leVs l m) := rfl
theorem leVs_nil (l : List Value) : leVs l [] = True := by cases l <;> rfl
theorem leO_arr (e e' : TypeId) (cs cs' : List Value) : leO (D := D) (.arr e cs) (.arr e' cs') = (e = e' ∧ leVs cs cs') := rfl
theorem leO_hi (d d' : D) : leO (.hi d : AObj D) (.hi d') = (d = d') := by simp [leO]
theorem leO_ro (cs cs' : List Value) : leO (.ro cs : AObj D) (.ro cs') = (cs = cs') := by simp [leO]
theorem leO_map (es es' : List MapEntry) (c c' : Nat) : leO (.map es c : AObj D) (.map es' c') = (es = es' ∧ c = c') := by simp [leO]
theorem leO_refl (o : AObj D) : leO o o := by
  cases o <;> simp [leO, leVs_refl]

theorem leV.vr {ρ : Env} {v w v' : Value} (h : leV v w) (hv : VR ρ v v') : VR ρ w v' := by
  rcases h with rfl | ⟨rfl, k, c, rfl, hc⟩ | ⟨k, o, n, c, rfl, rfl⟩
  · exact hv
  · cases hv; exact .slicen k c none 0 hc (fun _ => ⟨rfl, rfl⟩)
  · rcases hv.slice_inv with ⟨o', cc, l, h1, h2, h3, h4, h5, rfl⟩ | ⟨rfl, rfl, h1, a, cc, rfl, h2⟩
    · exact .slice _ _ _ _ _ _ _ h1 h2 h3 (fun h => by omega) (fun m h => by omega)
    · exact .slicen _ _ a cc (by omega) (fun h => h2 (h.elim (fun h => absurd h (by omega)) .inr))
theorem leVs.vrs {ρ : Env} : ∀ {l m : List Value} {l' : List Value}, leVs l m → VRs ρ l l' → VRs ρ m (l'.take m.length)
  | _, [], _, _, _ => by simpa using VRs.nil
  | [], _ :: _, _, h, _ => h.elim
  | v :: l, w :: m, _, h, hv => by
    cases hv with
    | cons _ v' _ l' h1 h2 => exact .cons _ _ _ _ (h.1.vr h1) (leVs.vrs h.2 h2)
theorem leVs.length : ∀ {l m : List Value}, leVs l m → m.length ≤ l.length
  | _, [], _ => Nat.zero_le _
  | [], _ :: _, h => h.elim
  | _ :: _, _ :: _, h => Nat.succ_le_succ h.2.length
theorem leV.one {v w : Value} (h : leV v w) : v.oneCell' = w.oneCell' := by
  rcases h with rfl | ⟨rfl, k, c, rfl, hc⟩ | ⟨k, o, n, c, rfl, rfl⟩ <;> rfl
theorem leVs.all : ∀ {l m : List Value}, leVs l m → l.all (·.oneCell') = true → m.all (·.oneCell') = true
  | _, [], _, _ => rfl
  | [], _ :: _, h, _ => h.elim
  | v :: l, w :: m, h, hl => by
    simp only [List.all_cons, Bool.and_eq_true] at hl ⊢
    exact ⟨by rw [← h.1.one]; exact hl.1, leVs.all h.2 hl.2⟩
theorem leO.ok {cfg : D → HRep} {ρ : Env} {own : Nat → Prop} {k : Nat} {o o' : AObj D} {w : World} (h : leO o o') (hok : ObjOk P cfg ρ own k o w) : ObjOk P cfg ρ own k o' w := by
  unfold leO at h
  split at h
  · rename_i e cs e' cs'
    obtain ⟨rfl, h⟩ := h
    rcases hok with ⟨l, c1, h1, h2, h3, h4, h5, h6, h7, h8, h9⟩ | ⟨rfl, h2, h3⟩
    · refine .inl ⟨l, c1, h1, h2, h3, h4, h5, h6, Nat.le_trans h.length h7, ?_, h.all h9⟩
      have := h.vrs h8
      rwa [List.take_take, Nat.min_eq_left h.length] at this
    · have : cs' = [] := List.eq_nil_of_length_eq_zero (Nat.le_zero.1 h.length)
      exact .inr ⟨this, h2, h3⟩
  · subst h; exact hok

theorem Rel.weaken {cfg : D → HRep} {ρ : Env} {own : Nat → Nat → Prop} {H H2 : AH D} {w : World} (h : Rel P cfg ρ own H w) (hn : H2.next = H.next)
    (hg : ∀ k, H2.get k = H.get k ∨ ∃ o o', H.get k = some o ∧ H2.get k = some o' ∧ leO o o') : Rel P cfg ρ own H2 w := by
  refine ⟨fun k hk => ?_, fun k hk => h.dom k (by omega), fun k o ho => ?_, fun k hk => ?_, h.bound, h.disj, fun k cs hk hcs => ?_⟩
  · rcases hg k with e | ⟨o, o', h1, _⟩
    · rw [e]; exact h.fresh k (by omega)
    · rw [h.fresh k (by omega)] at h1; cases h1
  · rcases hg k with e | ⟨o1, o', h1, h2, h3⟩
    · exact h.obj k o (by rw [← e]; exact ho)
    · rw [ho] at h2; cases h2
      exact h3.ok (h.obj k o1 h1)
  · rcases hg k with e | ⟨o1, o', h1, h2, h3⟩
    · exact h.gone k (by rw [← e]; exact hk)
    · rw [hk] at h2; cases h2
  · rcases hg k with e | ⟨o1, o', h1, h2, h3⟩
    · exact h.ro k cs (by rw [← e]; exact hk) hcs
    · rw [hk] at h2; cases h2
      have : o1 = .ro cs := by
        cases o1 <;> simp [leO] at h3
        rw [h3]
      exact h.ro k cs (by rw [h1, this]) hcs

def AH.pack (H : AH D) (d : D) (ks : List Nat) : AH D := { next := H.next, get := fun j => if j = ks.headD 0 then some (.hi d) else if ks.contains j then none else H.get j }

theorem fragH_fresh (d : D) : ∀ i, (fragH frag d).next ≤ i → (fragH frag d).get i = none := by
  intro i hi
  simp only [fragH, AH.of, List.length_map] at hi ⊢
  rw [List.getElem?_eq_none (by simpa using hi)]; rfl
theorem fragH_get (d : D) (i : Nat) : (fragH frag d).get i = (frag d)[i]? := by
  simp only [fragH, AH.of, List.getElem?_map]
  cases (frag d)[i]? <;> rfl

theorem Rel.pack {ρ : Env} {own : Nat → Nat → Prop} {H : AH D} {w : World} (h : Rel P (cfgOf P frag) ρ own H w) {d : D} {ks : List Nat} (hn : ks.Nodup) (hl : (frag d).length = ks.length)
    (hget : ∀ i, i < ks.length → H.get (ks.getD i 0) = ((frag d)[i]?).map (·.ren (sh ks.length H.next ks))) (hm : (frag d).all (·.mine) = true) (hroot : ∃ e c cs, (frag d)[0]? = some (.arr e (c :: cs))) :
    ∃ own', Rel P (cfgOf P frag) ρ own' (H.pack d ks) w ∧ ∀ b, (∃ j, own' j b) → ∃ j, own j b := by
  have hgk : ∀ k ∈ ks, ∃ i o, i < ks.length ∧ ks.getD i 0 = k ∧ (frag d)[i]? = some o ∧ H.get k = some (o.ren (sh ks.length H.next ks)) := fun k hk => by
    obtain ⟨i, hi, rfl⟩ := List.getElem_of_mem hk
    have e : ks.getD i 0 = ks[i] := by rw [List.getD_eq_getElem?_getD, List.getElem?_eq_getElem hi]; rfl
    have := hget i hi
    rw [List.getElem?_eq_getElem (by omega)] at this
    exact ⟨i, (frag d)[i], hi, e, List.getElem?_eq_getElem (by omega), by rw [← e]; exact this⟩
  have hlt : ∀ k ∈ ks, k < H.next := fun k hk => by
    obtain ⟨i, o, _, _, _, ho⟩ := hgk k hk
    exact h.lt ho
  have hem : Emb (sh ks.length H.next ks) (fragH frag d) H := Emb.of_keys hn hlt (by simp [fragH, AH.of, hl]) (fragH_fresh d) fun i hi => by rw [fragH_get]; exact hget i hi
  have hr := hem.rel h
  obtain ⟨e0, c0, cs0, h0⟩ := hroot
  have hpos : 0 < ks.length := by
    rcases Nat.eq_zero_or_pos ks.length with hz | hz
    · rw [List.getElem?_eq_none (by omega)] at h0; cases h0
    · exact hz
  let k0 := ks.getD 0 0
  have hk0 : ks.headD 0 = k0 := by cases ks with
    | nil => rfl
    | cons _ _ => rfl
  have hk0m : k0 ∈ ks := by
    show ks.getD 0 0 ∈ ks
    rw [List.getD_eq_getElem?_getD, List.getElem?_eq_getElem hpos]; exact List.getElem_mem hpos
  obtain ⟨l, hl1, hl2, hl3, hl4⟩ : ∃ l, ρ.loc k0 = some l ∧ l.base = 0 ∧ (∀ i, own k0 i ↔ i = l.b) ∧ True := by
    have hg := hget 0 hpos
    rw [h0] at hg
    rcases h.obj _ _ hg with ⟨l, cs', q1, q2, _, _, q5, _⟩ | ⟨q, _⟩
    · exact ⟨l, q1, q2, q5, trivial⟩
    · rw [rens] at q; cases q
  have hhold : (cfgOf P frag d).holds l (fun b => ∃ k, k ∈ ks ∧ own k b) w := by
    refine holds_pack hr ?_ (fun b => ⟨fun ⟨k, hk, hb⟩ => ?_, fun ⟨i, hi, hb⟩ => ?_⟩) hm
    · show ρ.loc (sh ks.length H.next ks 0) = some l
      rw [sh_lo hpos]; exact hl1
    · obtain ⟨i, o, hi, he, ho, _⟩ := hgk k hk
      refine ⟨i, ?_, ?_⟩
      · rw [fragH_get, ho]; simp
      · rw [sh_lo hi, he]; exact hb
    · rw [fragH_get] at hi
      have hi' : i < ks.length := by
        rcases Nat.lt_or_ge i ks.length with hx | hx
        · exact hx
        · rw [List.getElem?_eq_none (by omega)] at hi; exact absurd rfl hi
      rw [sh_lo hi'] at hb
      refine ⟨_, ?_, hb⟩
      rw [List.getD_eq_getElem?_getD, List.getElem?_eq_getElem hi']; exact List.getElem_mem hi'
  refine ⟨fun j b => if j = k0 then ∃ k, k ∈ ks ∧ own k b else j ∉ ks ∧ own j b, ⟨fun j hj => ?_, h.dom, fun j o ho => ?_, fun j hj b hb => ?_, fun j b hb => ?_, fun j j' b hb hb' => ?_, fun j cs hj hcs l' hl' j' hb => ?_⟩, fun b ⟨j, hb⟩ => ?_⟩
  · have hj' : H.next ≤ j := hj
    have hne : j ≠ ks.headD 0 := by rw [hk0]; have := hlt k0 hk0m; omega
    have hnc : ks.contains j = false := by
      rw [List.contains_eq_mem, decide_eq_false_iff_not]; intro hx; have := hlt j hx; omega
    simp only [AH.pack, if_neg hne, hnc, Bool.false_eq_true, if_false]
    exact h.fresh j hj'
  · simp only [AH.pack, hk0] at ho
    by_cases hj : j = k0
    · subst hj
      rw [if_pos rfl] at ho; cases ho
      simp only [if_true]
      exact ⟨l, hl1, hl2, ⟨k0, hk0m, (hl3 _).2 rfl⟩, hhold⟩
    · rw [if_neg hj] at ho
      split at ho
      · cases ho
      · rename_i hnc
        have hnm : j ∉ ks := by simpa using hnc
        simp only [if_neg hj]
        have : (fun b => j ∉ ks ∧ own j b) = own j := by funext b; simp [hnm]
        rw [this]
        exact h.obj j o ho
  · simp only [AH.pack, hk0] at hj
    by_cases hjk : j = k0
    · rw [if_pos hjk] at hj; cases hj
    · rw [if_neg hjk] at hj
      simp only [if_neg hjk] at hb
      rw [if_neg (by simpa using hb.1)] at hj
      exact h.gone j hj b hb.2
  · split at hb
    · obtain ⟨k, _, hb⟩ := hb; exact h.bound k b hb
    · exact h.bound j b hb.2
  · by_cases hj : j = k0 <;> by_cases hj' : j' = k0
    · rw [hj, hj']
    · rw [if_pos hj] at hb; rw [if_neg hj'] at hb'
      obtain ⟨k, hk, hb⟩ := hb
      exact absurd (h.disj k j' b hb hb'.2 ▸ hk) hb'.1
    · rw [if_neg hj] at hb; rw [if_pos hj'] at hb'
      obtain ⟨k, hk, hb'⟩ := hb'
      exact absurd (h.disj k j b hb' hb.2 ▸ hk) hb.1
    · rw [if_neg hj] at hb; rw [if_neg hj'] at hb'
      exact h.disj j j' b hb.2 hb'.2
  · simp only [AH.pack, hk0] at hj
    have hj0 : H.get j = some (.ro cs) := by
      by_cases hjk : j = k0
      · rw [if_pos hjk] at hj; cases hj
      · rw [if_neg hjk] at hj
        split at hj
        · cases hj
        · exact hj
    split at hb
    · obtain ⟨k, _, hb⟩ := hb; exact h.ro j cs hj0 hcs l' hl' k hb
    · exact h.ro j cs hj0 hcs l' hl' j' hb.2
  · simp only at hb
    split at hb
    · obtain ⟨k, _, hb⟩ := hb; exact ⟨k, hb⟩
    · exact ⟨j, hb.2⟩

/-- The same, where the objects say no less than the datum's. -/
theorem Rel.packLe {ρ : Env} {own : Nat → Nat → Prop} {H : AH D} {w : World} (h : Rel P (cfgOf P frag) ρ own H w) {d : D} {ks : List Nat} (hn : ks.Nodup) (hl : (frag d).length = ks.length)
    (hget : ∀ i, i < ks.length → ∃ o o', H.get (ks.getD i 0) = some o ∧ (frag d)[i]? = some o' ∧ leO o (o'.ren (sh ks.length H.next ks))) (hm : (frag d).all (·.mine) = true) (hroot : ∃ e c cs, (frag d)[0]? = some (.arr e (c :: cs))) :
    ∃ own', Rel P (cfgOf P frag) ρ own' (H.pack d ks) w ∧ ∀ b, (∃ j, own' j b) → ∃ j, own j b := by
  let H2 : AH D := ⟨H.next, fun j => match ks.idxOf? j with
    | some i => ((frag d)[i]?).map (·.ren (sh ks.length H.next ks))
    | none => H.get j⟩
  have hat : ∀ i, i < ks.length → ks.idxOf? (ks.getD i 0) = some i := fun i hi => by
    rw [List.getD_eq_getElem?_getD, List.getElem?_eq_getElem hi, Option.getD_some]
    rw [List.idxOf?, List.findIdx?_eq_some_iff_getElem]
    refine ⟨hi, by simp, fun j hj => ?_⟩
    have hne : ¬ ks[j] = ks[i] := fun e => by
      have := (List.getElem_inj hn).1 e
      omega
    simpa using hne
  have hno : ∀ j i, ks.idxOf? j = some i → i < ks.length ∧ ks.getD i 0 = j := fun j i hi => by
    rw [List.idxOf?, List.findIdx?_eq_some_iff_getElem] at hi
    obtain ⟨h1, h2, _⟩ := hi
    refine ⟨h1, ?_⟩
    rw [List.getD_eq_getElem?_getD, List.getElem?_eq_getElem h1]
    simpa using h2
  have r2 : Rel P (cfgOf P frag) ρ own H2 w := by
    refine h.weaken rfl fun j => ?_
    show (match ks.idxOf? j with | some i => ((frag d)[i]?).map (AObj.ren (sh ks.length H.next ks)) | none => H.get j) = H.get j ∨ _
    cases hj : ks.idxOf? j with
    | none => exact .inl rfl
    | some i =>
      obtain ⟨h1, rfl⟩ := hno j i hj
      obtain ⟨o, o', e1, e2, e3⟩ := hget i h1
      refine .inr ⟨o, _, e1, ?_, e3⟩
      show (match ks.idxOf? _ with | some i => ((frag d)[i]?).map (AObj.ren (sh ks.length H.next ks)) | none => H.get _) = _
      rw [hj]; simp only [e2]; rfl
  have hp : H2.pack d ks = H.pack d ks := by
    unfold AH.pack
    congr
    funext j
    split
    · rfl
    · split
      · rfl
      · rename_i hc
        show (match ks.idxOf? j with | some i => ((frag d)[i]?).map (AObj.ren (sh ks.length H.next ks)) | none => H.get j) = _
        have : ks.idxOf? j = none := by
          cases hj : ks.idxOf? j with
          | none => rfl
          | some i =>
            obtain ⟨h1, h2⟩ := hno j i hj
            refine absurd ?_ hc
            rw [List.contains_eq_mem, decide_eq_true_eq, ← h2, List.getD_eq_getElem?_getD, List.getElem?_eq_getElem h1]
            exact List.getElem_mem h1
        rw [this]
  rw [← hp]
  exact r2.pack hn hl (fun i hi => by
    show (match ks.idxOf? (ks.getD i 0) with | some i => ((frag d)[i]?).map (AObj.ren (sh ks.length H.next ks)) | none => H.get _) = _
    rw [hat i hi]) hm hroot

/-! ### Views -/

theorem EndR.mono {ρ ρ' : Env} (h : ρ.le ρ') {r : AEnd} {en : Ending} (hr : EndR ρ r en) : EndR ρ' r en := by
  cases r <;> cases en <;> first | exact hr.elim | skip
  · exact VR.mono h hr
  · obtain ⟨v', h1, h2⟩ := hr
    exact ⟨v', h1, VR.mono h h2⟩

theorem SeesG.nil {cfg : D → HRep} (H : AH D) (e : TypeId) : SeesG P cfg H (H.add (.arr e [])) := fun ρ own w hr => by
  obtain ⟨ρ', own', _, h2, h3, h4⟩ := hr.nilRow e 0
  exact ⟨ρ', own', h4, h2.le, h3⟩
theorem SeesG.forget {cfg : D → HRep} (H : AH D) (k : Nat) : SeesG P cfg H (H.del k) := fun ρ own w hr =>
  ⟨ρ, _, hr.forget k, ρ.le_refl, fun b ⟨j, hj⟩ => ⟨j, hj.2⟩⟩
theorem SeesG.weaken {cfg : D → HRep} {H H2 : AH D} (hn : H2.next = H.next) (hg : ∀ k, H2.get k = H.get k ∨ ∃ o o', H.get k = some o ∧ H2.get k = some o' ∧ leO o o') : SeesG P cfg H H2 := fun ρ own _ hr =>
  ⟨ρ, own, hr.weaken hn hg, ρ.le_refl, fun _ h => h⟩
theorem SeesG.pack {H : AH D} (d : D) (ks : List Nat) (hn : ks.Nodup) (hl : (frag d).length = ks.length)
    (hget : ∀ i, i < ks.length → ∃ o o', H.get (ks.getD i 0) = some o ∧ (frag d)[i]? = some o' ∧ leO o (o'.ren (sh ks.length H.next ks))) (hm : (frag d).all (·.mine) = true) (hroot : ∃ e c cs, (frag d)[0]? = some (.arr e (c :: cs))) :
    SeesG P (cfgOf P frag) H (H.pack d ks) := fun ρ own w hr => by
  obtain ⟨own', h1, h2⟩ := hr.packLe hn hl hget hm hroot
  exact ⟨ρ, own', h1, ρ.le_refl, h2⟩
theorem SeesG.open {H : AH D} {k : Nat} {d : D} (hk : H.get k = some (.hi d)) : SeesG P (cfgOf P frag) H (H.emb (sh 1 H.next [k]) 1 (fragH frag d)) := fun ρ own w hr => by
  obtain ⟨ρ', own', r', le, ob⟩ := hr.open hk rfl
  exact ⟨ρ', own', r', le, ob⟩

/-- What stands behind a call, seen otherwise; the keys below n0 are as they were. -/
def View (P : Program) (frag : D → List (AObj D)) (n0 : Nat) (H : AH D) (r : AEnd) (H2 : AH D) (r2 : AEnd) : Prop :=
  ∀ ρ own w, Rel P (cfgOf P frag) ρ own H w → ∃ ρ2 own2, Rel P (cfgOf P frag) ρ2 own2 H2 w ∧ (∀ k, k < n0 → ∀ x, ρ.loc k = some x → ρ2.loc k = some x) ∧ (∀ b, (∃ j, own2 j b) → ∃ j, own j b) ∧ ∀ en, EndR ρ r en → EndR ρ2 r2 en

theorem View.refl (n0 : Nat) (H : AH D) (r : AEnd) : View P frag n0 H r H r := fun ρ own _ h => ⟨ρ, own, h, fun _ _ _ h => h, fun _ h => h, fun _ h => h⟩
theorem View.trans {n0 : Nat} {H H2 H3 : AH D} {r r2 r3 : AEnd} (h : View P frag n0 H r H2 r2) (k : View P frag n0 H2 r2 H3 r3) : View P frag n0 H r H3 r3 := fun ρ own w hr => by
  obtain ⟨ρ2, own2, a1, a2, a3, a4⟩ := h ρ own w hr
  obtain ⟨ρ3, own3, b1, b2, b3, b4⟩ := k ρ2 own2 w a1
  exact ⟨ρ3, own3, b1, fun k hk x hx => b2 k hk x (a2 k hk x hx), fun b hb => a3 b (b3 b hb), fun en he => b4 en (a4 en he)⟩

/-- Whatever keeps all places is a view. -/
theorem View.sees {n0 : Nat} {H H2 : AH D} {r : AEnd} (h : SeesG P (cfgOf P frag) H H2) : View P frag n0 H r H2 r := fun ρ own w hr => by
  obtain ⟨ρ2, own2, h1, h2, h3⟩ := h ρ own w hr
  exact ⟨ρ2, own2, h1, fun k _ x hx => h2 k x hx, h3, fun en he => he.mono h2⟩

theorem EndR.of_ren {ρ : Env} {θ : Nat → Nat} {r : AEnd} {en : Ending} (h : EndR ρ (renE θ r) en) : EndR (ρ.on θ) r en := by
  cases r <;> cases en <;> first | exact h.elim | skip
  · exact VR.of_ren _ h
  · obtain ⟨v', h1, h2⟩ := h
    exact ⟨v', h1, VR.of_ren _ h2⟩

/-- All but a few objects are left; these have new names. -/
theorem View.names {n0 : Nat} {H : AH D} {r : AEnd} (l : List (Option (AObj D))) (r2 : AEnd) (ks : List Nat) (hn : ks.Nodup) (hl : l.length = ks.length) (hlt : ∀ k ∈ ks, k < H.next)
    (hget : ∀ i, i < ks.length → H.get (ks.getD i 0) = ((l[i]?).join).map (·.ren (sh ks.length H.next ks))) (h0 : ∀ i, i < n0 → ks[i]? = some i) (hr : r = renE (sh ks.length H.next ks) r2) :
    View P frag n0 H r (AH.of l) r2 := fun ρ own w h => by
  have hem : Emb (sh ks.length H.next ks) (AH.of l) H := Emb.of_keys hn hlt hl (fun i hi => by simp only [AH.of] at hi ⊢; rw [List.getElem?_eq_none hi]; rfl) hget
  refine ⟨_, _, hem.rel h, fun k hk x hx => ?_, fun b ⟨j, hb⟩ => ⟨_, hb.2⟩, fun en he => (hr ▸ he : EndR ρ (renE _ r2) en).of_ren⟩
  show ρ.loc (sh ks.length H.next ks k) = some x
  have hk' := h0 k hk
  have hkl : k < ks.length := by
    rcases Nat.lt_or_ge k ks.length with hx | hx
    · exact hx
    · rw [List.getElem?_eq_none hx] at hk'; cases hk'
  rw [sh_lo hkl, List.getD_eq_getElem?_getD, hk']; exact hx

variable {f : FuncId} {args : List Value} {K K2 : AEnd → AH D → Prop}
theorem Runs.view {H : AH D} (h : Runs P (cfgOf P frag) f args H K) (hv : ∀ r H', K r H' → ∃ r2 H2, View P frag H.next H' r H2 r2 ∧ K2 r2 H2) : Runs P (cfgOf P frag) f args H K2 := by
  refine ⟨h.1, fun ρ own w args' hr hva => (h.2 ρ own w args' hr hva).mono fun en w1 ⟨r1, H1, ρ1, own1, k1, x1, v1, r1'⟩ => ?_⟩
  obtain ⟨r2, H2, v, k2⟩ := hv _ _ k1
  obtain ⟨ρ2, own2, a1, a2, a3, a4⟩ := v ρ1 own1 w1 r1'
  refine ⟨r2, H2, ρ2, own2, k2, ⟨fun k x hx => ?_, fun j b hb => ?_, x1.size, x1.kept, x1.os, x1.tape, x1.output⟩, a4 en v1, a1⟩
  · refine a2 k ?_ x (x1.le k x hx)
    rcases Nat.lt_or_ge k H.next with hlt | hge
    · exact hlt
    · rw [hr.dom k hge] at hx; cases hx
  · obtain ⟨j', hj'⟩ := a3 b ⟨j, hb⟩
    exact x1.owned j' b hj'

end
end Go.Abs
