/-
  OPENING AND PACKING over heaps that are lists.
-/
import Derived.Test.YtlecfiofljigbaaA27
set_option linter.unusedSimpArgs false
set_option linter.unusedVariables false
set_option linter.unnecessarySimpa false
set_option linter.unusedSectionVars false
namespace Go.Abs

mutual
theorem ren_ground (θ : Nat → Nat) : ∀ (v : Value), ground v = true → ren θ v = v
  | .bool b, _ => by rw [ren]
  | .int k n, _ => by rw [ren]
  | .float k b, _ => by rw [ren]
  | .complex .., h => by simp [ground] at h
  | .string s, _ => by rw [ren]
  | .pointer none, _ => by rw [ren]
  | .pointer (some _), h => by simp [ground] at h
  | .slice none n c, _ => by rw [ren]
  | .slice (some _) _ _, h => by simp [ground] at h
  | .map none, _ => by rw [ren]
  | .map (some _), h => by simp [ground] at h
  | .chan _, h => by simp [ground] at h
  | .func .., h => by simp [ground] at h
  | .nilFunc, _ => by rw [ren]
  | .nilIface, _ => by rw [ren]
  | .iface t v, h => by rw [ren, ren_ground θ v (by simpa [ground] using h)]
  | .agg ⟨l⟩, h => by rw [ren, rens_ground θ l (by simpa [ground] using h)]
  | .tuple ⟨l⟩, h => by rw [ren, rens_ground θ l (by simpa [ground] using h)]
theorem rens_ground (θ : Nat → Nat) : ∀ (l : List Value), grounds l = true → rens θ l = l
  | [], _ => by rw [rens]
  | v :: l, h => by
    simp [grounds] at h
    rw [rens, ren_ground θ v h.1, rens_ground θ l h.2]
end

theorem ren_entries (θ : Nat → Nat) {es : List MapEntry} (h : ∀ e ∈ es, ground e.key = true ∧ ground e.val = true) : es.map (fun e => (⟨ren θ e.key, ren θ e.val, e.born⟩ : MapEntry)) = es := by
  induction es with
  | nil => rfl
  | cons e es ih =>
    rw [List.map_cons, ih fun e he => h e (by simp [he]), ren_ground θ _ (h e (by simp)).1, ren_ground θ _ (h e (by simp)).2]

section
variable {D : Type} {P : Program} {frag : D → List (AObj D)}

/-- A list with some of it struck. -/
def strike (l : List (Option (AObj D))) : List Nat → List (Option (AObj D))
  | [] => l
  | k :: ks => strike (l.set k none) ks

theorem strike_length (ks : List Nat) : ∀ l : List (Option (AObj D)), (strike l ks).length = l.length := by
  induction ks with
  | nil => intro l; rfl
  | cons k ks ih => intro l; rw [strike, ih, List.length_set]
theorem strike_get (ks : List Nat) (j : Nat) : ∀ l : List (Option (AObj D)), ((strike l ks)[j]?).join = if ks.contains j then none else (l[j]?).join := by
  induction ks with
  | nil => intro l; rfl
  | cons k ks ih =>
    intro l
    rw [strike, ih, List.getElem?_set]
    by_cases h : j = k
    · subst h
      simp
      intro _
      split <;> rfl
    · have h' : ¬ k = j := fun e => h e.symm
      simp [h, h']

theorem pack_of {l : List (Option (AObj D))} {d : D} {k0 : Nat} {ks : List Nat} (hk : k0 < l.length) : (AH.of l).pack d (k0 :: ks) = AH.of ((strike l ks).set k0 (some (.hi d))) := by
  refine AH.ext' (by simp [AH.pack, AH.of, strike_length]) fun j => ?_
  rw [of_get, List.getElem?_set]
  show (if j = (k0 :: ks).headD 0 then some (AObj.hi d) else if (k0 :: ks).contains j then none else (AH.of l).get j) = _
  by_cases h : j = k0
  · subst h; simp [strike_length, hk]
  · have h' : ¬ k0 = j := fun e => h e.symm
    rw [if_neg (by simpa using h), if_neg h', strike_get, of_get]
    simp [h]

/-! ### Packing, over lists -/
def leOs : List (Option (AObj D)) → List (AObj D) → Prop
  | [], [] => True
  | some o :: a, o' :: b => leO o o' ∧ leOs a b
  | _, _ => False
theorem leOs_nil : leOs ([] : List (Option (AObj D))) [] = True := rfl
theorem leOs_cons (o o' : AObj D) (a : List (Option (AObj D))) (b : List (AObj D)) : leOs (some o :: a) (o' :: b) = (leO o o' ∧ leOs a b) := rfl
theorem leOs.length : ∀ {a : List (Option (AObj D))} {b : List (AObj D)}, leOs a b → a.length = b.length
  | [], [], _ => rfl
  | [], _ :: _, h => h.elim
  | none :: _, [], h => h.elim
  | none :: _, _ :: _, h => h.elim
  | some _ :: _, [], h => h.elim
  | some _ :: _, _ :: _, h => by simp [leOs.length h.2]
theorem leOs.get : ∀ {a : List (Option (AObj D))} {b : List (AObj D)}, leOs a b → ∀ i, i < a.length → ∃ o o', a[i]? = some (some o) ∧ b[i]? = some o' ∧ leO o o'
  | [], [], _, i, hi => by simp at hi
  | [], _ :: _, h, _, _ => h.elim
  | none :: _, [], h, _, _ => h.elim
  | none :: _, _ :: _, h, _, _ => h.elim
  | some _ :: _, [], h, _, _ => h.elim
  | some o :: a, o' :: b, h, 0, _ => ⟨o, o', rfl, rfl, h.1⟩
  | some o :: a, o' :: b, h, i + 1, hi => by
    obtain ⟨x, y, h1, h2, h3⟩ := leOs.get h.2 i (by simpa using hi)
    exact ⟨x, y, by simpa using h1, by simpa using h2, h3⟩

/-- A datum lies in a list, at these keys. -/
def Packs (frag : D → List (AObj D)) (L : List (Option (AObj D))) (d : D) (k0 : Nat) (ks : List Nat) : Prop :=
  (k0 :: ks).Nodup ∧ k0 < L.length ∧ leOs ((k0 :: ks).map fun k => (L[k]?).join) ((frag d).map (·.ren (sh (ks.length + 1) L.length (k0 :: ks)))) ∧ (frag d).all (·.mine) = true ∧ ∃ e c cs, (frag d)[0]? = some (.arr e (c :: cs))
def packL (L : List (Option (AObj D))) (d : D) (k0 : Nat) (ks : List Nat) : List (Option (AObj D)) := (strike L ks).set k0 (some (.hi d))

theorem Packs.sees {L : List (Option (AObj D))} {d : D} {k0 : Nat} {ks : List Nat} (h : Packs frag L d k0 ks) : SeesG P (cfgOf P frag) (AH.of L) (AH.of (packL L d k0 ks)) := by
  obtain ⟨h1, h2, h3, h4, h5⟩ := h
  have hl := h3.length
  simp only [List.length_map, List.length_cons] at hl
  have := SeesG.pack (P := P) (H := AH.of L) d (k0 :: ks) h1 (by simpa using hl.symm) (fun i hi => ?_) h4 h5
  · rwa [Abs.pack_of h2] at this
  · obtain ⟨o, o', e1, e2, e3⟩ := h3.get i (by simpa using hi)
    rw [List.getElem?_map] at e1 e2
    simp only [Option.map_eq_some_iff] at e1 e2
    obtain ⟨k, hk, e1⟩ := e1
    obtain ⟨o1, ho1, rfl⟩ := e2
    refine ⟨o, o1, ?_, ho1, e3⟩
    rw [of_get, List.getD_eq_getElem?_getD, hk]; exact e1

/-- What is done ahead of an end: rows of nothing are laid, data are packed. -/
inductive Plan (D : Type) where
  | nil (e : TypeId)
  | pack (d : D) (k0 : Nat) (ks : List Nat)
def planL (L : List (Option (AObj D))) : List (Plan D) → List (Option (AObj D))
  | [] => L
  | .nil e :: ps => planL (L ++ [some (.arr e [])]) ps
  | .pack d k0 ks :: ps => planL (packL L d k0 ks) ps
def PlanOk (frag : D → List (AObj D)) (L : List (Option (AObj D))) : List (Plan D) → Prop
  | [] => True
  | .nil e :: ps => PlanOk frag (L ++ [some (.arr e [])]) ps
  | .pack d k0 ks :: ps => Packs frag L d k0 ks ∧ PlanOk frag (packL L d k0 ks) ps
theorem PlanOk.sees : ∀ {ps : List (Plan D)} {L : List (Option (AObj D))}, PlanOk frag L ps → SeesG P (cfgOf P frag) (AH.of L) (AH.of (planL L ps))
  | [], L, _ => SeesG.refl _
  | .nil e :: ps, L, h => by
    have h1 := SeesG.nil (P := P) (cfg := cfgOf P frag) (AH.of L) e
    rw [of_add] at h1
    exact h1.trans (PlanOk.sees (ps := ps) h)
  | .pack d k0 ks :: ps, L, h => h.1.sees.trans (PlanOk.sees (ps := ps) h.2)

/-! ### New names, over lists -/
theorem Rel.drop {cfg : D → HRep} {ρ : Env} {own : Nat → Nat → Prop} {H H2 : AH D} {w : World} (h : Rel P cfg ρ own H w) (hn : H2.next = H.next) (hg : ∀ k, H2.get k = H.get k ∨ H2.get k = none) :
    Rel P cfg ρ (fun k b => H2.get k ≠ none ∧ own k b) H2 w := by
  have get : ∀ {k o}, H2.get k = some o → H.get k = some o := fun {k o} ho => by
    rcases hg k with e | e
    · rw [← e]; exact ho
    · rw [e] at ho; cases ho
  refine ⟨fun k hk => ?_, fun k hk => h.dom k (by omega), fun k o ho => ?_, fun k hk b hb => hb.1 hk, fun k b hb => h.bound k b hb.2, fun k k' b hb hb' => h.disj k k' b hb.2 hb'.2, fun k cs hk hcs l hl k' hk' => h.ro k cs (get hk) hcs l hl k' hk'.2⟩
  · rcases hg k with e | e
    · rw [e]; exact h.fresh k (by omega)
    · exact e
  · have e : (fun b => H2.get k ≠ none ∧ own k b) = own k := by funext b; rw [ho]; simp
    show ObjOk P cfg ρ (fun b => H2.get k ≠ none ∧ own k b) k o w
    rw [e]; exact h.obj k o (get ho)

/-- What is kept, by its new names; what is left out is dropped. -/
def nameL (θ : Nat → Nat) : List (Option (AObj D)) → List (Option (AObj D)) → Prop
  | [], [] => True
  | _ :: a, none :: b => nameL θ a b
  | some o :: a, some o' :: b => leO o (o'.ren θ) ∧ nameL θ a b
  | _, _ => False
theorem nameL_nil (θ : Nat → Nat) : nameL θ ([] : List (Option (AObj D))) [] = True := rfl
theorem nameL_none (θ : Nat → Nat) (o : Option (AObj D)) (a b : List (Option (AObj D))) : nameL θ (o :: a) (none :: b) = nameL θ a b := by cases o <;> rfl
theorem nameL_some (θ : Nat → Nat) (o o' : AObj D) (a b : List (Option (AObj D))) : nameL θ (some o :: a) (some o' :: b) = (leO o (o'.ren θ) ∧ nameL θ a b) := rfl
theorem nameL.length {θ : Nat → Nat} : ∀ {a b : List (Option (AObj D))}, nameL θ a b → a.length = b.length
  | [], [], _ => rfl
  | [], _ :: _, h => h.elim
  | none :: _, [], h => h.elim
  | some _ :: _, [], h => h.elim
  | none :: _, some _ :: _, h => h.elim
  | o :: a, none :: b, h => by rw [nameL_none] at h; simp [nameL.length h]
  | some _ :: _, some _ :: _, h => by simp [nameL.length h.2]
theorem nameL.get {θ : Nat → Nat} : ∀ {a b : List (Option (AObj D))}, nameL θ a b → ∀ i, i < a.length → (b[i]?).join = none ∨ ∃ o o', (a[i]?).join = some o ∧ (b[i]?).join = some o' ∧ leO o (o'.ren θ)
  | [], [], _, i, hi => by simp at hi
  | [], _ :: _, h, _, _ => h.elim
  | none :: _, [], h, _, _ => h.elim
  | some _ :: _, [], h, _, _ => h.elim
  | none :: _, some _ :: _, h, _, _ => h.elim
  | o :: a, none :: b, h, 0, _ => .inl rfl
  | some o :: a, some o' :: b, h, 0, _ => .inr ⟨o, o', rfl, rfl, h.1⟩
  | o :: a, none :: b, h, i + 1, hi => by
    rw [nameL_none] at h
    simpa using nameL.get h i (by simpa using hi)
  | some o :: a, some o' :: b, h, i + 1, hi => by simpa using nameL.get h.2 i (by simpa using hi)

/-- The first keys keep their names. -/
def lowP : Nat → Nat → List Nat → Prop
  | 0, _, _ => True
  | _ + 1, _, [] => False
  | n + 1, i, k :: ks => k = i ∧ lowP n (i + 1) ks
theorem lowP.get : ∀ {n i : Nat} {ks : List Nat}, lowP n i ks → ∀ j, j < n → ks[j]? = some (i + j)
  | 0, _, _, _, j, hj => by omega
  | _ + 1, _, [], h, _, _ => h.elim
  | n + 1, i, k :: ks, h, 0, _ => by simp [h.1]
  | n + 1, i, k :: ks, h, j + 1, hj => by
    have := lowP.get h.2 j (by omega)
    rw [List.getElem?_cons_succ, this]
    congr 1; omega

def NamesP (n0 : Nat) (L : List (Option (AObj D))) (ks : List Nat) (l2 : List (Option (AObj D))) : Prop :=
  ks.Nodup ∧ (∀ k ∈ ks, k < L.length) ∧ nameL (sh ks.length L.length ks) (ks.map fun k => (L[k]?).join) l2 ∧ lowP n0 0 ks
theorem NamesP.nodup {n0 : Nat} {L l2 : List (Option (AObj D))} {ks : List Nat} (h : NamesP n0 L ks l2) : ks.Nodup := h.1
theorem NamesP.lt {n0 : Nat} {L l2 : List (Option (AObj D))} {ks : List Nat} (h : NamesP n0 L ks l2) : ∀ k ∈ ks, k < L.length := h.2.1
theorem NamesP.same {n0 : Nat} {L l2 : List (Option (AObj D))} {ks : List Nat} (h : NamesP n0 L ks l2) : nameL (sh ks.length L.length ks) (ks.map fun k => (L[k]?).join) l2 := h.2.2.1

/-- A few objects are kept: the rest is dropped, these say less. -/
theorem NamesP.rel {n0 : Nat} {L l2 : List (Option (AObj D))} {ks : List Nat} (h : NamesP n0 L ks l2) {ρ : Env} {own : Nat → Nat → Prop} {w : World} {cfg : D → HRep} (hr : Rel P cfg ρ own (AH.of L) w) :
    ∃ own2, Rel P cfg (ρ.on (sh ks.length L.length ks)) own2 (AH.of l2) w ∧ ∀ b, (∃ j, own2 j b) → ∃ j, own j b := by
  have hlen : ks.length = l2.length := by simpa using h.same.length
  have hat : ∀ i, i < ks.length → ks.idxOf? (ks.getD i 0) = some i := fun i hi => by
    rw [List.getD_eq_getElem?_getD, List.getElem?_eq_getElem hi, Option.getD_some]
    rw [List.idxOf?, List.findIdx?_eq_some_iff_getElem]
    refine ⟨hi, by simp, fun j hj => ?_⟩
    have hne : ¬ ks[j] = ks[i] := fun e => by
      have := (List.getElem_inj h.nodup).1 e
      omega
    simpa using hne
  have hno : ∀ j i, ks.idxOf? j = some i → i < ks.length ∧ ks.getD i 0 = j := fun j i hi => by
    rw [List.idxOf?, List.findIdx?_eq_some_iff_getElem] at hi
    obtain ⟨h1, h2, _⟩ := hi
    refine ⟨h1, ?_⟩
    rw [List.getD_eq_getElem?_getD, List.getElem?_eq_getElem h1]
    simpa using h2
  have hget : ∀ i, i < ks.length → (l2[i]?).join = none ∨ ∃ o o', (AH.of L).get (ks.getD i 0) = some o ∧ (l2[i]?).join = some o' ∧ leO o (o'.ren (sh ks.length L.length ks)) := fun i hi => by
    rcases h.same.get i (by simpa using hi) with e | ⟨o, o', e1, e2, e3⟩
    · exact .inl e
    · refine .inr ⟨o, o', ?_, e2, e3⟩
      rw [List.getElem?_map, List.getElem?_eq_getElem hi] at e1
      rw [of_get, List.getD_eq_getElem?_getD, List.getElem?_eq_getElem hi]
      exact e1
  let H1 : AH D := ⟨L.length, fun j => match ks.idxOf? j with
    | some i => if (l2[i]?).join = none then none else (AH.of L).get j
    | none => (AH.of L).get j⟩
  have r1 := hr.drop (H2 := H1) rfl fun j => by
    show (match ks.idxOf? j with | some i => if (l2[i]?).join = none then none else (AH.of L).get j | none => (AH.of L).get j) = _ ∨ (match ks.idxOf? j with | some i => if (l2[i]?).join = none then none else (AH.of L).get j | none => (AH.of L).get j) = _
    cases hj : ks.idxOf? j with
    | none => exact .inl rfl
    | some i =>
      simp only
      split
      · exact .inr rfl
      · exact .inl rfl
  let H2 : AH D := ⟨L.length, fun j => match ks.idxOf? j with
    | some i => ((l2[i]?).join).map (AObj.ren (sh ks.length L.length ks))
    | none => (AH.of L).get j⟩
  have r2 : Rel P cfg ρ _ H2 w := r1.weaken rfl fun j => by
    show (match ks.idxOf? j with | some i => ((l2[i]?).join).map (AObj.ren (sh ks.length L.length ks)) | none => (AH.of L).get j) = (match ks.idxOf? j with | some i => if (l2[i]?).join = none then none else (AH.of L).get j | none => (AH.of L).get j) ∨
      ∃ o o', (match ks.idxOf? j with | some i => if (l2[i]?).join = none then none else (AH.of L).get j | none => (AH.of L).get j) = some o ∧ (match ks.idxOf? j with | some i => ((l2[i]?).join).map (AObj.ren (sh ks.length L.length ks)) | none => (AH.of L).get j) = some o' ∧ leO o o'
    cases hj : ks.idxOf? j with
    | none => exact .inl rfl
    | some i =>
      obtain ⟨h1, rfl⟩ := hno j i hj
      simp only
      rcases hget i h1 with e | ⟨o, o', e1, e2, e3⟩
      · left; rw [e]; rfl
      · right
        refine ⟨o, _, ?_, ?_, e3⟩
        · rw [e2, if_neg (by simp)]; exact e1
        · rw [e2]; rfl
  have hem : Emb (sh ks.length L.length ks) (AH.of l2) H2 := Emb.of_keys (H := H2) h.nodup h.lt (by rw [of_next, hlen]) (fun i hi => by
    rw [of_next] at hi; rw [of_get, List.getElem?_eq_none hi]; rfl) fun i hi => by
    show (match ks.idxOf? (ks.getD i 0) with | some i => ((l2[i]?).join).map (AObj.ren (sh ks.length L.length ks)) | none => (AH.of L).get _) = _
    rw [hat i hi, of_get]
    rfl
  exact ⟨_, hem.rel r2, fun b ⟨j, hb⟩ => ⟨_, hb.2.2⟩⟩

theorem NamesP.fix {n0 : Nat} {L l2 : List (Option (AObj D))} {ks : List Nat} (h : NamesP n0 L ks l2) {i : Nat} (hi : i < n0) : sh ks.length L.length ks i = i := by
  have h1 := lowP.get h.2.2.2 i hi
  have hik : i < ks.length := by
    rcases Nat.lt_or_ge i ks.length with h | h
    · exact h
    · rw [List.getElem?_eq_none h] at h1; cases h1
  rw [sh_lo hik, List.getD_eq_getElem?_getD, h1]
  simp

/-- It ends so, as it may be seen. -/
structure ends (P : Program) (frag : D → List (AObj D)) (n0 : Nat) (r0 : AEnd) (H0 : AH D) (r : AEnd) (H' : AH D) : Prop where
  view : View P frag n0 H' r H0 r0

theorem Runs.ends {f : FuncId} {args : List Value} {H H0 : AH D} {r0 : AEnd} (h : Runs P (cfgOf P frag) f args H (Abs.ends P frag H.next r0 H0)) : Runs P (cfgOf P frag) f args H fun r H' => r = r0 ∧ H' = H0 :=
  h.view fun _ _ hv => ⟨r0, H0, hv.view, rfl, rfl⟩

/-- AN END: rows of nothing, data packed, what is kept by its new names. -/
theorem ends_plan {n0 : Nat} {L l2 : List (Option (AObj D))} {r r2 : AEnd} (ps : List (Plan D)) (ks : List Nat) (h : PlanOk frag L ps) (hn : NamesP n0 (planL L ps) ks l2) (hr : r = renE (sh ks.length (planL L ps).length ks) r2) :
    Abs.ends P frag n0 r2 (AH.of l2) r (AH.of L) := .mk fun ρ own w hrel => by
  obtain ⟨ρ1, own1, a1, a2, a3⟩ := h.sees (P := P) ρ own w hrel
  obtain ⟨own2, b1, b2⟩ := hn.rel a1
  refine ⟨_, own2, b1, fun k hk x hx => ?_, fun b hb => a3 b (b2 b hb), fun en he => (hr ▸ he.mono a2 : EndR ρ1 (renE _ r2) en).of_ren⟩
  show ρ1.loc (sh ks.length (planL L ps).length ks k) = some x
  rw [hn.fix hk]; exact a2 k x hx

def kapF (i : Nat) : List Nat → Nat → Option Nat
  | [], _ => none
  | a :: ks, k => if k = a then some i else kapF (i + 1) ks k
theorem kapF_nil (i k : Nat) : kapF i [] k = none := rfl
theorem kapF_cons (i a : Nat) (ks : List Nat) (k : Nat) : kapF i (a :: ks) k = if k = a then some i else kapF (i + 1) ks k := rfl
theorem kapF_get : ∀ {ks : List Nat} {i k j : Nat}, kapF i ks k = some j → i ≤ j ∧ ks[j - i]? = some k
  | [], i, k, j, h => by cases h
  | a :: ks, i, k, j, h => by
    rw [kapF] at h
    split at h
    · rename_i e; subst e; cases h; simp
    · obtain ⟨h1, h2⟩ := kapF_get h
      refine ⟨by omega, ?_⟩
      rw [show j - i = (j - (i + 1)) + 1 by omega, List.getElem?_cons_succ]; exact h2
def kap (ks : List Nat) (k : Nat) : Option Nat := kapF 0 ks k

/-- A VIEW amidst: rows of nothing, data packed, what is kept by its new names. -/
theorem semV_plan {n0 : Nat} {L l2 : List (Option (AObj D))} {tm : Nat → Value} (ps : List (Plan D)) (ks : List Nat) (h : PlanOk frag L ps) (hn : NamesP n0 (planL L ps) ks l2) :
    semV P (cfgOf P frag) n0 tm (AH.of L) (fun t => back (kap ks) (tm t)) (AH.of l2) := fun ρ own w hrel => by
  obtain ⟨ρ1, own1, a1, a2, a3⟩ := h.sees (P := P) ρ own w hrel
  obtain ⟨own2, b1, b2⟩ := hn.rel a1
  refine ⟨_, own2, b1, fun k hk x hx => ?_, fun b hb => a3 b (b2 b hb), fun t v hv => (hv.mono a2).back fun k i hk => ?_⟩
  · show ρ1.loc (sh ks.length (planL L ps).length ks k) = some x
    rw [hn.fix hk]; exact a2 k x hx
  · obtain ⟨_, h2⟩ := kapF_get hk
    rw [Nat.sub_zero] at h2
    have h1 : i < ks.length := by
      rcases Nat.lt_or_ge i ks.length with h | h
      · exact h
      · rw [List.getElem?_eq_none h] at h2; cases h2
    rw [sh_lo h1, List.getD_eq_getElem?_getD, h2]
    rfl

/-- A datum is opened ahead of a call. -/
theorem Runs.opn {f : FuncId} {args : List Value} {K : AEnd → AH D → Prop} {H H1 : AH D} (k : Nat) (ho : openK frag H k = some H1) (h : Runs P (cfgOf P frag) f args H1 K) : Runs P (cfgOf P frag) f args H K := Runs.seesG (openK_ok ho) h

/-- Slots may say less. -/
def wkT (tm : Nat → Value) : List (Nat × Value) → Nat → Value
  | [] => tm
  | (s, v) :: ws => upd (wkT tm ws) s v
def leT (tm : Nat → Value) : List (Nat × Value) → Prop
  | [] => True
  | (s, v) :: ws => leV (tm s) v ∧ leT tm ws
theorem wkT_ok {tm : Nat → Value} {ρ : Env} : ∀ {ws : List (Nat × Value)}, leT tm ws → ∀ t v, VR ρ (tm t) v → VR ρ (wkT tm ws t) v
  | [], _, t, v, h => h
  | (s, x) :: ws, hw, t, v, h => by
    unfold wkT upd
    split
    · rename_i e; subst e; exact hw.1.vr h
    · exact wkT_ok hw.2 t v h
theorem semV_wk {cfg : D → HRep} {N : Nat} {tm tm2 : Nat → Value} {H H2 : AH D} (h : semV P cfg N tm H tm2 H2) {ws : List (Nat × Value)} (hw : leT tm2 ws) : semV P cfg N tm H (wkT tm2 ws) H2 := fun ρ own w hr => by
  obtain ⟨ρ2, own2, a1, a2, a3, a4⟩ := h ρ own w hr
  exact ⟨ρ2, own2, a1, a2, a3, fun t v hv => wkT_ok hw t v (a4 t v hv)⟩

/-- Arguments may say less. -/
theorem Runs.args {cfg : D → HRep} {f : FuncId} {args args2 : List Value} {K : AEnd → AH D → Prop} {H : AH D} (hl : args.length = args2.length) (hle : leVs args args2) (h : Runs P cfg f args2 H K) : Runs P cfg f args H K :=
  ⟨h.1, fun ρ own w args' hr hv => h.2 ρ own w args' hr (by
    have := hle.vrs hv
    rwa [← hl, hv.length, List.take_length] at this)⟩

/-- A row that is one's own is lent as one that nobody writes. -/
theorem Runs.borrow {cfg : D → HRep} {f : FuncId} {args : List Value} {K : AEnd → AH D → Prop} {H : AH D} (k : Nat) {e : TypeId} {cs : List Value} (hk : H.get k = some (.arr e cs))
    (h : Runs P cfg f args (H.upd k (.ro cs)) fun r H1 => H1.get k = some (.ro cs) ∧ (∀ j cs2, j ≠ k → H1.get j = some (.ro cs2) → cs2 ≠ [] → ∃ cs3, H.get j = some (.ro cs3) ∧ cs3 ≠ []) ∧ K r (H1.upd k (.arr e cs))) : Runs P cfg f args H K := by
  refine ⟨h.1, fun ρ own w args' hr hv => ?_⟩
  have hklt := hr.lt hk
  have hob := hr.obj k _ hk
  -- lent
  have r1 : Rel P cfg ρ (fun j b => j ≠ k ∧ own j b) (H.upd k (.ro cs)) w := by
    refine ⟨fun j hj => ?_, hr.dom, fun j o ho => ?_, fun j hj b hb => ?_, fun j b hb => hr.bound j b hb.2, fun j j' b hb hb' => hr.disj j j' b hb.2 hb'.2, fun j cs' hj hcs l hl j' hb => ?_⟩
    · rw [AH.get_upd, if_neg (by simp only [AH.next_upd] at hj; omega)]; exact hr.fresh j hj
    · rw [AH.get_upd] at ho
      split at ho
      · rename_i ej; subst ej; cases ho
        refine ⟨fun i hi => hi.1 rfl, fun hne => ?_⟩
        rcases hob with ⟨l, cs', h1, h2, h3, h4, h5, h6, h7, h8, h9⟩ | ⟨h1, _⟩
        · exact ⟨l, cs', e, (0, 0), h1, h6, by rw [h2]; simpa using h7, by rw [h2]; simpa using h8, h9⟩
        · exact absurd h1 hne
      · rename_i hjk
        have ee : (fun b => j ≠ k ∧ own j b) = own j := by funext b; simp [hjk]
        show ObjOk P cfg ρ (fun b => j ≠ k ∧ own j b) j o w
        rw [ee]; exact hr.obj j o ho
    · rw [AH.get_upd] at hj
      split at hj
      · cases hj
      · exact hr.gone j hj b hb.2
    · rw [AH.get_upd] at hj
      split at hj
      · rename_i ej; subst ej; cases hj
        rcases hob with ⟨l', cs2, h1, h2, h3, h4, h5, h6, _⟩ | ⟨h1, _⟩
        · rw [hl] at h1; cases h1
          exact hb.1 (hr.disj _ _ _ hb.2 ((h5 _).2 rfl))
        · exact hcs h1
      · exact hr.ro j cs' hj hcs l hl j' hb.2
  refine (h.2 ρ _ w args' r1 hv).mono fun en w1 ⟨r2, H1, ρ1, own1, ⟨hg, hro, k1⟩, x1, v1, r1'⟩ => ?_
  have hk1 := r1'.lt hg
  rcases hob with ⟨l, cs', h1, h2, h3, h4, h5, h6, h7, h8, h9⟩ | ⟨h1, h2, l, h3, h4, h5, h6⟩
  · have hlt : l.b < w.heap.size := (Array.getElem?_eq_some_iff.1 h6).1
    have hno : ∀ j, ¬ own1 j l.b := fun j hj => by
      rcases x1.owned j _ hj with ⟨k0, h0⟩ | h0
      · exact h0.1 (hr.disj _ _ _ h0.2 ((h5 _).2 rfl))
      · omega
    have hkept : w1.heap[l.b]? = w.heap[l.b]? := x1.kept l.b hlt fun j hj => hj.1 (hr.disj _ _ _ hj.2 ((h5 _).2 rfl))
    have hl1 : ρ1.loc k = some l := x1.le _ _ h1
    refine ⟨r2, H1.upd k (.arr e cs), ρ1, fun j b => if j = k then b = l.b else own1 j b, k1, ⟨x1.le, fun j b hb => ?_, x1.size, fun b hb hn => x1.kept b hb fun j hj => hn j hj.2, x1.os, x1.tape, x1.output⟩, v1, ⟨fun j hj => ?_, r1'.dom, fun j o ho => ?_, fun j hj b hb => ?_, fun j b hb => ?_, fun j j' b hb hb' => ?_, fun j cs2 hj hcs l2 hl2 j' hb => ?_⟩⟩
    · split at hb
      · subst hb; exact .inl ⟨k, (h5 _).2 rfl⟩
      · rcases x1.owned j b hb with ⟨k0, h0⟩ | h0
        · exact .inl ⟨k0, h0.2⟩
        · exact .inr h0
    · simp only [AH.next_upd] at hj
      rw [AH.get_upd, if_neg (by omega)]; exact r1'.fresh j hj
    · rw [AH.get_upd] at ho
      split at ho
      · rename_i ej; subst ej; cases ho
        simp only [if_true]
        exact .inl ⟨l, cs', hl1, h2, h3, h4, fun i => Iff.rfl, hkept.trans h6, h7, h8.mono x1.le, h9⟩
      · rename_i hjk
        simp only [if_neg hjk]
        exact r1'.obj j o ho
    · rw [AH.get_upd] at hj
      split at hj
      · cases hj
      · rename_i hjk
        simp only [if_neg hjk] at hb
        exact r1'.gone j hj b hb
    · split at hb
      · subst hb; exact Nat.lt_of_lt_of_le hlt x1.size
      · exact r1'.bound j b hb
    · split at hb <;> split at hb'
      · omega
      · subst hb; exact absurd hb' (hno j')
      · subst hb'; exact absurd hb (hno j)
      · exact r1'.disj j j' b hb hb'
    · rw [AH.get_upd] at hj
      split at hj
      · cases hj
      · split at hb
        · -- nobody else's row that is not written lies there
          rename_i hjk _
          obtain ⟨cs3, g1, g2⟩ := hro j cs2 hjk hj hcs
          obtain ⟨l3, c3, e3, fr3, q1, q2, _⟩ := (hr.obj j _ g1).2 g2
          have := x1.le _ _ q1
          rw [hl2] at this; cases this
          rename_i hbl _
          exact hr.ro j cs3 g1 g2 _ q1 k ((h5 _).2 hb)
        · exact r1'.ro j cs2 hj hcs l2 hl2 j' hb
  · refine ⟨r2, H1.upd k (.arr e cs), ρ1, own1, k1, ⟨x1.le, fun j b hb => ?_, x1.size, fun b hb hn => x1.kept b hb fun j hj => hn j hj.2, x1.os, x1.tape, x1.output⟩, v1, ⟨fun j hj => ?_, r1'.dom, fun j o ho => ?_, fun j hj b hb => ?_, r1'.bound, r1'.disj, fun j cs2 hj hcs l2 hl2 j' hb => ?_⟩⟩
    · rcases x1.owned j b hb with ⟨k0, h0⟩ | h0
      · exact .inl ⟨k0, h0.2⟩
      · exact .inr h0
    · simp only [AH.next_upd] at hj
      rw [AH.get_upd, if_neg (by omega)]; exact r1'.fresh j hj
    · rw [AH.get_upd] at ho
      split at ho
      · rename_i ej; subst ej; cases ho
        exact .inr ⟨h1, (r1'.obj _ _ hg).1, l, x1.le _ _ h3, h4, h5, h6⟩
      · exact r1'.obj j o ho
    · rw [AH.get_upd] at hj
      split at hj
      · cases hj
      · exact r1'.gone j hj b hb
    · rw [AH.get_upd] at hj
      split at hj
      · cases hj
      · exact r1'.ro j cs2 hj hcs l2 hl2 j' hb

/-- A heap is seen as another one, amidst. -/
theorem sees_plan {L : List (Option (AObj D))} (ps : List (Plan D)) (h : PlanOk frag L ps) : SeesG P (cfgOf P frag) (AH.of L) (AH.of (planL L ps)) := h.sees

end
theorem rens_append (θ : Nat → Nat) (a b : List Value) : rens θ (a ++ b) = rens θ a ++ rens θ b := by simp [rens_eq]
theorem backs_eq (κ : Nat → Option Nat) : ∀ l, backs κ l = l.map (back κ)
  | [] => rfl
  | v :: l => by rw [backs, backs_eq κ l]; rfl
theorem backs_append (κ : Nat → Option Nat) (a b : List Value) : backs κ (a ++ b) = backs κ a ++ backs κ b := by simp [backs_eq]
section
variable {D : Type} (θ : Nat → Nat)
theorem ren_arr (e : TypeId) (cs : List Value) : (AObj.arr e cs : AObj D).ren θ = .arr e (rens θ cs) := rfl
theorem ren_ro (cs : List Value) : (AObj.ro cs : AObj D).ren θ = .ro (rens θ cs) := rfl
theorem ren_map (es : List MapEntry) (c : Nat) : (AObj.map es c : AObj D).ren θ = .map (es.map fun e => ⟨ren θ e.key, ren θ e.val, e.born⟩) c := rfl
theorem ren_hi (d : D) : (AObj.hi d : AObj D).ren θ = .hi d := rfl
theorem renE_ret (v : Value) : renE θ (.ret v) = .ret (ren θ v) := rfl
theorem renE_pan (v : Value) : renE θ (.pan v) = .pan (ren θ v) := rfl
end
attribute [simp] wkT leT rens_append backs_append leO_hi leO_ro leO_map NamesP lowP sh ren_arr ren_ro ren_map ren_hi renE_ret renE_pan ren rens strike leOs_nil leOs_cons nameL_nil nameL_none nameL_some leV_refl leV_nil leV_tag leVs_refl leVs_cons leVs_nil leO_arr planL PlanOk Packs packL back backs backP backS backM kap kapF_nil kapF_cons
end Go.Abs
