/-
  LOOPS.
-/
import Derived.Test.YtnemoimbeefngaaPA2
import Derived.ProofKit
import Derived.ChangeStays
import Derived.Deep.Slices
import Derived.OpenShut
import Derived.Sort.OwnSortedInts
import Derived.Sort.Row
set_option linter.unusedSimpArgs false
set_option linter.unusedVariables false
set_option linter.unnecessarySimpa false
set_option linter.unusedSectionVars false
namespace Go.Abs

section
variable {D : Type} {C : Sg D} {F : Nat}

/-- Behind a round. -/
def roundQ (I : Nat → (Nat → Value) → AH D → Prop) (m : Nat) (Q : AExit → (Nat → Value) → AH D → Prop) : AExit → (Nat → Value) → AH D → Prop := fun e tm H => match e with
  | .normal => ∃ m', m' < m ∧ I m' tm H
  | e => Q e tm H

variable {I : Nat → (Nat → Value) → AH D → Prop} {m : Nat} {Q : AExit → (Nat → Value) → AH D → Prop} {tm : Nat → Value} {H : AH D}
theorem roundQ_normal : roundQ I m Q .normal tm H = ∃ m', m' < m ∧ I m' tm H := rfl
theorem roundQ_exit {j : Nat} : roundQ I m Q (.exit j) tm H = Q (.exit j) tm H := rfl
theorem roundQ_ret : roundQ I m Q .ret tm H = Q .ret tm H := rfl
theorem roundQ_pan {v : Value} : roundQ I m Q (.pan v) tm H = Q (.pan v) tm H := rfl

/-- Behind a round that may be seen otherwise. -/
def roundP (V : ViewT D) (N : Nat) (I : Nat → (Nat → Value) → AH D → Prop) (m : Nat) (tm : Nat → Value) (H : AH D) : Prop := ∃ tm2 H2, V N tm H tm2 H2 ∧ ∃ m', m' < m ∧ I m' tm2 H2
def roundV (V : ViewT D) (N : Nat) (I : Nat → (Nat → Value) → AH D → Prop) (m : Nat) (Q : AExit → (Nat → Value) → AH D → Prop) : AExit → (Nat → Value) → AH D → Prop := fun e tm H => match e with
  | .normal => roundP V N I m tm H
  | e => Q e tm H
variable {V : ViewT D} {N : Nat}
theorem roundV_normal : roundV V N I m Q .normal tm H = roundP V N I m tm H := rfl
theorem roundV_exit {j : Nat} : roundV V N I m Q (.exit j) tm H = Q (.exit j) tm H := rfl
theorem roundV_ret : roundV V N I m Q .ret tm H = Q .ret tm H := rfl
theorem roundV_pan {v : Value} : roundV V N I m Q (.pan v) tm H = Q (.pan v) tm H := rfl

/-- A LOOP: an invariant, and a number that falls. -/
theorem loop_inv (mono : SgMono C) (I : Nat → (Nat → Value) → AH D → Prop) {a : AC} {m : Nat} {tm : Nat → Value} {H : AH D} (h : I m tm H) (hm : m < F) (step : ∀ m tm H, I m tm H → a.wp C F (roundQ I m Q) tm H) : (AC.loop a).wp C F Q tm H := by
  have key : ∀ N f m tm H, m < f → I m tm H → loopN C.view N (a.wp C F) f Q tm H := by
    intro N f
    induction f with
    | zero => intro m tm H hm; omega
    | succ f ih =>
      intro m tm H hm h
      refine AC.mono mono F a _ _ tm H (fun e tm' H' hh => ?_) (step m tm H h)
      cases e with
      | normal =>
        obtain ⟨m', h1, h2⟩ := hh
        exact .inl (ih m' tm' H' (by omega) h2)
      | _ => exact hh
  exact .inl (key H.next F m tm H hm h)

/-- The same; it is seen otherwise behind each round, and ahead of the first one. -/
theorem loop_view (mono : SgMono C) (I : Nat → (Nat → Value) → AH D → Prop) {a : AC} {m : Nat} {tm : Nat → Value} {H : AH D} (h : roundP C.view H.next I (m + 1) tm H) (hm : m < F) (step : ∀ m tm H', I m tm H' → a.wp C F (roundV C.view H.next I m Q) tm H') : (AC.loop a).wp C F Q tm H := by
  have key : ∀ f m tm H', m < f → I m tm H' → loopN C.view H.next (a.wp C F) f Q tm H' := by
    intro f
    induction f with
    | zero => intro m tm H' hm; omega
    | succ f ih =>
      intro m tm H1 hm h
      refine AC.mono mono F a _ _ tm H1 (fun e tm' H' hh => ?_) (step m tm H1 h)
      cases e with
      | normal =>
        obtain ⟨tm2, H2, hs, m', h1, h2⟩ := hh
        exact .inr ⟨tm2, H2, hs, ih m' tm2 H2 (by omega) h2⟩
      | _ => exact hh
  obtain ⟨tm2, H2, hs, m', h1, h2⟩ := h
  exact .inr ⟨tm2, H2, hs, key F m' tm2 H2 (by omega) h2⟩

variable {P : Program} {frag : D → List (AObj D)}
/-- A round's end. -/
theorem round_plan {L : List (Option (AObj D))} (ps : List (Plan D)) (ks : List Nat) (l2 : List (Option (AObj D))) (m' : Nat) (hm : m' < m) (h : PlanOk frag L ps) (hn : NamesP N (planL L ps) ks l2) (hI : I m' (fun t => back (kap ks) (tm t)) (AH.of l2)) :
    roundP (semV P (cfgOf P frag)) N I m tm (AH.of L) := ⟨_, _, semV_plan ps ks h hn, m', hm, hI⟩
/-- The same; some slots say less. -/
theorem round_wk {L : List (Option (AObj D))} (ps : List (Plan D)) (ks : List Nat) (l2 : List (Option (AObj D))) (ws : List (Nat × Value)) (m' : Nat) (hm : m' < m) (h : PlanOk frag L ps) (hn : NamesP N (planL L ps) ks l2) (hw : leT (fun t => back (kap ks) (tm t)) ws) (hI : I m' (wkT (fun t => back (kap ks) (tm t)) ws) (AH.of l2)) :
    roundP (semV P (cfgOf P frag)) N I m tm (AH.of L) := ⟨_, _, semV_wk (semV_plan ps ks h hn) hw, m', hm, hI⟩
theorem round_same {hV : ∀ N (tm : Nat → Value) (H : AH D), V N tm H tm H} (m' : Nat) (hm : m' < m) (hI : I m' tm H) : roundP V N I m tm H := ⟨tm, H, hV N tm H, m', hm, hI⟩
theorem semV_refl {cfg : D → HRep} (N : Nat) (tm : Nat → Value) (H : AH D) : semV P cfg N tm H tm H := fun ρ own _ h => ⟨ρ, own, h, fun _ _ _ h => h, fun _ h => h, fun _ _ h => h⟩

end
attribute [simp ↓] roundQ_exit roundQ_ret roundQ_pan roundV_normal roundV_exit roundV_ret roundV_pan
attribute [simp] roundQ_normal
end Go.Abs
/-
  NUMBERS: plain facts.
-/
set_option linter.unusedSimpArgs false
set_option linter.unusedVariables false
set_option linter.unnecessarySimpa false
set_option linter.unusedSectionVars false
namespace Go.Abs

theorem wrap_u64 {n : Int} (h0 : 0 ≤ n) (h1 : n < 18446744073709551616) : IntKind.u64.wrap n = n := by
  simp [IntKind.wrap, IntKind.bits, IntKind.signed]
  omega
theorem wrap_i64 {n : Int} (h0 : -9223372036854775808 ≤ n) (h1 : n < 9223372036854775808) : IntKind.i64.wrap n = n := by
  simp [IntKind.wrap, IntKind.bits, IntKind.signed]
  omega

theorem bAndNot_sign {v : Int} (h0 : 0 ≤ v) (h1 : v < 18446744073709551616) : bAndNot .u64 v 9223372036854775808 = ((v.toNat % 9223372036854775808 : Nat) : Int) := by
  unfold bAndNot
  have e : (BitVec.ofInt IntKind.u64.bits v &&& ~~~BitVec.ofInt IntKind.u64.bits 9223372036854775808).toNat = v.toNat % 9223372036854775808 := by
    show (BitVec.ofInt 64 v &&& ~~~BitVec.ofInt 64 9223372036854775808).toNat = _
    have e2 : (~~~BitVec.ofInt 64 9223372036854775808).toNat = 2 ^ 63 - 1 := by decide
    have e1 : (v % ((2 ^ 64 : Nat) : Int)).toNat = v.toNat := by omega
    rw [BitVec.toNat_and, BitVec.toNat_ofInt, e2, e1]
    exact Nat.and_two_pow_sub_one_eq_mod v.toNat 63
  rw [e]
  exact wrap_u64 (by omega) (by omega)

theorem order_self (x : Nat) : (FloatKind.f64.format.order x x == some .eq) = decide (x % 9223372036854775808 ≤ 9218868437227405312) := by
  have h : FloatKind.f64.format.order x x = ((FloatKind.f64.format.read x).order (FloatKind.f64.format.read x)) := rfl
  have self : ∀ d : Ieee.Datum, (d.order d == some .eq) = !d.isNaN := by
    intro d
    cases d with
    | number s m i => simp [Ieee.Datum.order, Ieee.Datum.isNaN, Std.ReflCmp.compare_self]
    | infinity s => simp [Ieee.Datum.order, Ieee.Datum.isNaN, Std.ReflCmp.compare_self]
    | nan s t => simp [Ieee.Datum.order, Ieee.Datum.isNaN]
  rw [h, self]
  have e1 : FloatKind.f64.format.signWeight = 9223372036854775808 := by decide
  have e2 : FloatKind.f64.format.infRung = 9218868437227405312 := by decide
  unfold Ieee.Format.read
  simp only [e1, e2]
  have e3 : FloatKind.f64.format.binade = 4503599627370496 := by decide
  simp only [e3]
  split
  · rename_i h; simp [Ieee.Datum.isNaN]; omega
  · split
    · simp [Ieee.Datum.isNaN]; omega
    · split
      · simp [Ieee.Datum.isNaN]; omega
      · simp [Ieee.Datum.isNaN]; omega

/-! Maps, their entries in whatever order -/
theorem put_new {s : Bool} {k v : Value} {c : Nat} : ∀ {es : List MapEntry}, findIn s k es = some none → putIn s k v c es = some (es ++ [⟨k, v, c⟩], c + 1)
  | [], _ => rfl
  | e :: es, h => by
    rw [findIn] at h
    split at h
    · cases h
    · rename_i hs
      rw [putIn, hs]
      simp only [put_new h, Option.map_some, List.cons_append]
    · cases h
theorem pairs_append (a b : List MapEntry) : pairs (a ++ b) = pairs a ++ pairs b := by simp [pairs]
theorem AlikeM.add {ps : List (Value × Value)} {es : List MapEntry} {c : Nat} (h : AlikeM ps es c) (k v : Value) : AlikeM (ps ++ [(k, v)]) (es ++ [⟨k, v, c⟩]) (c + 1) := by
  obtain ⟨h1, h2, h3⟩ := h
  refine ⟨?_, ?_, fun e he => ?_⟩
  · rw [pairs_append]; exact h1.append (List.Perm.refl _)
  · rw [List.map_append, List.nodup_append]
    refine ⟨h2, by simp, fun a ha b hb => ?_⟩
    obtain ⟨e, he, rfl⟩ := List.mem_map.1 ha
    have : b = c := by simpa using hb
    have := h3 e he
    omega
  · rcases List.mem_append.1 he with he | he
    · have := h3 e he; omega
    · have : e = ⟨k, v, c⟩ := by simpa using he
      subst this; show c < c + 1; omega
theorem AlikeM.len {ps : List (Value × Value)} {es : List MapEntry} {c : Nat} (h : AlikeM ps es c) : es.length = ps.length := by
  have := h.1.length_eq
  simpa [pairs] using this
theorem AlikeM.nil (c : Nat) : AlikeM [] [] c := ⟨.refl _, by simp, fun e he => by simp at he⟩
/-- What has been seen last is found. -/
theorem AlikeM.found {ps : List (Value × Value)} {es : List MapEntry} {c : Nat} (h : AlikeM ps es c) {e : MapEntry} (he : e ∈ es) : es.find? (fun x => x.born == e.born) = some e := by
  have hn := h.2.1
  clear h
  induction es with
  | nil => cases he
  | cons a es ih =>
    rw [List.find?_cons]
    simp only [List.map_cons, List.nodup_cons] at hn
    rcases List.mem_cons.1 he with rfl | he
    · simp
    · have : (a.born == e.born) = false := by
        simp only [beq_eq_false_iff_ne]
        intro hb
        exact hn.1 (hb ▸ List.mem_map.2 ⟨e, he, rfl⟩)
      rw [this]
      exact ih he hn.2
end Go.Abs
/-
  FROM ARGUMENTS THAT ARE READ AS DATA TO ROWS THAT NOBODY WRITES, and back.
-/
set_option linter.unusedSimpArgs false
set_option linter.unusedVariables false
set_option linter.unnecessarySimpa false
set_option linter.unusedSectionVars false
namespace Go.Abs
open Go.RowKit Go.ChangeShapes Go.WideShapes Go.ChangeAt

/-! ### The arguments read as they did -/
def closedB (P : Program) (l : List TypeId) : Bool := laidOutB P && mapsRowed P && l.all fun t => decide (t < P.types.size) && (match P.underlying t with
  | some (.pointer e) => l.contains e
  | some (.slice e) => l.contains e && decide (0 < P.cellsOf e)
  | some (.array _ e) => l.contains e
  | some (.struct fs) => fs.toList.all fun f => l.contains f.type
  | some (.map _ e) => l.contains e
  | _ => true)

section
variable {P : Program} {l : List TypeId}
theorem closed_at (h : closedB P l = true) {t : TypeId} (ht : t ∈ l) : t < P.types.size ∧ (match P.underlying t with
  | some (.pointer e) => l.contains e
  | some (.slice e) => l.contains e && decide (0 < P.cellsOf e)
  | some (.array _ e) => l.contains e
  | some (.struct fs) => fs.toList.all fun f => l.contains f.type
  | some (.map _ e) => l.contains e
  | _ => true) = true := by
  unfold closedB at h
  simp only [Bool.and_eq_true] at h
  have := List.all_eq_true.1 h.2 t ht
  simp only [Bool.and_eq_true, decide_eq_true_eq] at this
  exact this
theorem kids_of (h : closedB P l = true) : Kids P (· ∈ l) := by
  have hh := h
  unfold closedB at hh
  simp only [Bool.and_eq_true] at hh
  have K := kids_rows hh.1.1 hh.1.2
  refine ⟨fun {t e} ht hu => ?_, fun {t e} ht hu => ?_, fun {t e n} ht hu => ?_, fun {t fs} ht hu => ?_, fun {t k e} ht hu => ?_⟩
  · have := (closed_at h ht).2; rw [hu] at this; simpa using this
  · have := (closed_at h ht).2; rw [hu] at this; simp at this; exact this.1
  · have := closed_at h ht
    refine ⟨?_, (K.array this.1 hu).2⟩
    have h2 := this.2; rw [hu] at h2; simpa using h2
  · have := closed_at h ht
    refine ⟨?_, (K.struct this.1 hu).2⟩
    have h2 := this.2; rw [hu] at h2
    intro f hf
    have := List.all_eq_true.1 h2 f hf
    simpa using this
  · have := (closed_at h ht).2; rw [hu] at this; simpa using this
theorem pos_of (h : closedB P l = true) {t e : TypeId} (ht : t ∈ l) (hu : P.underlying t = some (.slice e)) : 0 < P.cellsOf e := by
  have := (closed_at h ht).2; rw [hu] at this; simp at this; exact this.2

variable {H : Type} {enc : TypeId × Value → H} {W W' : World}
theorem trodAll_again (h : closedB P l = true) {sp : Nat → Bool} : ∀ {ts : List TypeId} {vs : List Value} {ds : List (DataW H)} {ps : List MemPlace}, DataW.TrodAll enc P W 0 (fun _ => true) true ts vs ds ps → (∀ t ∈ ts, t ∈ l) →
    (∀ p ∈ ps, W.sameAt W' p) → (∀ p ∈ ps, sp p.block = true) → DataW.TrodAll enc P W' 0 sp true ts vs ds ps
  | [], [], [], _, hd, _, _, _ => hd
  | t :: ts, v :: vs, d :: ds, ps, ⟨p, q, ⟨n, hn⟩, hq, e⟩, ht, hs, hsp => by
    subst e
    refine ⟨p, q, ⟨n, ?_⟩, trodAll_again h hq (fun t ht' => ht t (by simp [ht'])) (fun x hx => hs x (by simp [hx])) (fun x hx => hsp x (by simp [hx])), rfl⟩
    exact DataW.trod_stays (kids_of h) (fun ht hu => pos_of h ht hu) (fun hh => by cases hh) (ht t (by simp)) hn (fun x hx => hs x (by simp [hx])) (fun x hx => hsp x (by simp [hx]))

/-- A LAW's END: it has returned true, and old memory is as it was. -/
theorem law_post {f : Func} {s : ChangeSpec} {apart fresh handsOn again : Bool} {args : Array Value} {ds gs : List (DataW H)} {before : List MemPlace} {tb : TypeId} (hvars : s.vars = []) (hfn : s.fn H ds = { results := [.lit (.bool true)], args := ds })
    (hW : DataW.Whole enc P f.params.toList s.vars apart W args.toList ds gs before) (hl : closedB P l = true) (hts : ∀ t ∈ f.params.toList, t ∈ l) (hr : f.resultTypes = #[tb]) (htb : P.underlying tb = some .bool) (hb : Below W.heap.size W W') :
    s.post enc P f apart fresh handsOn again W args (.bool true) W' := by
  have hlt := fun p hp => hW.lt p hp
  have hW0 := hW
  obtain ⟨p, q, hA, hV, rfl, hz, hn⟩ := hW
  rw [hvars] at hV
  have hgs : gs = [] ∧ q = [] := by
    cases gs with
    | nil => exact ⟨rfl, hV⟩
    | cons _ _ => exact hV.elim
  obtain ⟨rfl, rfl⟩ := hgs
  simp only [List.append_nil] at hlt hz hn hW0
  have hsame : ∀ x ∈ p, W.sameAt W' x := fun x hx => hb.same (hlt x hx)
  have hargs : ∀ sp : Nat → Bool, (∀ x ∈ p, sp x.block = true) → DataW.TrodAll enc P W' 0 sp true f.params.toList args.toList ds p := fun sp hsp => trodAll_again hl hA hts hsame hsp
  have hres : ∀ (b : Nat) (sp : Nat → Bool) (hd : Bool), DataW.TrodAll enc P W' b sp hd f.resultTypes.toList ((Value.bool true).resultList f.resultTypes.size) [.lit (.bool true)] [] := fun b sp hd => by
    rw [hr]
    exact trodAll_cons_mk (shut_bool htb true) trodAll_mk0
  have hfn' : s.fn H (ds ++ []) = { results := [.lit (.bool true)], args := ds } := by rw [List.append_nil]; exact hfn
  have hvs : ∀ sp : Nat → Bool, DataW.TrodVars enc P W' sp s.vars ([] : List (DataW H)) [] := fun sp => by rw [hvars]; exact rfl
  refine ⟨ds, [], p, [], p, [], hW0, ?_, ?_, ?_, World.keptBut_mono (fun x hx => ⟨hx, ?_⟩) (hb.frame (· ∈ p)), fun _ => ?_⟩
  · rw [hfn']; exact hres _ _ _
  · rw [hfn']; exact hargs _ (fun x hx => by simpa using hlt x hx)
  · rw [hfn']; exact hvs _
  · exact .inr (by simpa using hx)
  · refine ⟨ok_one hr rfl (okWide_bool_mk htb true), _, _, p, ⟨p, [], by have := trodAll_append (hargs (fun _ => true) (fun _ _ => rfl)) (hres 0 (fun _ => true) true); simpa using this, hvs _, by simp, ?_, ?_⟩, ?_⟩
    · intro b off hp
      rw [hb.frozen (hlt _ hp)]
      exact hz b off hp
    · intro ha; exact hn ha
    · intro x hx _; simpa using hx
end

/-! ### Slices that are read -/
/-- A slice of so many elements whose cells are these. -/
def ArgRow (w : World) (v : Value) (n : Nat) (cs : List Value) : Prop :=
  (n = 0 ∧ cs = [] ∧ ∃ a cc, v = .slice a 0 cc ∧ (a = none → cc = 0)) ∨
  (∃ b off cc c' e fr, v = .slice (some ⟨b, off, none⟩) n cc ∧ n ≤ cc ∧ w.heap[b]? = some (.cells c' e fr) ∧ off + cs.length ≤ c'.size ∧ (c'.toList.drop off).take cs.length = cs)

section
variable {D : Type} {P : Program} {cfg : D → HRep} {w : World}
theorem rel_nil : Rel P cfg ⟨fun _ => none⟩ (fun _ _ => False) (AH.of ([] : List (Option (AObj D)))) w :=
  ⟨fun k _ => by simp [of_get], fun _ _ => rfl, fun k o h => by simp [of_get] at h, fun _ _ _ h => h, fun _ _ h => h.elim, fun _ _ _ h => h.elim, fun k cs h => by simp [of_get] at h⟩

theorem Rel.addRo {ρ : Env} {own : Nat → Nat → Prop} {H : AH D} (hr : Rel P cfg ρ own H w) (hown : ∀ k b, ¬ own k b) {v : Value} {n : Nat} {cs : List Value} (hg : grounds cs = true) (h1 : cs.all (·.oneCell') = true) (hv : ArgRow w v n cs) :
    ∃ ρ', Rel P cfg ρ' own (H.add (.ro cs)) w ∧ ρ.le ρ' ∧ VR ρ' (.slice (some ⟨H.next, 0, none⟩) n 0) v := by
  have key : ∀ ρ' : Env, ρ.le ρ' → (∀ k, H.next + 1 ≤ k → ρ'.loc k = none) → ObjOk P cfg ρ' (own H.next) H.next (.ro cs) w → Rel P cfg ρ' own (H.add (.ro cs)) w := by
    intro ρ' hle hd hob
    refine ⟨fun k hk => ?_, fun k hk => hd k hk, fun k o ho => ?_, fun k _ b hb => hown k b hb, fun k b hb => (hown k b hb).elim, fun k _ b hb => (hown k b hb).elim, fun k _ _ _ l _ k' hb => hown k' l.b hb⟩
    · simp only [AH.next_add] at hk
      rw [AH.get_add, if_neg (by omega)]; exact hr.fresh k (by omega)
    · rw [AH.get_add] at ho
      split at ho
      · rename_i e; subst e; cases ho; exact hob
      · exact (hr.obj k o ho).keep P cfg hle (fun _ _ => rfl) fun _ _ _ _ _ => rfl
  rcases hv with ⟨rfl, rfl, a, cc, rfl, hcc⟩ | ⟨b, off, cc, c', e, fr, rfl, hn, hh, hsz, hcs⟩
  · exact ⟨ρ, key ρ ρ.le_refl (fun k hk => hr.dom k (by omega)) ⟨fun i => hown _ i, fun h => (h rfl).elim⟩, ρ.le_refl, .slicen _ _ a cc (by omega) (fun h => by
      rcases h with h | h
      · omega
      · exact hcc h)⟩
  · have hle : ρ.le (ρ.put H.next ⟨b, off, 0, 0⟩) := Env.put_le (hr.dom _ (Nat.le_refl _))
    refine ⟨ρ.put H.next ⟨b, off, 0, 0⟩, key _ hle (fun k hk => ?_) ⟨fun i => hown _ i, fun _ => ⟨⟨b, off, 0, 0⟩, c', e, fr, by simp [Env.loc_put], hh, hsz, ?_, h1⟩⟩, hle, ?_⟩
    · rw [Env.loc_put, if_neg (by omega)]; exact hr.dom k (by omega)
    · show VRs _ cs ((c'.toList.drop off).take cs.length)
      rw [hcs]; exact VRs.of_ground _ _ hg
    · exact .slice _ _ _ _ _ _ ⟨b, off, 0, 0⟩ (by simp [Env.loc_put]) hn (fun _ => rfl) (fun h => by omega) (fun m h => by omega)

variable {H : Type} {enc : TypeId × Value → H}
theorem cells_chunk {a : Addr} {n : Nat} {cs : List Value} (hn : 0 < n) (h : w.cells? 0 a n = some cs) : ∃ c' e fr, a.spot = none ∧ w.heap[a.block]? = some (.cells c' e fr) ∧ a.off + n ≤ c'.size ∧ (c'.toList.drop a.off).take n = cs := by
  obtain ⟨_, hlen, hc⟩ := World.cells?_some h
  have hat : ∀ i, i < n → ∃ v, cs[i]? = some v := fun i hi => ⟨cs[i], List.getElem?_eq_getElem (by omega)⟩
  obtain ⟨v0, hv0⟩ := hat 0 hn
  have h0 := hc 0 hn
  rw [hv0] at h0
  have ha0 : a.add 0 = a := by simp [Addr.add]
  rw [ha0] at h0
  unfold World.cell? at h0
  split at h0
  case h_2 => cases h0
  rename_i c' e fr hh
  have hsp : a.spot = none := by
    cases hs : a.spot with
    | none => rfl
    | some x => rw [hs] at h0; simp at h0
  have hcell : ∀ i, i < n → c'[a.off + i]? = cs[i]? := fun i hi => by
    rw [← hc i hi]
    unfold World.cell?
    have e1 : (a.add i).block = a.block := by unfold Addr.add; split <;> rfl
    have e2 : (a.add i).spot = none := by unfold Addr.add; split <;> simp [hsp]
    have e3 : (a.add i).off = a.off + i := by
      unfold Addr.add
      split
      · rename_i h0; subst h0; rfl
      · rfl
    rw [e1, hh, e2, e3]; rfl
  refine ⟨c', e, fr, hsp, hh, ?_, ?_⟩
  · obtain ⟨v, hv⟩ := hat (n - 1) (by omega)
    have := hcell (n - 1) (by omega)
    rw [hv] at this
    have := (Array.getElem?_eq_some_iff.1 this).1
    omega
  · refine List.ext_getElem? fun i => ?_
    rw [List.getElem?_take]
    split
    · rename_i hi
      rw [List.getElem?_drop, Array.getElem?_toList, hcell i hi]
    · rename_i hi
      rw [List.getElem?_eq_none (by omega)]

theorem open_rows {α : Type} {t e : TypeId} {ea : α → List Value} {Ok : α → Prop} {r : Reach} {b0 : Nat} {v : Value} {d : DataW H} {ps : List MemPlace} (ht : P.underlying t = some (.slice e)) (hs : 0 < P.cellsOf e) (hlen : ∀ x, (ea x).length = P.cellsOf e)
    (hel : ∀ fuel cs y, DataW.trod enc P w 0 (fun _ => true) true fuel e cs = some y → ∃ x, cs = ea x ∧ Ok x) (hok : Value.okWide P w r b0 t v) (hd : DataW.Trod enc P w 0 (fun _ => true) true t v d ps) :
    ∃ l : List α, (∀ x ∈ l, Ok x) ∧ l.length ≤ maxLen ∧ ArgRow w v l.length (l.flatMap ea) := by
  obtain ⟨a, len, cap, rfl⟩ := okWide_slice ht hok
  obtain ⟨fuel, hf⟩ := hd
  rcases Deep.open_slice ht hf with ⟨h1, _⟩ | ⟨a', len', cap', m, n, D, Pl, h1, _, hlc, hcm, hm, _, hx⟩
  · simp only [Value.cells] at h1
    have h2 : Value.slice a len cap = .slice none 0 0 := by simpa using h1
    cases h2
    exact ⟨[], by simp, Nat.zero_le _, .inl ⟨rfl, rfl, none, 0, rfl, fun _ => rfl⟩⟩
  · simp only [Value.cells] at h1
    have h2 : Value.slice a len cap = .slice (some a') len' cap' := by simpa using h1
    cases h2
    simp only [if_true] at hm
    subst hm
    rcases Nat.eq_zero_or_pos len with rfl | hpos
    · exact ⟨[], by simp, Nat.zero_le _, .inl ⟨rfl, rfl, some a', m, rfl, fun h => by cases h⟩⟩
    · have hi : ∀ i, i < len → ∃ x, w.cells? 0 (a'.add (i * P.cellsOf e)) (P.cellsOf e) = some (ea x) ∧ Ok x := fun i hi => by
        obtain ⟨cs', h1, h2⟩ := hx i (by omega)
        obtain ⟨x, rfl, hok⟩ := hel _ _ _ h2
        exact ⟨x, h1, hok⟩
      have hfam : ∀ n, n ≤ len → ∃ l : List α, l.length = n ∧ (∀ x ∈ l, Ok x) ∧ (0 < n → ∃ c' ty fr, a'.spot = none ∧ w.heap[a'.block]? = some (.cells c' ty fr) ∧ a'.off + n * P.cellsOf e ≤ c'.size ∧ (c'.toList.drop a'.off).take (n * P.cellsOf e) = l.flatMap ea) := by
        intro n
        induction n with
        | zero => intro _; exact ⟨[], rfl, by simp, fun h => absurd h (Nat.lt_irrefl _)⟩
        | succ n ih =>
          intro hn
          obtain ⟨l, hl, hok, hrest⟩ := ih (by omega)
          obtain ⟨x, hxc, hxo⟩ := hi n (by omega)
          obtain ⟨c', ty, fr, q1, q2, q3, q4⟩ := cells_chunk hs hxc
          have e1 : (a'.add (n * P.cellsOf e)).block = a'.block := by unfold Addr.add; split <;> rfl
          have e3 : (a'.add (n * P.cellsOf e)).off = a'.off + n * P.cellsOf e := by
            unfold Addr.add
            split
            · rename_i h0; rw [h0]; rfl
            · rfl
          rw [e1] at q2; rw [e3] at q3 q4
          have hsp : a'.spot = none := by
            rcases Nat.eq_zero_or_pos n with rfl | h
            · simpa [Addr.add] using q1
            · exact (hrest h).choose_spec.choose_spec.choose_spec.1
          refine ⟨l ++ [x], by simp [hl], fun y hy => ?_, fun _ => ⟨c', ty, fr, hsp, q2, by rw [Nat.succ_mul]; omega, ?_⟩⟩
          · rcases List.mem_append.1 hy with hy | hy
            · exact hok y hy
            · have : y = x := by simpa using hy
              subst this; exact hxo
          · have hsplit : ∀ (L : List Value) (p q : Nat), L.take (p + q) = L.take p ++ (L.drop p).take q := fun L p q => List.take_add
            rw [Nat.succ_mul, hsplit, List.drop_drop, q4, List.flatMap_append]
            congr 1
            · rcases Nat.eq_zero_or_pos n with rfl | h
              · have : l = [] := List.eq_nil_of_length_eq_zero hl
                subst this; simp
              · obtain ⟨c2, ty2, fr2, _, g2, _, g4⟩ := hrest h
                rw [q2] at g2; cases g2
                exact g4
            · simp
      obtain ⟨l, hl, hok', hrest⟩ := hfam len (Nat.le_refl _)
      obtain ⟨c', ty, fr, g1, g2, g3, g4⟩ := hrest hpos
      have hfl : (l.flatMap ea).length = len * P.cellsOf e := by
        rw [← g4, List.length_take, List.length_drop, Array.length_toList]; omega
      refine ⟨l, hok', by omega, .inr ⟨a'.block, a'.off, m, c', ty, fr, ?_, by omega, g2, by rw [hfl]; exact g3, by rw [hfl]; exact g4⟩⟩
      rw [hl]
      cases a'
      simp only at g1
      subst g1; rfl

/-- A struct all of whose fields are one cell. -/
theorem struct_cells {t : TypeId} {fs : Array Field} {fuel : Nat} {cs : List Value} {x : DataW H × List MemPlace} (ht : P.underlying t = some (.struct fs)) (hoff : (List.range fs.size).all (fun i => match fs[i]? with | some f => decide (f.offset = i) && decide (P.cellsOf f.type = 1) | none => false) = true)
    (h : DataW.trod enc P w 0 (fun _ => true) true fuel t cs = some x) (hsz : P.cellsOf t = fs.size) : cs.length = fs.size ∧ ∀ (i : Nat) (f : Field), fs[i]? = some f → ∃ v n y, cs[i]? = some v ∧ DataW.trod enc P w 0 (fun _ => true) true n f.type [v] = some y := by
  obtain ⟨xs, n, _, _, h1, h2, h3⟩ := DataW.trod_struct ht h
  refine ⟨by rw [h1, hsz], fun i f hf => ?_⟩
  have hi : i < fs.size := (Array.getElem?_eq_some_iff.1 hf).1
  have ho := List.all_eq_true.1 hoff i (by simpa using hi)
  rw [hf] at ho
  simp only [Bool.and_eq_true, decide_eq_true_eq] at ho
  have h4 := h3 i f hf
  rw [ho.1, ho.2, List.getElem?_eq_getElem (by omega)] at h4
  have hci : i < cs.length := by omega
  refine ⟨cs[i], n, xs[i], List.getElem?_eq_getElem hci, ?_⟩
  have h5 : (cs.drop i).take 1 = [cs[i]] := by rw [List.drop_eq_getElem_cons hci]; rfl
  rw [h5] at h4; exact h4

/-- FROM A LAW's TEXT TO ITS CALL: it returns true, and old memory is as it was. -/
theorem law_calls {f : FuncId} {args : List Value} {Hh : AH D} {ρ : Env} {own : Nat → Nat → Prop} {args' : Array Value} {K : AEnd → AH D → Prop} (h : Runs P cfg f args Hh K) (hK : ∀ r H', K r H' → r = .ret (.bool true)) (hr : Rel P cfg ρ own Hh w) (hown : ∀ k b, ¬ own k b) (hv : VRs ρ args args'.toList) :
    Calls P f args' w fun e w' => e = .returned (.bool true) ∧ Below w.heap.size w w' := by
  refine (h.2 ρ own w args' hr hv).mono fun e w' ⟨r, H', ρ', own', k, x, en, _⟩ => ?_
  have := hK r H' k
  subst this
  refine ⟨?_, ⟨x.os, x.tape, x.output, x.size, fun b hb => x.kept b hb fun k hk => hown k b hk⟩⟩
  cases e with
  | returned v =>
    have : VR ρ' (.bool true) v := en
    rw [this.bool_eq]
  | panicked c => exact en.elim
  | outgrown => exact en.elim
end
end Go.Abs
/-
  THE LIBRARY'S SORT of whole numbers, by its contract.
-/
set_option linter.unusedSimpArgs false
set_option linter.unusedVariables false
set_option linter.unnecessarySimpa false
set_option linter.unusedSectionVars false
namespace Go.Abs
open Go.RowKit Go.Sort

section
variable {D : Type} {P : Program} {cfg : D → HRep}

/-- One key's object is another one, in its own block; the world has grown. -/
theorem Rel.turnGrow {ρ : Env} {own : Nat → Nat → Prop} {H : AH D} {w : World} (h : Rel P cfg ρ own H w) {k b : Nat} {o o' : AObj D} (hk : H.get k = some o) (hb : ∀ i, own k i ↔ i = b) {w' : World}
    (hsz : w.heap.size ≤ w'.heap.size) (hoth : ∀ i, i < w.heap.size → i ≠ b → w'.heap[i]? = w.heap[i]?) (hok : ObjOk P cfg ρ (own k) k o' w') (hnr : ∀ cs, o' ≠ .ro cs) :
    Rel P cfg ρ own (H.upd k o') w' := by
  refine ⟨fun j hj => ?_, h.dom, fun j x hj => ?_, fun j hj => ?_, fun j i hi => Nat.lt_of_lt_of_le (h.bound j i hi) hsz, h.disj, fun j cs hj hcs => ?_⟩
  · rw [AH.get_upd]
    have := h.lt hk
    simp only [AH.next_upd] at hj
    rw [if_neg (by omega)]; exact h.fresh j hj
  · rw [AH.get_upd] at hj
    split at hj
    · rename_i e; subst e; cases hj; exact hok
    · rename_i hne
      refine (h.obj j x hj).keep P cfg ρ.le_refl (fun i hi => hoth i (h.bound j i hi) ?_) (fun cs l hx hcs hl => ?_)
      · rintro rfl
        exact hne (h.disj j k i hi ((hb i).2 rfl))
      · subst hx
        obtain ⟨l', cs', e', fr, h1, h3, _⟩ := (h.obj j _ hj).2 hcs
        rw [hl] at h1; cases h1
        refine hoth l.b (Array.getElem?_eq_some_iff.1 h3).1 fun e => ?_
        exact h.ro j cs hj hcs _ hl k ((hb _).2 e)
  · rw [AH.get_upd] at hj
    split at hj
    · cases hj
    · exact h.gone j hj
  · rw [AH.get_upd] at hj
    split at hj
    · cases hj; exact absurd rfl (hnr cs)
    · exact h.ro j cs hj hcs

def ints (l : List Int) : List Value := l.map (Value.int .i64)
def sorted (l : List Int) : List Int := l.mergeSort fun x y => decide (x ≤ y)
theorem ints_length (l : List Int) : (ints l).length = l.length := by simp [ints]
theorem ints_ground (l : List Int) : grounds (ints l) = true := by
  induction l with
  | nil => rfl
  | cons e l ih => simp [ints, grounds, ground] at ih ⊢; exact ih
theorem ints_one (l : List Int) : (ints l).all (·.oneCell') = true := by simp [ints, Value.oneCell']
theorem ren_ints (θ : Nat → Nat) (l : List Int) : rens θ (ints l) = ints l := rens_ground θ _ (ints_ground l)
theorem sorted_length (l : List Int) : (sorted l).length = l.length := List.length_mergeSort l
theorem sorted_perm (l : List Int) : (sorted l).Perm l := List.mergeSort_perm l _
theorem sorted_pairwise (l : List Int) : (sorted l).Pairwise (· ≤ ·) := by
  have := List.pairwise_mergeSort (le := fun x y : Int => decide (x ≤ y)) (by intro a b c; simp; omega) (by intro a b; simp; omega) l
  exact this.imp (by simp)

theorem runs_sort {f : FuncId} (hc : ∀ args w, (callFunc f args).run P w = .ok (.enter f args) w)
    (hs : ∀ (blk off cap : Nat) (zs : List Int) (w : World), Holds (Value.int .i64) w blk off zs.toArray → blk < w.heap.size → zs.length < 4611686018427387904 →
      Calls P f #[.slice (some ⟨blk, off, none⟩) zs.length cap] w fun e w' => e = .returned (.tuple #[]) ∧ ∃ n os, w' = grow (putRow (Value.int .i64) (Sort.ahead w n) blk off (zs.mergeSort fun x y => decide (x ≤ y)).toArray) os)
    (e : TypeId) (zs : List Int) (tg : Nat) (hz : zs ≠ []) (hsz : zs.length < 4611686018427387904) :
    Runs P cfg f [.slice (some ⟨0, 0, none⟩) zs.length tg] (AH.of [some (.arr e (ints zs))]) fun r H' => r = .ret (.tuple #[]) ∧ H' = AH.of [some (.arr e (ints (sorted zs)))] := by
  refine ⟨hc, fun ρ own w args' hr hv => ?_⟩
  have hk : (AH.of [some (AObj.arr e (ints zs) : AObj D)]).get 0 = some (.arr e (ints zs)) := rfl
  have hl0 : 0 < zs.length := List.length_pos_iff.2 hz
  obtain ⟨v', rfl, hvv⟩ : ∃ v', args' = #[v'] ∧ VR ρ (.slice (some ⟨0, 0, none⟩) zs.length tg) v' := by
    obtain ⟨a⟩ := args'
    cases hv with
    | cons _ v' _ _ h1 h2 => cases h2; exact ⟨v', rfl, h1⟩
  rcases hvv.slice_inv with ⟨o', cc, l, h1, h2, h3, h4, h5, rfl⟩ | ⟨_, h0, _⟩
  case inr => omega
  rcases hr.obj 0 _ hk with ⟨l', cs', g1, g2, g3, g4, g5, g6, g7, g8, g9⟩ | ⟨g1, _⟩
  case inr => exact absurd (by simpa [ints] using g1) hz
  rw [h1] at g1; cases g1
  have ho : o' = 0 := by rw [h3 hl0, g2]
  subst ho
  have ht : cs'.toList.take zs.length = zs.map (Value.int .i64) := by
    have := VRs.ints_eq g8
    rw [ints_length] at this; exact this
  have hlt : l.b < w.heap.size := (Array.getElem?_eq_some_iff.1 g6).1
  refine (hs l.b 0 cc zs w (holds_of_blockI g6 ht) hlt hsz).mono ?_
  rintro en w' ⟨rfl, n, os, rfl⟩
  have hg := grownBy_sortedI (w := w) (g := l.b) (n := n) (os := os) (zs.mergeSort fun x y => decide (x ≤ y)).toArray
  have hh := heap_sortedI (w := w) (n := n) (os := os) (zs.mergeSort fun x y => decide (x ≤ y)).toArray g6
  have hlen : (zs.mergeSort fun x y => decide (x ≤ y)).length = zs.length := List.length_mergeSort zs
  have hcs : zs.length ≤ cs'.size := by rw [ints_length] at g7; exact g7
  have hoth : ∀ i, i < w.heap.size → i ≠ l.b → (grow (putRow (Value.int .i64) (Sort.ahead w n) l.b 0 (zs.mergeSort fun x y => decide (x ≤ y)).toArray) os).heap[i]? = w.heap[i]? := fun i hi hne => hg.block i hi fun e => hne (by cases e; rfl)
  have hr' := hr.turnGrow hk g5 (o' := .arr e (ints (sorted zs))) hg.size hoth (.inl ⟨l, _, h1, g2, g3, by rw [g4]; simp [putCells], g5, hh, by rw [ints_length, sorted_length]; simpa [putCells] using hcs, by
    rw [ints_length, sorted_length]
    have := take_putCellsI cs' (zs.mergeSort fun x y => decide (x ≤ y)) (by omega)
    rw [hlen] at this
    rw [this]; exact VRs.of_ground _ _ (ints_ground _), ints_one _⟩) (by intro cs h; cases h)
  rw [of_upd _ _ _ (by simp)] at hr'
  exact ⟨.ret (.tuple #[]), _, ρ, own, ⟨rfl, rfl⟩, ⟨ρ.le_refl, fun j b hb => .inl ⟨j, hb⟩, hg.size, fun b hb hn => hoth b hb fun e => hn 0 ((g5 b).2 e), rfl, rfl, rfl⟩, .tuple _ _ .nil, hr'⟩
/-- A result may say less. -/
def leR : AEnd → AEnd → Prop
  | .ret v, .ret w => leV v w ∨ ∃ xs ys, v = .tuple xs ∧ w = .tuple ys ∧ xs.size = ys.size ∧ leVs xs.toList ys.toList
  | .pan v, .pan w => v = w
  | _, _ => False
theorem leR_ret {v w : Value} (h : leV v w) : leR (.ret v) (.ret w) := .inl h
theorem leR_tuple {xs ys : Array Value} (h1 : xs.size = ys.size) (h2 : leVs xs.toList ys.toList) : leR (.ret (.tuple xs)) (.ret (.tuple ys)) := .inr ⟨xs, ys, rfl, rfl, h1, h2⟩
theorem leR.endR {ρ : Env} {r r' : AEnd} (h : leR r r') {en : Ending} (he : EndR ρ r en) : EndR ρ r' en := by
  cases r <;> cases r' <;> simp only [leR] at h
  · cases en <;> simp only [EndR] at he ⊢
    rcases h with h | ⟨xs, ys, rfl, rfl, h1, h2⟩
    · exact h.vr he
    · obtain ⟨zs, rfl, hz⟩ := he.tuple_inv
      refine .tuple _ _ ?_
      have := h2.vrs hz
      have hl := hz.length
      simp only [Array.length_toList] at hl this
      rwa [List.take_of_length_le (by simp; omega)] at this
  · subst h; exact he
theorem ends_wk {frag : D → List (AObj D)} {n0 : Nat} {r r' r2 : AEnd} {H' H2 : AH D} (h : leR r r') (e : ends P frag n0 r2 H2 r' H') : ends P frag n0 r2 H2 r H' :=
  ⟨fun ρ own w hr => by
    obtain ⟨ρ2, own2, a1, a2, a3, a4⟩ := e.view ρ own w hr
    exact ⟨ρ2, own2, a1, a2, a3, fun en he => a4 en (h.endR he)⟩⟩

section
variable {C : Sg D} {F : Nat} {Q : AExit → (Nat → Value) → AH D → Prop} {tm : Nat → Value} {H : AH D}
/-- A loop that is left in its first round. -/
theorem loop_once (sm : SgMono C) {a : AC} (hF : 0 < F) (h : a.wp C F (roundQ (fun _ _ _ => False) 0 Q) tm H) : (AC.loop a).wp C F Q tm H := by
  refine loop_inv sm (fun m tm' H' => m = 0 ∧ tm' = tm ∧ H' = H) (m := 0) ⟨rfl, rfl, rfl⟩ hF ?_
  rintro m tm' H' ⟨rfl, rfl, rfl⟩
  refine AC.mono sm F a _ _ _ _ (fun e tm H hh => ?_) h
  cases e with
  | normal => obtain ⟨m', h1, h2⟩ := hh; exact h2.elim
  | _ => exact hh
end
end
attribute [simp] ints_length ren_ints sorted_length
end Go.Abs
/-
  LOOPS OVER MAPS: what has been met, what is left.
-/
set_option linter.unusedSimpArgs false
set_option linter.unusedVariables false
set_option linter.unnecessarySimpa false
set_option linter.unusedSectionVars false
namespace Go.Abs

theorem filter_le {α : Type} {p q : α → Bool} : ∀ {l : List α}, (∀ x ∈ l, p x = true → q x = true) → (l.filter p).length ≤ (l.filter q).length
  | [], _ => by simp
  | a :: l, h => by
    have ih := filter_le (p := p) (q := q) (l := l) fun x hx => h x (List.mem_cons_of_mem _ hx)
    have ha := h a List.mem_cons_self
    simp only [List.filter_cons]
    cases hp : p a <;> cases hq : q a <;> simp_all <;> omega
theorem filter_lt {α : Type} {p q : α → Bool} : ∀ {l : List α}, (∀ x ∈ l, p x = true → q x = true) → ∀ {e : α}, e ∈ l → q e = true → p e = false → (l.filter p).length < (l.filter q).length
  | [], _, e, he, _, _ => by cases he
  | a :: l, h, e, he, h1, h2 => by
    have hl := filter_le (p := p) (q := q) (l := l) fun x hx => h x (List.mem_cons_of_mem _ hx)
    have ha := h a List.mem_cons_self
    simp only [List.filter_cons]
    rcases List.mem_cons.1 he with rfl | he
    · rw [h1, h2]; simp; omega
    · have ih := filter_lt (p := p) (q := q) (l := l) (fun x hx => h x (List.mem_cons_of_mem _ hx)) he h1 h2
      cases hp : p a <;> cases hq : q a <;> simp_all <;> omega

/-- What has been met, in its order. -/
structure MMet (es vis : List MapEntry) : Prop where
  sub : ∀ e ∈ vis, e ∈ es
  nd : (vis.map (·.born)).Nodup

def leftN (es vis : List MapEntry) : Nat := (es.filter fun e => decide (e.born ∉ vis.map (·.born))).length

theorem MMet.nil (es : List MapEntry) : MMet es [] := ⟨fun e h => by simp at h, by simp⟩
theorem MMet.add {es vis : List MapEntry} (h : MMet es vis) {e : MapEntry} (he : e ∈ es) (hn : e.born ∉ vis.map (·.born)) : MMet es (vis ++ [e]) :=
  ⟨fun x hx => by
    rcases List.mem_append.1 hx with hx | hx
    · exact h.sub x hx
    · simp at hx; subst hx; exact he,
   by
    rw [List.map_append]
    refine List.nodup_append.2 ⟨h.nd, by simp, ?_⟩
    rintro a ha b hb rfl
    simp at hb; subst hb; exact hn ha⟩
theorem leftN_le (es vis : List MapEntry) : leftN es vis ≤ es.length := List.length_filter_le _ _
theorem leftN_add {es vis : List MapEntry} {e : MapEntry} (he : e ∈ es) (hn : e.born ∉ vis.map (·.born)) : leftN es (vis ++ [e]) < leftN es vis :=
  filter_lt (fun x _ hx => by
    simp only [List.map_append, List.mem_append, not_or, decide_eq_true_eq] at hx ⊢
    exact hx.1) he (by simpa using hn) (by simp)
theorem born_inj {es : List MapEntry} (hnd : (es.map (·.born)).Nodup) {a b : MapEntry} (ha : a ∈ es) (hb : b ∈ es) (h : a.born = b.born) : a = b := by
  induction es with
  | nil => cases ha
  | cons x es ih =>
    simp only [List.map_cons, List.nodup_cons] at hnd
    rcases List.mem_cons.1 ha with rfl | ha' <;> rcases List.mem_cons.1 hb with rfl | hb'
    · rfl
    · exact absurd (List.mem_map.2 ⟨b, hb', h.symm⟩) hnd.1
    · exact absurd (List.mem_map.2 ⟨a, ha', h⟩) hnd.1
    · exact ih hnd.2 ha' hb'
theorem nodup_of_borns : ∀ {l : List MapEntry}, (l.map (·.born)).Nodup → l.Nodup
  | [], _ => .nil
  | e :: l, h => by
    simp only [List.map_cons, List.nodup_cons] at h
    exact List.nodup_cons.2 ⟨fun he => h.1 (List.mem_map.2 ⟨e, he, rfl⟩), nodup_of_borns h.2⟩
/-- All have been met. -/
theorem MMet.all {es vis : List MapEntry} (h : MMet es vis) (hnd : (es.map (·.born)).Nodup) (hall : ∀ e ∈ es, e.born ∈ vis.map (·.born)) : vis.Perm es := by
  refine (List.perm_ext_iff_of_nodup (nodup_of_borns h.nd) (nodup_of_borns hnd)).2 fun a => ⟨h.sub a, fun ha => ?_⟩
  obtain ⟨b, hb, he⟩ := List.mem_map.1 (hall a ha)
  rw [born_inj hnd ha (h.sub b hb) he.symm]; exact hb
theorem pairs_perm {a b : List MapEntry} (h : a.Perm b) : (pairs a).Perm (pairs b) := h.map _
theorem AlikeM.of_perm {ps qs : List (Value × Value)} {es : List MapEntry} {c : Nat} (h : AlikeM ps es c) (hp : ps.Perm qs) : AlikeM qs es c := ⟨h.1.trans hp, h.2.1, h.2.2⟩

/-- A number that no key is. -/
theorem find_none {k : Int} : ∀ {es : List MapEntry}, (∀ e ∈ es, ∃ t, e.key = .int .i64 t ∧ t ≠ k) → findIn false (.int .i64 k) es = some none
  | [], _ => rfl
  | e :: es, h => by
    obtain ⟨t, h1, h2⟩ := h e List.mem_cons_self
    have h3 : (k == t) = false := by simpa using Ne.symm h2
    rw [findIn, h1, sameK]
    simp only [Bool.false_eq_true, if_false, if_true, h3]
    exact find_none fun x hx => h x (List.mem_cons_of_mem _ hx)

/-- One contract, else another one. -/
def CStep.or {D : Type} (a b : CStep D) : CStep D := fun args H => (a args H).or (b args H)
theorem CStep.or_ok {D : Type} {P : Program} {cfg : D → HRep} {f : FuncId} {a b : CStep D} (ha : CStepOk P cfg f a) (hb : CStepOk P cfg f b) : CStepOk P cfg f (a.or b) := by
  intro args H p r H' h hp
  unfold CStep.or at h
  cases he : a args H with
  | some x => rw [he] at h; simp at h; subst h; exact ha args H p r H' he hp
  | none => rw [he] at h; simp at h; exact hb args H p r H' h hp

/-- Ahead of a call, data are packed. -/
theorem pack_first {D : Type} {P : Program} {frag : D → List (AObj D)} {st : CStep D} {args : List Value} {L : List (Option (AObj D))} {K : AEnd → AH D → Prop} (ps : List (Plan D)) (h : PlanOk frag L ps) (hk : goS (st args (AH.of (planL L ps))) (SeesG P (cfgOf P frag)) st args (AH.of (planL L ps)) K) :
    seeP (SeesG P (cfgOf P frag)) st args (AH.of L) K := by
  unfold goS at hk
  split at hk
  · rename_i p r H' he
    exact ⟨_, sees_plan ps h, by rw [he]; exact hk⟩
  · obtain ⟨H1, h1, h2⟩ := hk
    exact ⟨H1, (sees_plan ps h).trans h1, h2⟩
end Go.Abs
/-
  NUMBERS: shifts, bits.
-/
set_option linter.unusedSimpArgs false
set_option linter.unusedVariables false
set_option linter.unnecessarySimpa false
set_option linter.unusedSectionVars false
namespace Go.Abs
open Go

theorem abin_shl (k k' : IntKind) (a b : Int) : abin .shl (.int k a) (.int k' b) = if b < 0 then none else some (.int k (k.wrap (a * 2 ^ min b.toNat k.bits))) := rfl
theorem abin_shr (k k' : IntKind) (a b : Int) : abin .shr (.int k a) (.int k' b) = if b < 0 then none else some (.int k (a.fdiv (2 ^ min b.toNat k.bits))) := rfl
attribute [simp] abin_shl abin_shr

theorem ofInt_nat {n : Nat} (h : n < 18446744073709551616) : (BitVec.ofInt 64 (n : Int)).toNat = n := by
  rw [BitVec.ofInt_natCast, BitVec.toNat_ofNat]
  exact Nat.mod_eq_of_lt h
theorem bAnd_nat {n m : Nat} (hn : n < 18446744073709551616) (hm : m < 18446744073709551616) : bAnd .u64 n m = ((n &&& m : Nat) : Int) := by
  unfold bAnd
  show IntKind.u64.wrap ((BitVec.ofInt 64 (n : Int) &&& BitVec.ofInt 64 (m : Int)).toNat : Int) = _
  rw [BitVec.toNat_and, ofInt_nat hn, ofInt_nat hm]
  have : n &&& m ≤ n := Nat.and_le_left
  exact wrap_u64 (by omega) (by omega)
theorem bOr_nat {n m : Nat} (hn : n < 18446744073709551616) (hm : m < 18446744073709551616) : bOr .u64 n m = ((n ||| m : Nat) : Int) := by
  unfold bOr
  show IntKind.u64.wrap ((BitVec.ofInt 64 (n : Int) ||| BitVec.ofInt 64 (m : Int)).toNat : Int) = _
  rw [BitVec.toNat_or, ofInt_nat hn, ofInt_nat hm]
  have : n ||| m < 2 ^ 64 := Nat.or_lt_two_pow (by omega) (by omega)
  exact wrap_u64 (by omega) (by omega)
theorem bAnd_one {x : Int} (h0 : 0 ≤ x) (h1 : x < 18446744073709551616) : bAnd .u64 x 1 = x % 2 := by
  obtain ⟨n, rfl⟩ := Int.eq_ofNat_of_zero_le h0
  have := bAnd_nat (n := n) (m := 1) (by omega) (by omega)
  simp only [Nat.and_one_is_mod] at this
  simpa using this
/-- Bits below those that stand. -/
theorem bOr_low {a b : Int} (i : Nat) (ha : 0 ≤ a) (hb : 0 ≤ b) (hb2 : b < 2 ^ i) (h1 : a * 2 ^ i + b < 18446744073709551616) : bOr .u64 (a * 2 ^ i) b = a * 2 ^ i + b := by
  obtain ⟨n, rfl⟩ := Int.eq_ofNat_of_zero_le ha
  obtain ⟨m, rfl⟩ := Int.eq_ofNat_of_zero_le hb
  have c2 : ((2 ^ i : Nat) : Int) = 2 ^ i := by rw [Int.natCast_pow]; rfl
  have hm : m < 2 ^ i := by rw [← c2] at hb2; exact Int.ofNat_lt.1 hb2
  have h4 : ((n * 2 ^ i : Nat) : Int) = (n : Int) * 2 ^ i := by rw [Int.natCast_mul, c2]
  have h2 : n * 2 ^ i + m < 18446744073709551616 := by
    rw [← h4] at h1
    generalize n * 2 ^ i = q at h1 ⊢
    omega
  have e := Nat.shiftLeft_add_eq_or_of_lt hm n
  rw [Nat.shiftLeft_eq] at e
  have h3 := bOr_nat (n := n * 2 ^ i) (m := m) (by omega) (by omega)
  rw [← e] at h3
  rw [h4] at h3
  rw [h3, Int.natCast_add, h4]
section
variable {D : Type}
theorem ren_loopr (θ : Nat → Nat) (r : Loop) (n : Nat) (j : Option Jmp) : (AObj.loopr r n j : AObj D).ren θ = .loopr r n j := rfl
theorem leO_loopr (r r' : Loop) (n n' : Nat) (j j' : Option Jmp) : leO (.loopr r n j : AObj D) (.loopr r' n' j') = (r = r' ∧ n = n' ∧ j = j') := by simp [leO]
end
attribute [simp] ren_loopr leO_loopr
end Go.Abs
/-
  What the arguments of laws read as: numbers, truth values.
-/
set_option linter.unusedSimpArgs false
set_option linter.unusedVariables false
set_option linter.unnecessarySimpa false
set_option linter.unusedSectionVars false
namespace Go.Abs
open Go.ChangeShapes Go.WideShapes Go.ChangeAt Go.RowKit
section
variable {P : Program} {H : Type} {enc : TypeId × Value → H} {w : World}
theorem open_num {k : IntKind} {t : TypeId} (ht : P.underlying t = some (.int k)) {r : Reach} {b0 : Nat} {v : Value} {d : DataW H} {ps : List MemPlace} (hok : Value.okWide P w r b0 t v) (hd : DataW.Trod enc P w 0 (fun _ => true) true t v d ps) : ∃ n : Int, v = .int k n ∧ (Lit.int k n).wf = true := by
  obtain ⟨n, rfl⟩ := okWide_int ht hok
  obtain ⟨fuel, hf⟩ := hd
  obtain ⟨m, h1, _, h2⟩ := DataW.trod_int ht hf
  have h1 : [Value.int k n] = [Value.int k m] := h1
  cases h1
  exact ⟨n, rfl, h2⟩
theorem open_truth {t : TypeId} (ht : P.underlying t = some .bool) {r : Reach} {b0 : Nat} {v : Value} (hok : Value.okWide P w r b0 t v) : ∃ b : Bool, v = .bool b ∧ True := by
  obtain ⟨b, rfl⟩ := okWide_bool ht hok
  exact ⟨b, rfl, trivial⟩
end
end Go.Abs
/-
  CONTRACTS OF THE KIT'S SHELF: what comes to a value and leaves the world as it was.
-/
set_option linter.unusedSimpArgs false
set_option linter.unusedVariables false
set_option linter.unnecessarySimpa false
set_option linter.unusedSectionVars false
namespace Go.Abs
section
variable {D : Type} {P : Program} {cfg : D → HRep}
theorem runs_still {f : FuncId} (hc : ∀ args w, (callFunc f args).run P w = .ok (.enter f args) w) {args : List Value} {v : Value} (hg : grounds args = true) (gv : ground v = true) (h : ∀ w, Calls P f args.toArray w fun e w' => e = .returned v ∧ w' = w) (H : AH D) :
    Runs P cfg f args H fun r H' => r = .ret v ∧ H' = H := by
  refine ⟨hc, fun ρ own w args' hr hv => ?_⟩
  have e : args'.toList = args := VRs.ground_eq hv hg
  have e2 : args' = args.toArray := by rw [← e]
  subst e2
  refine (h w).mono ?_
  rintro en w' ⟨rfl, rfl⟩
  exact ⟨.ret v, H, ρ, own, ⟨rfl, rfl⟩, Ext.refl _ _ _, VR.of_ground _ _ gv, hr⟩
end
/-! Texts -/
theorem bytes_eqB (a b : ByteArray) : (a == b) = decide (a = b) := by
  show (a.data == b.data) = _
  rw [Bool.eq_iff_iff, beq_iff_eq, decide_eq_true_eq]
  exact ⟨fun h => ByteArray.ext h, fun h => by rw [h]⟩
theorem abin_eql_s (a b : ByteArray) : abin .eql (.string a) (.string b) = some (.bool (decide (a = b))) := by
  show some (Value.bool (a.toList == b.toList)) = _
  rw [← beq_toListBytes, bytes_eqB]
theorem abin_neq_s (a b : ByteArray) : abin .neq (.string a) (.string b) = some (.bool (decide (a ≠ b))) := by
  show some (Value.bool !(a.toList == b.toList)) = _
  rw [← beq_toListBytes, bytes_eqB]
  simp
theorem sameK_s (a b : ByteArray) : sameK true (.string a) (.string b) = some (decide (a = b)) := by
  show (if true = true then some (a == b) else none) = _
  rw [if_pos rfl, bytes_eqB]
/-- Without a match. -/
theorem step_bslice {D : Type} {e : TypeId} {z : List Value} {n : Nat} {ps : List (Nat × Nat × Opd)} {tm : Nat → Value} {H : AH D} :
    (AOp.bslice e z n ps).step tm H = (fillL z (ps.map fun p => (p.1, p.2.1, p.2.2.ev tm))).bind fun l => if l.all (·.oneCell') then some (.slice (some ⟨H.next, 0, none⟩) n 1, H.add (.arr e l)) else none := by
  show (match fillL z (ps.map fun p => (p.1, p.2.1, p.2.2.ev tm)) with
    | some l => if l.all (·.oneCell') then some (Value.slice (some ⟨H.next, 0, none⟩) n 1, H.add (.arr e l)) else none
    | none => none) = _
  cases fillL z (ps.map fun p => (p.1, p.2.1, p.2.2.ev tm)) <;> rfl
attribute [simp high] step_bslice
attribute [simp] abin_eql_s abin_neq_s
end Go.Abs
/-
  A HEAP SEEN BY OTHER NAMES.
-/
set_option linter.unusedSimpArgs false
set_option linter.unusedVariables false
set_option linter.unnecessarySimpa false
set_option linter.unusedSectionVars false
namespace Go.Abs
section
variable {D : Type} {P : Program} {frag : D → List (AObj D)}
theorem SeesG.names {H : AH D} {L l2 : List (Option (AObj D))} {ks : List Nat} (h : SeesG P (cfgOf P frag) H (AH.of L)) (hn : NamesP H.next L ks l2) : SeesG P (cfgOf P frag) H (AH.of l2) := fun ρ own w hr => by
  obtain ⟨ρ1, own1, a1, a2, a3⟩ := h ρ own w hr
  obtain ⟨own2, b1, b2⟩ := hn.rel a1
  refine ⟨_, own2, b1, fun k x hx => ?_, fun b hb => a3 b (b2 b hb)⟩
  have hk : k < H.next := by
    rcases Nat.lt_or_ge k H.next with h | h
    · exact h
    · rw [hr.dom k h] at hx; cases hx
  show ρ1.loc (sh ks.length L.length ks k) = some x
  rw [hn.fix hk]; exact a2 k x hx
end
end Go.Abs
