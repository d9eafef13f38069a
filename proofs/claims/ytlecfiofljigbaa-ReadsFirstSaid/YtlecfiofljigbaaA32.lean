/-
  FROM ARGUMENTS THAT ARE READ AS DATA TO ROWS THAT NOBODY WRITES, and back.
-/
import Derived.Test.YtlecfiofljigbaaA31
import Derived.ProofKit
import Derived.ChangeStays
import Derived.Deep.Slices
import Derived.OpenShut
set_option linter.unusedSimpArgs false
set_option linter.unusedVariables false
set_option linter.unnecessarySimpa false
set_option linter.unusedSectionVars false
namespace Go.Abs
open Go.RowKit Go.ChangeShapes Go.WideShapes Go.ChangeAt

/-! ### The arguments read as they did -/
def closedB (P : Program) (l : List TypeId) : Bool := laidOutB P && mapsRowed P && l.all fun t => decide (t < P.types.size) && (match P.underlying t with
  | some (.pointer e) => l.contains e
  | some (.slice e) => l.contains e && decide (0 < P.cellsOf e)
  | some (.array _ e) => l.contains e
  | some (.struct fs) => fs.toList.all fun f => l.contains f.type
  | some (.map _ e) => l.contains e
  | _ => true)

section
variable {P : Program} {l : List TypeId}
theorem closed_at (h : closedB P l = true) {t : TypeId} (ht : t ∈ l) : t < P.types.size ∧ (match P.underlying t with
  | some (.pointer e) => l.contains e
  | some (.slice e) => l.contains e && decide (0 < P.cellsOf e)
  | some (.array _ e) => l.contains e
  | some (.struct fs) => fs.toList.all fun f => l.contains f.type
  | some (.map _ e) => l.contains e
  | _ => true) = true := by
  unfold closedB at h
  simp only [Bool.and_eq_true] at h
  have := List.all_eq_true.1 h.2 t ht
  simp only [Bool.and_eq_true, decide_eq_true_eq] at this
  exact this
theorem kids_of (h : closedB P l = true) : Kids P (· ∈ l) := by
  have hh := h
  unfold closedB at hh
  simp only [Bool.and_eq_true] at hh
  have K := kids_rows hh.1.1 hh.1.2
  refine ⟨fun {t e} ht hu => ?_, fun {t e} ht hu => ?_, fun {t e n} ht hu => ?_, fun {t fs} ht hu => ?_, fun {t k e} ht hu => ?_⟩
  · have := (closed_at h ht).2; rw [hu] at this; simpa using this
  · have := (closed_at h ht).2; rw [hu] at this; simp at this; exact this.1
  · have := closed_at h ht
    refine ⟨?_, (K.array this.1 hu).2⟩
    have h2 := this.2; rw [hu] at h2; simpa using h2
  · have := closed_at h ht
    refine ⟨?_, (K.struct this.1 hu).2⟩
    have h2 := this.2; rw [hu] at h2
    intro f hf
    have := List.all_eq_true.1 h2 f hf
    simpa using this
  · have := (closed_at h ht).2; rw [hu] at this; simpa using this
theorem pos_of (h : closedB P l = true) {t e : TypeId} (ht : t ∈ l) (hu : P.underlying t = some (.slice e)) : 0 < P.cellsOf e := by
  have := (closed_at h ht).2; rw [hu] at this; simp at this; exact this.2

variable {H : Type} {enc : TypeId × Value → H} {W W' : World}
theorem trodAll_again (h : closedB P l = true) {sp : Nat → Bool} : ∀ {ts : List TypeId} {vs : List Value} {ds : List (DataW H)} {ps : List MemPlace}, DataW.TrodAll enc P W 0 (fun _ => true) true ts vs ds ps → (∀ t ∈ ts, t ∈ l) →
    (∀ p ∈ ps, W.sameAt W' p) → (∀ p ∈ ps, sp p.block = true) → DataW.TrodAll enc P W' 0 sp true ts vs ds ps
  | [], [], [], _, hd, _, _, _ => hd
  | t :: ts, v :: vs, d :: ds, ps, ⟨p, q, ⟨n, hn⟩, hq, e⟩, ht, hs, hsp => by
    subst e
    refine ⟨p, q, ⟨n, ?_⟩, trodAll_again h hq (fun t ht' => ht t (by simp [ht'])) (fun x hx => hs x (by simp [hx])) (fun x hx => hsp x (by simp [hx])), rfl⟩
    exact DataW.trod_stays (kids_of h) (fun ht hu => pos_of h ht hu) (fun hh => by cases hh) (ht t (by simp)) hn (fun x hx => hs x (by simp [hx])) (fun x hx => hsp x (by simp [hx]))

/-- A LAW's END: it has returned true, and old memory is as it was. -/
theorem law_post {f : Func} {s : ChangeSpec} {apart fresh handsOn again : Bool} {args : Array Value} {ds gs : List (DataW H)} {before : List MemPlace} {tb : TypeId} (hvars : s.vars = []) (hfn : s.fn H ds = { results := [.lit (.bool true)], args := ds })
    (hW : DataW.Whole enc P f.params.toList s.vars apart W args.toList ds gs before) (hl : closedB P l = true) (hts : ∀ t ∈ f.params.toList, t ∈ l) (hr : f.resultTypes = #[tb]) (htb : P.underlying tb = some .bool) (hb : Below W.heap.size W W') :
    s.post enc P f apart fresh handsOn again W args (.bool true) W' := by
  have hlt := fun p hp => hW.lt p hp
  have hW0 := hW
  obtain ⟨p, q, hA, hV, rfl, hz, hn⟩ := hW
  rw [hvars] at hV
  have hgs : gs = [] ∧ q = [] := by
    cases gs with
    | nil => exact ⟨rfl, hV⟩
    | cons _ _ => exact hV.elim
  obtain ⟨rfl, rfl⟩ := hgs
  simp only [List.append_nil] at hlt hz hn hW0
  have hsame : ∀ x ∈ p, W.sameAt W' x := fun x hx => hb.same (hlt x hx)
  have hargs : ∀ sp : Nat → Bool, (∀ x ∈ p, sp x.block = true) → DataW.TrodAll enc P W' 0 sp true f.params.toList args.toList ds p := fun sp hsp => trodAll_again hl hA hts hsame hsp
  have hres : ∀ (b : Nat) (sp : Nat → Bool) (hd : Bool), DataW.TrodAll enc P W' b sp hd f.resultTypes.toList ((Value.bool true).resultList f.resultTypes.size) [.lit (.bool true)] [] := fun b sp hd => by
    rw [hr]
    exact trodAll_cons_mk (shut_bool htb true) trodAll_mk0
  have hfn' : s.fn H (ds ++ []) = { results := [.lit (.bool true)], args := ds } := by rw [List.append_nil]; exact hfn
  have hvs : ∀ sp : Nat → Bool, DataW.TrodVars enc P W' sp s.vars ([] : List (DataW H)) [] := fun sp => by rw [hvars]; exact rfl
  refine ⟨ds, [], p, [], p, [], hW0, ?_, ?_, ?_, World.keptBut_mono (fun x hx => ⟨hx, ?_⟩) (hb.frame (· ∈ p)), fun _ => ?_⟩
  · rw [hfn']; exact hres _ _ _
  · rw [hfn']; exact hargs _ (fun x hx => by simpa using hlt x hx)
  · rw [hfn']; exact hvs _
  · exact .inr (by simpa using hx)
  · refine ⟨ok_one hr rfl (okWide_bool_mk htb true), _, _, p, ⟨p, [], by have := trodAll_append (hargs (fun _ => true) (fun _ _ => rfl)) (hres 0 (fun _ => true) true); simpa using this, hvs _, by simp, ?_, ?_⟩, ?_⟩
    · intro b off hp
      rw [hb.frozen (hlt _ hp)]
      exact hz b off hp
    · intro ha; exact hn ha
    · intro x hx _; simpa using hx
end

/-! ### Slices that are read -/
/-- A slice of so many elements whose cells are these. -/
def ArgRow (w : World) (v : Value) (n : Nat) (cs : List Value) : Prop :=
  (n = 0 ∧ cs = [] ∧ ∃ a cc, v = .slice a 0 cc ∧ (a = none → cc = 0)) ∨
  (∃ b off cc c' e fr, v = .slice (some ⟨b, off, none⟩) n cc ∧ n ≤ cc ∧ w.heap[b]? = some (.cells c' e fr) ∧ off + cs.length ≤ c'.size ∧ (c'.toList.drop off).take cs.length = cs)

section
variable {D : Type} {P : Program} {cfg : D → HRep} {w : World}
theorem rel_nil : Rel P cfg ⟨fun _ => none⟩ (fun _ _ => False) (AH.of ([] : List (Option (AObj D)))) w :=
  ⟨fun k _ => by simp [of_get], fun _ _ => rfl, fun k o h => by simp [of_get] at h, fun _ _ _ h => h, fun _ _ h => h.elim, fun _ _ _ h => h.elim, fun k cs h => by simp [of_get] at h⟩

theorem Rel.addRo {ρ : Env} {own : Nat → Nat → Prop} {H : AH D} (hr : Rel P cfg ρ own H w) (hown : ∀ k b, ¬ own k b) {v : Value} {n : Nat} {cs : List Value} (hg : grounds cs = true) (h1 : cs.all (·.oneCell') = true) (hv : ArgRow w v n cs) :
    ∃ ρ', Rel P cfg ρ' own (H.add (.ro cs)) w ∧ ρ.le ρ' ∧ VR ρ' (.slice (some ⟨H.next, 0, none⟩) n 0) v := by
  have key : ∀ ρ' : Env, ρ.le ρ' → (∀ k, H.next + 1 ≤ k → ρ'.loc k = none) → ObjOk P cfg ρ' (own H.next) H.next (.ro cs) w → Rel P cfg ρ' own (H.add (.ro cs)) w := by
    intro ρ' hle hd hob
    refine ⟨fun k hk => ?_, fun k hk => hd k hk, fun k o ho => ?_, fun k _ b hb => hown k b hb, fun k b hb => (hown k b hb).elim, fun k _ b hb => (hown k b hb).elim, fun k _ _ _ l _ k' hb => hown k' l.b hb⟩
    · simp only [AH.next_add] at hk
      rw [AH.get_add, if_neg (by omega)]; exact hr.fresh k (by omega)
    · rw [AH.get_add] at ho
      split at ho
      · rename_i e; subst e; cases ho; exact hob
      · exact (hr.obj k o ho).keep P cfg hle (fun _ _ => rfl) fun _ _ _ _ _ => rfl
  rcases hv with ⟨rfl, rfl, a, cc, rfl, hcc⟩ | ⟨b, off, cc, c', e, fr, rfl, hn, hh, hsz, hcs⟩
  · exact ⟨ρ, key ρ ρ.le_refl (fun k hk => hr.dom k (by omega)) ⟨fun i => hown _ i, fun h => (h rfl).elim⟩, ρ.le_refl, .slicen _ _ a cc (by omega) (fun h => by
      rcases h with h | h
      · omega
      · exact ⟨h, hcc h⟩)⟩
  · have hle : ρ.le (ρ.put H.next ⟨b, off, 0, 0⟩) := Env.put_le (hr.dom _ (Nat.le_refl _))
    refine ⟨ρ.put H.next ⟨b, off, 0, 0⟩, key _ hle (fun k hk => ?_) ⟨fun i => hown _ i, fun _ => ⟨⟨b, off, 0, 0⟩, c', e, fr, by simp [Env.loc_put], hh, hsz, ?_, h1⟩⟩, hle, ?_⟩
    · rw [Env.loc_put, if_neg (by omega)]; exact hr.dom k (by omega)
    · show VRs _ cs ((c'.toList.drop off).take cs.length)
      rw [hcs]; exact VRs.of_ground _ _ hg
    · exact .slice _ _ _ _ _ _ ⟨b, off, 0, 0⟩ (by simp [Env.loc_put]) hn (fun _ => rfl) (fun h => by omega) (fun m h => by omega)

variable {H : Type} {enc : TypeId × Value → H}
theorem cells_chunk {a : Addr} {n : Nat} {cs : List Value} (hn : 0 < n) (h : w.cells? 0 a n = some cs) : ∃ c' e fr, a.spot = none ∧ w.heap[a.block]? = some (.cells c' e fr) ∧ a.off + n ≤ c'.size ∧ (c'.toList.drop a.off).take n = cs := by
  obtain ⟨_, hlen, hc⟩ := World.cells?_some h
  have hat : ∀ i, i < n → ∃ v, cs[i]? = some v := fun i hi => ⟨cs[i], List.getElem?_eq_getElem (by omega)⟩
  obtain ⟨v0, hv0⟩ := hat 0 hn
  have h0 := hc 0 hn
  rw [hv0] at h0
  have ha0 : a.add 0 = a := by simp [Addr.add]
  rw [ha0] at h0
  unfold World.cell? at h0
  split at h0
  case h_2 => cases h0
  rename_i c' e fr hh
  have hsp : a.spot = none := by
    cases hs : a.spot with
    | none => rfl
    | some x => rw [hs] at h0; simp at h0
  have hcell : ∀ i, i < n → c'[a.off + i]? = cs[i]? := fun i hi => by
    rw [← hc i hi]
    unfold World.cell?
    have e1 : (a.add i).block = a.block := by unfold Addr.add; split <;> rfl
    have e2 : (a.add i).spot = none := by unfold Addr.add; split <;> simp [hsp]
    have e3 : (a.add i).off = a.off + i := by
      unfold Addr.add
      split
      · rename_i h0; subst h0; rfl
      · rfl
    rw [e1, hh, e2, e3]; rfl
  refine ⟨c', e, fr, hsp, hh, ?_, ?_⟩
  · obtain ⟨v, hv⟩ := hat (n - 1) (by omega)
    have := hcell (n - 1) (by omega)
    rw [hv] at this
    have := (Array.getElem?_eq_some_iff.1 this).1
    omega
  · refine List.ext_getElem? fun i => ?_
    rw [List.getElem?_take]
    split
    · rename_i hi
      rw [List.getElem?_drop, Array.getElem?_toList, hcell i hi]
    · rename_i hi
      rw [List.getElem?_eq_none (by omega)]

theorem open_rows {α : Type} {t e : TypeId} {ea : α → List Value} {Ok : α → Prop} {r : Reach} {b0 : Nat} {v : Value} {d : DataW H} {ps : List MemPlace} (ht : P.underlying t = some (.slice e)) (hs : 0 < P.cellsOf e) (hlen : ∀ x, (ea x).length = P.cellsOf e)
    (hel : ∀ fuel cs y, DataW.trod enc P w 0 (fun _ => true) true fuel e cs = some y → ∃ x, cs = ea x ∧ Ok x) (hok : Value.okWide P w r b0 t v) (hd : DataW.Trod enc P w 0 (fun _ => true) true t v d ps) :
    ∃ l : List α, (∀ x ∈ l, Ok x) ∧ l.length ≤ maxLen ∧ ArgRow w v l.length (l.flatMap ea) := by
  obtain ⟨a, len, cap, rfl⟩ := okWide_slice ht hok
  obtain ⟨fuel, hf⟩ := hd
  rcases Deep.open_slice ht hf with ⟨h1, _⟩ | ⟨a', len', cap', m, n, D, Pl, h1, _, hlc, hcm, hm, _, hx⟩
  · simp only [Value.cells] at h1
    have h2 : Value.slice a len cap = .slice none 0 0 := by simpa using h1
    cases h2
    exact ⟨[], by simp, Nat.zero_le _, .inl ⟨rfl, rfl, none, 0, rfl, fun _ => rfl⟩⟩
  · simp only [Value.cells] at h1
    have h2 : Value.slice a len cap = .slice (some a') len' cap' := by simpa using h1
    cases h2
    simp only [if_true] at hm
    subst hm
    rcases Nat.eq_zero_or_pos len with rfl | hpos
    · exact ⟨[], by simp, Nat.zero_le _, .inl ⟨rfl, rfl, some a', m, rfl, fun h => by cases h⟩⟩
    · have hi : ∀ i, i < len → ∃ x, w.cells? 0 (a'.add (i * P.cellsOf e)) (P.cellsOf e) = some (ea x) ∧ Ok x := fun i hi => by
        obtain ⟨cs', h1, h2⟩ := hx i (by omega)
        obtain ⟨x, rfl, hok⟩ := hel _ _ _ h2
        exact ⟨x, h1, hok⟩
      have hfam : ∀ n, n ≤ len → ∃ l : List α, l.length = n ∧ (∀ x ∈ l, Ok x) ∧ (0 < n → ∃ c' ty fr, a'.spot = none ∧ w.heap[a'.block]? = some (.cells c' ty fr) ∧ a'.off + n * P.cellsOf e ≤ c'.size ∧ (c'.toList.drop a'.off).take (n * P.cellsOf e) = l.flatMap ea) := by
        intro n
        induction n with
        | zero => intro _; exact ⟨[], rfl, by simp, fun h => absurd h (Nat.lt_irrefl _)⟩
        | succ n ih =>
          intro hn
          obtain ⟨l, hl, hok, hrest⟩ := ih (by omega)
          obtain ⟨x, hxc, hxo⟩ := hi n (by omega)
          obtain ⟨c', ty, fr, q1, q2, q3, q4⟩ := cells_chunk hs hxc
          have e1 : (a'.add (n * P.cellsOf e)).block = a'.block := by unfold Addr.add; split <;> rfl
          have e3 : (a'.add (n * P.cellsOf e)).off = a'.off + n * P.cellsOf e := by
            unfold Addr.add
            split
            · rename_i h0; rw [h0]; rfl
            · rfl
          rw [e1] at q2; rw [e3] at q3 q4
          have hsp : a'.spot = none := by
            rcases Nat.eq_zero_or_pos n with rfl | h
            · simpa [Addr.add] using q1
            · exact (hrest h).choose_spec.choose_spec.choose_spec.1
          refine ⟨l ++ [x], by simp [hl], fun y hy => ?_, fun _ => ⟨c', ty, fr, hsp, q2, by rw [Nat.succ_mul]; omega, ?_⟩⟩
          · rcases List.mem_append.1 hy with hy | hy
            · exact hok y hy
            · have : y = x := by simpa using hy
              subst this; exact hxo
          · have hsplit : ∀ (L : List Value) (p q : Nat), L.take (p + q) = L.take p ++ (L.drop p).take q := fun L p q => List.take_add
            rw [Nat.succ_mul, hsplit, List.drop_drop, q4, List.flatMap_append]
            congr 1
            · rcases Nat.eq_zero_or_pos n with rfl | h
              · have : l = [] := List.eq_nil_of_length_eq_zero hl
                subst this; simp
              · obtain ⟨c2, ty2, fr2, _, g2, _, g4⟩ := hrest h
                rw [q2] at g2; cases g2
                exact g4
            · simp
      obtain ⟨l, hl, hok', hrest⟩ := hfam len (Nat.le_refl _)
      obtain ⟨c', ty, fr, g1, g2, g3, g4⟩ := hrest hpos
      have hfl : (l.flatMap ea).length = len * P.cellsOf e := by
        rw [← g4, List.length_take, List.length_drop, Array.length_toList]; omega
      refine ⟨l, hok', by omega, .inr ⟨a'.block, a'.off, m, c', ty, fr, ?_, by omega, g2, by rw [hfl]; exact g3, by rw [hfl]; exact g4⟩⟩
      rw [hl]
      cases a'
      simp only at g1
      subst g1; rfl

/-- A struct all of whose fields are one cell. -/
theorem struct_cells {t : TypeId} {fs : Array Field} {fuel : Nat} {cs : List Value} {x : DataW H × List MemPlace} (ht : P.underlying t = some (.struct fs)) (hoff : (List.range fs.size).all (fun i => match fs[i]? with | some f => decide (f.offset = i) && decide (P.cellsOf f.type = 1) | none => false) = true)
    (h : DataW.trod enc P w 0 (fun _ => true) true fuel t cs = some x) (hsz : P.cellsOf t = fs.size) : cs.length = fs.size ∧ ∀ (i : Nat) (f : Field), fs[i]? = some f → ∃ v n y, cs[i]? = some v ∧ DataW.trod enc P w 0 (fun _ => true) true n f.type [v] = some y := by
  obtain ⟨xs, n, _, _, h1, h2, h3⟩ := DataW.trod_struct ht h
  refine ⟨by rw [h1, hsz], fun i f hf => ?_⟩
  have hi : i < fs.size := (Array.getElem?_eq_some_iff.1 hf).1
  have ho := List.all_eq_true.1 hoff i (by simpa using hi)
  rw [hf] at ho
  simp only [Bool.and_eq_true, decide_eq_true_eq] at ho
  have h4 := h3 i f hf
  rw [ho.1, ho.2, List.getElem?_eq_getElem (by omega)] at h4
  have hci : i < cs.length := by omega
  refine ⟨cs[i], n, xs[i], List.getElem?_eq_getElem hci, ?_⟩
  have h5 : (cs.drop i).take 1 = [cs[i]] := by rw [List.drop_eq_getElem_cons hci]; rfl
  rw [h5] at h4; exact h4

/-- FROM A LAW's TEXT TO ITS CALL: it returns true, and old memory is as it was. -/
theorem law_calls {f : FuncId} {args : List Value} {Hh : AH D} {ρ : Env} {own : Nat → Nat → Prop} {args' : Array Value} {K : AEnd → AH D → Prop} (h : Runs P cfg f args Hh K) (hK : ∀ r H', K r H' → r = .ret (.bool true)) (hr : Rel P cfg ρ own Hh w) (hown : ∀ k b, ¬ own k b) (hv : VRs ρ args args'.toList) :
    Calls P f args' w fun e w' => e = .returned (.bool true) ∧ Below w.heap.size w w' := by
  refine (h.2 ρ own w args' hr hv).mono fun e w' ⟨r, H', ρ', own', k, x, en, _⟩ => ?_
  have := hK r H' k
  subst this
  refine ⟨?_, ⟨x.os, x.tape, x.output, x.size, fun b hb => x.kept b hb fun k hk => hown k b hk⟩⟩
  cases e with
  | returned v =>
    have : VR ρ' (.bool true) v := en
    rw [this.bool_eq]
  | panicked c => exact en.elim
  | outgrown => exact en.elim
end
end Go.Abs
