/-
  append, slices' bounds, makes.
-/
import Derived.Test.YtlecfiofljigbaaA7
import Derived.Maps.AppendAt
set_option linter.unusedSimpArgs false
set_option linter.unusedVariables false
set_option linter.unnecessarySimpa false
set_option linter.unusedSectionVars false
namespace Go.Abs
open Go.RowKit

section
variable {D : Type} {P : Program} {cfg : D → HRep} {ρ : Env} {own : Nat → Nat → Prop} {H : AH D} {w : World}

theorem run_append_zero (t ty e : TypeId) {size : Nat} (ht : P.underlying t = some (.slice e)) (hs : szOf P e = some size) (w : World) (a b : Option Addr) (n cc c : Nat) (hn : n ≤ cc) :
    (Builtin.append_ #[t, t] ty #[.slice a n cc, .slice b 0 c]).run P w = .ok (.slice a n cc) w := by
  obtain ⟨i, hi, rfl⟩ := sz_info hs
  cases a <;> cases b <;> simp [Builtin.append_, run_underlying ht, sizeOf, typeInfo, hi, Builtin.lenOf, Builtin.firstCells, loadCells, loadCellsFrom, hn, storeCells]

/-- What is appended, as the world has it. -/
theorem news_ok (hr : Rel P cfg ρ own H w) {sz : Nat} {x x' : Value} {m : Nat} {news : List Value} (h : newsOf H sz x = some (m, news)) (hx : VR ρ x x') :
    ∃ b c, x' = .slice b m c ∧ news.length = m * sz ∧ news.all (·.oneCell') = true ∧
      (0 < m → ∃ a news', b = some a ∧ VRs ρ news news' ∧ ∀ j v, news'[j]? = some v → w.cell? (a.add j) = some v) := by
  unfold newsOf at h
  split at h
  · simp only [Option.some.injEq, Prod.mk.injEq] at h
    obtain ⟨rfl, rfl⟩ := h
    cases hx
    exact ⟨none, 0, rfl, by simp, rfl, fun h => absurd h (by omega)⟩
  · rename_i k o m' c
    simp only [Option.map_eq_some_iff, Prod.mk.injEq] at h
    obtain ⟨l, hl, rfl, rfl⟩ := h
    have hlen := AH.many_length hl
    rcases hx.slice_inv with ⟨o', cc, lc, e1, e2, e3, e4, e5, rfl⟩ | ⟨_, rfl, _, a0, c0, rfl, _⟩
    · by_cases hne : l = []
      · subst hne
        exact ⟨_, _, rfl, hlen, rfl, fun hm => ⟨_, [], rfl, .nil, fun j v hj => by simp at hj⟩⟩
      · obtain ⟨lc', l', f1, f2, f3, f4, f5⟩ := hr.many hl hne
        rw [e1] at f1; cases f1
        exact ⟨_, _, rfl, f3, f4, fun hm => ⟨_, l', rfl, f2, fun j v hj => by rw [e3 hm]; exact f5 j v hj⟩⟩
    · have hl0 : l = [] := List.eq_nil_of_length_eq_zero (by rw [hlen, Nat.zero_mul])
      subst hl0
      exact ⟨_, _, rfl, hlen, rfl, fun h => absurd h (by omega)⟩
  · cases h

/-- A row is another one, that stands under a new key: in the old one's block, or in a new one. -/
theorem Rel.replace (hr : Rel P cfg ρ own H w) {k : Nat} {e e' : TypeId} {cs : List Value} (hk : H.get k = some (.arr e' cs)) {l : Loc} (hl : ρ.loc k = some l)
    {w' : World} (hg : w.grownBy w' (some l.b)) {g : Nat} (hgg : g = l.b ∨ g = w.heap.size) {cur : Array Value} {xs : List Value} (hh : w'.heap[g]? = some (.cells cur e (0, 0)))
    (hlen : xs.length ≤ cur.size) (hv : VRs ρ xs (cur.toList.take xs.length)) (h1 : xs.all (·.oneCell') = true) (e5 : ∀ i, own k i ↔ i = l.b) (hlb : l.b < w.heap.size) :
    ∃ ρ' own', ρ'.loc H.next = some ⟨g, 0, cur.size, P.cellsOf e⟩ ∧ Ext ρ own w ρ' own' w' ∧ Rel P cfg ρ' own' ((H.del k).add (.arr e xs)) w' := by
  have hkn := hr.lt hk
  have hgl : g < w'.heap.size := (Array.getElem?_eq_some_iff.1 hh).1
  have hle : ρ.le (ρ.put H.next ⟨g, 0, cur.size, P.cellsOf e⟩) := Env.put_le (hr.dom _ (Nat.le_refl _))
  have hother : ∀ j, j ≠ k → ∀ b, own j b → b ≠ l.b := fun j hj b hb he => hj (hr.disj j k b hb ((e5 b).2 he))
  have hro : ∀ j cs2 l2, H.get j = some (.ro cs2) → cs2 ≠ [] → ρ.loc j = some l2 → l2.b < w.heap.size ∧ l2.b ≠ l.b := fun j cs2 l2 hj hcs hl2 => by
    obtain ⟨l', cs', e, fr, h1, h3, _⟩ := (hr.obj j _ hj).2 hcs
    rw [hl2] at h1; cases h1
    exact ⟨(Array.getElem?_eq_some_iff.1 h3).1, fun he => hr.ro j cs2 hj hcs l2 hl2 k ((e5 _).2 he)⟩
  refine ⟨ρ.put H.next ⟨g, 0, cur.size, P.cellsOf e⟩, fun j b => if j = H.next then b = g else j ≠ k ∧ own j b, by simp [Env.loc_put], ?_, ?_⟩
  · refine ⟨hle, fun j b hb => ?_, hg.size, fun b hb hn => hg.block b hb (fun he => hn k ((e5 b).2 (Option.some.inj he))), hg.os, hg.tape, hg.output⟩
    split at hb
    · subst hb
      rcases hgg with rfl | rfl
      · exact .inl ⟨k, (e5 _).2 rfl⟩
      · exact .inr (Nat.le_refl _)
    · exact .inl ⟨j, hb.2⟩
  · refine ⟨fun j hj => ?_, fun j hj => ?_, fun j y hj => ?_, fun j hj b hb => ?_, fun j b hb => ?_, fun j j' b hb hb' => ?_, fun j cs2 hj hcs l2 hl2 k' hk' => ?_⟩
    · simp only [AH.next_add, AH.next_del] at hj
      rw [AH.get_add, AH.next_del, if_neg (by omega), AH.get_del]
      split
      · rfl
      · exact hr.fresh j (by omega)
    · simp only [AH.next_add, AH.next_del] at hj
      rw [Env.loc_put, if_neg (by omega)]; exact hr.dom j (by omega)
    · rw [AH.get_add, AH.next_del] at hj
      split at hj
      · rename_i ej; subst ej; cases hj
        refine .inl ⟨⟨g, 0, cur.size, P.cellsOf e⟩, cur, by simp [Env.loc_put], rfl, rfl, rfl, fun i => by simp, hh, hlen, hv.mono hle, h1⟩
      · rename_i hne
        rw [AH.get_del] at hj
        split at hj
        · cases hj
        · rename_i hjk
          have := (hr.obj j y hj).keep P cfg (w' := w') hle (fun b hb => hg.block b (hr.bound j b hb) (fun he => hother j hjk b hb (Option.some.inj he))) (fun cs2 l2 hx hcs hl2 => by
            subst hx
            have := hro j cs2 l2 hj hcs hl2
            exact hg.block _ this.1 (fun he => this.2 (Option.some.inj he)))
          have ee : (fun b => if j = H.next then b = g else j ≠ k ∧ own j b) = own j := by funext b; simp [hne, hjk]
          show ObjOk P cfg _ (fun b => if j = H.next then b = g else j ≠ k ∧ own j b) j y w'
          rw [ee]; exact this
    · rw [AH.get_add, AH.next_del] at hj
      split at hj
      · cases hj
      · rename_i hne
        simp only [if_neg hne] at hb
        rw [AH.get_del] at hj
        split at hj
        · rename_i hjk; exact hb.1 hjk
        · exact hr.gone j hj b hb.2
    · show b < w'.heap.size
      split at hb
      · omega
      · exact Nat.lt_of_lt_of_le (hr.bound j b hb.2) hg.size
    · have gn : ∀ i, i ≠ k → own i b → b ≠ g := fun i hi hb => by
        have h1 := hother i hi b hb
        have h2 := hr.bound i b hb
        rcases hgg with rfl | rfl <;> omega
      split at hb <;> split at hb'
      · omega
      · exact absurd hb (gn j' hb'.1 hb'.2)
      · exact absurd hb' (gn j hb.1 hb.2)
      · exact hr.disj j j' b hb.2 hb'.2
    · rw [AH.get_add, AH.next_del] at hj
      split at hj
      · cases hj
      · rename_i hne
        rw [AH.get_del] at hj
        split at hj
        · cases hj
        · rw [Env.loc_put, if_neg hne] at hl2
          have := hro j cs2 l2 hj hcs hl2
          split at hk'
          · rcases hgg with rfl | rfl <;> omega
          · exact hr.ro j cs2 hj hcs l2 hl2 k' hk'.2

/-- Onto nothing that is kept: a new row, or none. -/
theorem Rel.fresh1 (hr : Rel P cfg ρ own H w) (k : Nat) {e : TypeId} {w' : World} (hw : w'.heap = w.heap) (hos : w'.os = w.os) (ht : w'.tape = w.tape) (ho : w'.output = w.output) {cs : List Value} {cs' : Array Value} (hlen : cs.length ≤ cs'.size) (hv : VRs ρ cs (cs'.toList.take cs.length)) (h1 : cs.all (·.oneCell') = true) :
    ∃ ρ' own', ρ'.loc H.next = some ⟨w.heap.size, 0, cs'.size, P.cellsOf e⟩ ∧ Ext ρ own w ρ' own' (w'.alloc (.cells cs' e)) ∧ Rel P cfg ρ' own' ((H.del k).add (.arr e cs)) (w'.alloc (.cells cs' e)) := by
  obtain ⟨ρ', own', h1, h2, h3⟩ := ((hr.forget k).drew P cfg (w' := w') hw).newRow (cfg := cfg) e hlen hv h1
  refine ⟨ρ', own', by rw [hw] at h1; exact h1, ?_, h3⟩
  have h4 := (Ext.forget (ρ := ρ) (own := own) (w := w) k).trans (w1 := w) (ρ1 := ρ) (own1 := fun j b => j ≠ k ∧ own j b) (ρ2 := ρ') (own2 := own') (w2 := w'.alloc (.cells cs' e))
    ⟨h2.le, fun j b hb => by have := h2.owned j b hb; rw [hw] at this; exact this, by have := h2.size; rw [hw] at this; exact this, fun b hb hn => by have := h2.kept b (by rw [hw]; exact hb) hn; rw [hw] at this; exact this, h2.os.trans hos, h2.tape.trans ht, h2.output.trans ho⟩
  exact h4
theorem Rel.fresh0 (hr : Rel P cfg ρ own H w) (k : Nat) (e : TypeId) (g : Nat) :
    ∃ ρ' own', ρ'.loc H.next = some ⟨g, 0, 0, P.cellsOf e⟩ ∧ Ext ρ own w ρ' own' w ∧ Rel P cfg ρ' own' ((H.del k).add (.arr e [])) w := by
  obtain ⟨ρ', own', h1, h2, _, h3⟩ := (hr.forget k).nilRow e g
  exact ⟨ρ', own', h1, (Ext.forget k).trans h2, h3⟩

theorem grow_tail {xs : List Value} {xs' : List Value} (h : VRs ρ xs xs') (tail : Array Value) : VRs ρ xs (((xs'.toArray ++ tail).toList).take xs.length) := by
  rw [Array.toList_append, h.length]
  simpa using h

/-- APPEND. -/
theorem append_ok (hr : Rel P cfg ρ own H w) {n : Nat} {tm : Nat → Value} {e : TypeId} {sz bytes : Nat} {s x : Opd} {v : Value} {H' : AH D} (hstep : (AOp.append e sz bytes s x).step tm H = some (v, H'))
    {s' x' : Value} (hs : VR ρ (s.ev tm) s') (hx : VR ρ (x.ev tm) x') {t ty : TypeId} (ht : P.underlying t = some (.slice e)) {i : TypeInfo} (hi : P.info? e = some i) (hsz : i.size = sz) (hby : i.bytes = bytes) (hpos : 0 < sz) (hz : (zeroOf P e).isSome = true) :
    ∃ v' w' ρ' own', (Builtin.append_ #[t, t] ty #[s', x']).run P w = .ok v' w' ∧ Ext ρ own w ρ' own' w' ∧ VR ρ' v v' ∧ Rel P cfg ρ' own' H' w' := by
  have hsze : szOf P e = some sz := by simp [szOf, hi, hsz]
  obtain ⟨z, hz⟩ := Option.isSome_iff_exists.1 hz
  obtain ⟨_, _, _, hzs⟩ := zero_run hz w
  rw [hsze] at hzs
  have hzs : sz = z.cells.size := by simpa using hzs
  have hz0 : i.zero = some z := by
    simp only [zeroOf, Option.bind_eq_some_iff] at hz
    obtain ⟨i', hi', z', hz', hc⟩ := hz
    rw [hi] at hi'; cases hi'
    split at hc
    · cases hc; exact hz'
    · cases hc
  have hcell : P.cellsOf e = sz := cellsOf_eq hsze
  simp only [AOp.step] at hstep
  split at hstep
  case h_2 => cases hstep
  rename_i m news hnews
  obtain ⟨b, c, rfl, hnl, hn1, hsrc⟩ := news_ok hr hnews hx
  split at hstep
  · -- onto nil
    rename_i hsv
    rw [hsv] at hs
    cases hs
    split at hstep
    · rename_i hm
      subst hm
      simp only [Option.some.injEq, Prod.mk.injEq] at hstep
      obtain ⟨rfl, rfl⟩ := hstep
      exact ⟨_, w, ρ, own, run_append_zero t ty e ht hsze w none b 0 0 c (Nat.le_refl _), Ext.refl _ _ _, .nils, hr⟩
    · rename_i hm
      split at hstep
      · rename_i hb
        simp only [Option.some.injEq, Prod.mk.injEq] at hstep
        obtain ⟨rfl, rfl⟩ := hstep
        obtain ⟨a, news', rfl, hvn, hcells⟩ := hsrc (by omega)
        have hnl' : news'.length = m * i.size := by rw [← hvn.length, hnl, hsz]
        have hrun := run_append_nil (P := P) w t ty e i z ht hi hz0 a m c news' hnl' hcells (by omega) (by omega) (by rw [hby]; omega)
        have hsize : (news'.toArray ++ Builtin.zeroCells z.cells (grownCap w m 0 e - m)).size = grownCap w m 0 e * sz := by
          have := grownCap_ge w m 0 e
          rw [Array.size_append, size_zeroCells, ← hzs, List.size_toArray, hnl', hsz, ← Nat.add_mul]
          congr 1; omega
        obtain ⟨ρ', own', h1, h2, h3⟩ := (hr.drew P cfg (w' := w.drew) rfl).newRow (cfg := cfg) e (cs := news) (cs' := news'.toArray ++ Builtin.zeroCells z.cells (grownCap w m 0 e - m))
          (by rw [Array.size_append, List.size_toArray, hvn.length]; omega) (grow_tail hvn _) hn1
        refine ⟨_, _, ρ', own', hrun, ⟨h2.le, h2.owned, h2.size, h2.kept, h2.os, h2.tape, h2.output⟩, ?_, h3⟩
        refine .slice _ _ _ _ _ _ _ h1 (grownCap_ge w m 0 e) (fun _ => rfl) (fun _ => ⟨rfl, rfl, rfl, ?_, grownCap_le_maxLen w m 0 e (by simp only [maxLen]; omega)⟩) (fun q hq => by omega)
        rw [hsize, hcell]
      · cases hstep
  · -- onto a row of its own
    rename_i k n0 hsv
    rw [hsv] at hs
    split at hstep
    case h_2 => cases hstep
    rename_i e' cs hk
    split at hstep
    case isFalse => cases hstep
    rename_i hb
    obtain ⟨rfl, hb1, hb2, hb3⟩ := hb
    simp only [Option.some.injEq, Prod.mk.injEq] at hstep
    obtain ⟨rfl, rfl⟩ := hstep
    rcases hs.slice_inv with ⟨o', cc, l, f1, f2, f3, f4, f5, rfl⟩ | ⟨_, rfl, _, a0, c0, rfl, hnil⟩
    case inr =>
      -- it is nil
      obtain ⟨rfl, rfl⟩ := hnil (.inl rfl)
      by_cases hm : m = 0
      · subst hm
        have hnn : news = [] := List.eq_nil_of_length_eq_zero (by simpa using hnl)
        subst hnn
        obtain ⟨ρ', own', h1, h2, h3⟩ := hr.fresh0 k e' 0
        refine ⟨_, w, ρ', own', run_append_zero t ty e' ht hsze w none b 0 0 c (Nat.le_refl _), h2, .slicen _ _ none 0 (Nat.le_refl _) (fun _ => ⟨rfl, rfl⟩), by simpa using h3⟩
      · obtain ⟨a, news', rfl, hvn, hcells⟩ := hsrc (by omega)
        have hnl' : news'.length = m * i.size := by rw [← hvn.length, hnl, hsz]
        rw [Nat.zero_add] at hb2 hb3 ⊢
        have hrun := run_append_nil (P := P) w t ty e' i z ht hi hz0 a m c news' hnl' hcells (by omega) (by omega) (by rw [hby]; omega)
        have hsize : (news'.toArray ++ Builtin.zeroCells z.cells (grownCap w m 0 e' - m)).size = grownCap w m 0 e' * sz := by
          have := grownCap_ge w m 0 e'
          rw [Array.size_append, size_zeroCells, ← hzs, List.size_toArray, hnl', hsz, ← Nat.add_mul]
          congr 1; omega
        obtain ⟨ρ', own', h1, h2, h3⟩ := hr.fresh1 (cfg := cfg) k (w' := w.drew) rfl rfl rfl rfl (e := e') (cs := news) (cs' := news'.toArray ++ Builtin.zeroCells z.cells (grownCap w m 0 e' - m))
          (by rw [Array.size_append, List.size_toArray, hvn.length]; omega) (grow_tail hvn _) hn1
        refine ⟨_, _, ρ', own', hrun, h2, ?_, by simpa using h3⟩
        refine .slice _ _ _ _ _ _ _ h1 (by have := grownCap_ge w m 0 e'; omega) (fun _ => rfl) (fun _ => ⟨rfl, rfl, rfl, ?_, grownCap_le_maxLen w m 0 e' (by simp only [maxLen]; omega)⟩) (fun q hq => by omega)
        rw [hsize, hcell]
    obtain ⟨_, rfl, g2, g3, g4⟩ := f4 rfl
    rcases hr.obj k _ hk with ⟨l1, cur, e1, e2, e3, e4, e5, e6, e7, e8, e9⟩ | ⟨rfl, _, l1, e1, e2, e3, e4⟩
    case inr =>
      -- a row of nothing
      rw [f1] at e1; cases e1
      have hcc : cc = 0 := by
        rw [e4, e3, hcell] at g3
        rcases Nat.mul_eq_zero.1 g3 with h | h
        · exact h
        · omega
      subst hcc
      have hn0 : n0 = 0 := by omega
      subst hn0
      by_cases hm : m = 0
      · subst hm
        have hnn : news = [] := List.eq_nil_of_length_eq_zero (by simpa using hnl)
        subst hnn
        obtain ⟨ρ', own', h1, h2, h3⟩ := hr.fresh0 k e' l.b
        refine ⟨_, w, ρ', own', run_append_zero t ty e' ht hsze w _ b 0 0 c (Nat.le_refl _), h2, ?_, by simpa using h3⟩
        exact .slice (l := ⟨l.b, 0, 0, P.cellsOf e'⟩) _ _ _ _ _ _ h1 (Nat.le_refl _) (fun _ => rfl) (fun _ => ⟨rfl, rfl, rfl, by simp, Nat.zero_le _⟩) (fun q hq => by omega)
      · obtain ⟨a, news', rfl, hvn, hcells⟩ := hsrc (by omega)
        have hnl' : news'.length = m * i.size := by rw [← hvn.length, hnl, hsz]
        have hrun := run_append_grow (P := P) w t ty e' i z ht hi hz0 ⟨l.b, 0, none⟩ 0 0 [] (by simp) (fun j v hj => by simp at hj) a m c news' hnl' hcells (by omega) (by omega) (growslice_fits (by omega) (by rw [hby]; exact hb2))
        have hsize : (#[] ++ news'.toArray ++ Builtin.zeroCells z.cells (grownCap w (0 + m) 0 e' - (0 + m))).size = grownCap w (0 + m) 0 e' * sz := by
          have := grownCap_ge w (0 + m) 0 e'
          rw [Array.size_append, Array.size_append, size_zeroCells, ← hzs, List.size_toArray, List.size_toArray, hnl', hsz, List.length_nil, Nat.zero_add, ← Nat.add_mul]
          congr 1; omega
        obtain ⟨ρ', own', h1, h2, h3⟩ := hr.fresh1 (cfg := cfg) k (w' := w.drew) rfl rfl rfl rfl (e := e') (cs := news) (cs' := #[] ++ news'.toArray ++ Builtin.zeroCells z.cells (grownCap w (0 + m) 0 e' - (0 + m)))
          (by rw [Array.size_append, Array.size_append, List.size_toArray, List.size_toArray, hvn.length]; omega) (by
            have := grow_tail hvn (Builtin.zeroCells z.cells (grownCap w (0 + m) 0 e' - (0 + m)))
            simpa using this) hn1
        refine ⟨_, _, ρ', own', hrun, h2, ?_, by simpa using h3⟩
        refine .slice _ _ _ _ _ _ _ h1 (by have := grownCap_ge w (0 + m) 0 e'; omega) (fun _ => rfl) (fun _ => ⟨rfl, rfl, rfl, ?_, grownCap_le_maxLen w (0 + m) 0 e' (by simp only [maxLen]; omega)⟩) (fun q hq => by omega)
        rw [hsize, hcell]
    rw [f1] at e1; cases e1
    have hlb : l.b < w.heap.size := (Array.getElem?_eq_some_iff.1 e6).1
    have hcur : cur.size = cc * sz := by rw [← e4, ← g3, e3, hcell]
    have hxs : VRs ρ (cs.take (n0 * sz)) (cur.toList.take (n0 * sz)) := by
      have := e8.take (n0 * sz)
      rwa [List.take_take, Nat.min_eq_left hb1] at this
    have hxs1 : (cs.take (n0 * sz)).all (·.oneCell') = true := by
      rw [List.all_eq_true] at e9 ⊢; exact fun y hy => e9 y (List.mem_of_mem_take hy)
    have hown : w.ownsRow 0 e' sz (.slice (some ⟨l.b, 0, none⟩) n0 cc) n0 (cur.toList.take (n0 * sz)) :=
      ⟨by simp; omega, .inr ⟨l.b, cc, cur, rfl, Nat.zero_le _, e6, f2, g4, hcur, rfl⟩⟩
    by_cases hm : m = 0
    · subst hm
      have hnn : news = [] := List.eq_nil_of_length_eq_zero (by simpa using hnl)
      subst hnn
      obtain ⟨ρ', own', h1, h2, h3⟩ := hr.replace hk f1 (w' := w) ⟨rfl, rfl, rfl, Nat.le_refl _, fun _ _ _ => rfl⟩ (.inl rfl) e6 (xs := cs.take (n0 * sz) ++ []) (by simp; omega)
        (by
          have hl : (cs.take (n0 * sz) ++ []).length = n0 * sz := by simp; omega
          rw [hl, List.append_nil]; exact hxs) (by simpa using hxs1) e5 hlb
      refine ⟨_, w, ρ', own', run_append_zero t ty e' ht hsze w _ b n0 cc c f2, h2, ?_, h3⟩
      refine .slice _ _ _ _ _ _ ⟨l.b, 0, cur.size, P.cellsOf e'⟩ h1 (by omega) (fun _ => rfl) (fun _ => ⟨rfl, rfl, rfl, ?_, g4⟩) (fun q hq => by omega)
      rw [hcell, hcur]
    · obtain ⟨a, news', rfl, hvn, hcells⟩ := hsrc (by omega)
      have hnl' : news'.length = m * sz := by rw [← hvn.length, hnl]
      have hn1' : ∀ u ∈ news', u.oneCell' = true := by
        have := hn1; rw [hvn.oneCells, List.all_eq_true] at this; exact this
      obtain ⟨v', w', hrun, hown', hgrown, hnil, hblk⟩ := run_append_own_at (P := P) w 0 t ty e' i z sz bytes ht hi hz0 hsz hby hzs.symm hpos _ n0 _ hown a m c news' hnl' hcells hn1'
        (by simp only [maxLen]; omega) hb2 (Nat.zero_le _)
      rcases hown'.2 with ⟨rfl, hz2⟩ | ⟨g, cap, cur', rfl, _, h6, h7, h8, h9, h10⟩
      · omega
      · have hgg : g = l.b ∨ g = w.heap.size := by
          rcases hblk with h | h
          · left; simpa [Value.ownBlock] using h
          · right; simpa [Value.ownBlock] using h
        have hvx : VRs ρ (cs.take (n0 * sz) ++ news) (cur.toList.take (n0 * sz) ++ news') := hxs.append hvn
        have hlx : (cs.take (n0 * sz) ++ news).length = (n0 + m) * sz := by
          rw [List.length_append, hnl, List.length_take, Nat.add_mul, Nat.min_eq_left hb1]
        obtain ⟨ρ', own', j1, j2, j3⟩ := hr.replace hk f1 (by simpa [Value.ownBlock] using hgrown) hgg h6 (xs := cs.take (n0 * sz) ++ news) (by rw [hlx, h9]; exact Nat.mul_le_mul_right _ h7)
          (by rw [hlx, h10]; exact hvx) (by rw [List.all_append, hxs1, hn1]; rfl) e5 hlb
        refine ⟨_, w', ρ', own', hrun, j2, ?_, j3⟩
        refine .slice _ _ _ _ _ _ _ j1 h7 (fun _ => rfl) (fun _ => ⟨rfl, rfl, rfl, ?_, h8⟩) (fun q hq => by omega)
        rw [hcell, h9]
  · -- onto a slice whose capacity is known
    rename_i k o n0 c0 hsv
    rw [hsv] at hs
    rcases hs.slice_inv with ⟨o', cc, l, f1, f2, f3, f4, f5, rfl⟩ | ⟨_, _, hx2, _⟩
    case inr => omega
    have hcc : cc = c0 := f5 c0 rfl
    subst hcc
    split at hstep
    · rename_i hm
      subst hm
      try rw [if_pos f2] at hstep
      simp only [Option.some.injEq, Prod.mk.injEq] at hstep
      obtain ⟨rfl, rfl⟩ := hstep
      exact ⟨_, w, ρ, own, run_append_zero t ty e ht hsze w _ b n0 cc c f2, Ext.refl _ _ _, hs, hr⟩
    · rename_i hm
      split at hstep
      case isFalse => cases hstep
      rename_i hb
      obtain ⟨hb1, hb2, hb3⟩ := hb
      split at hstep
      case h_2 => cases hstep
      rename_i olds holds
      simp only [Option.some.injEq, Prod.mk.injEq] at hstep
      obtain ⟨rfl, rfl⟩ := hstep
      obtain ⟨a, news', rfl, hvn, hcells⟩ := hsrc (by omega)
      have hnl' : news'.length = m * i.size := by rw [← hvn.length, hnl, hsz]
      have hol := AH.many_length holds
      obtain ⟨olds', q2, q3, q4, q5⟩ : ∃ olds', VRs ρ olds olds' ∧ olds.length = n0 * sz ∧ olds.all (·.oneCell') = true ∧ ∀ i v', olds'[i]? = some v' → w.cell? ((⟨l.b, l.base + o, none⟩ : Addr).add i) = some v' := by
        by_cases hne : olds = []
        · subst hne; exact ⟨[], .nil, hol, rfl, fun j v hj => by simp at hj⟩
        · obtain ⟨l2, olds', q1, q2, q3, q4, q5⟩ := hr.many holds hne
          rw [f1] at q1; cases q1
          exact ⟨olds', q2, q3, q4, q5⟩
      have holen : olds'.length = n0 * i.size := by rw [← q2.length, q3, hsz]
      have hoc : ∀ j v, olds'[j]? = some v → w.cell? ((⟨l.b, o', none⟩ : Addr).add j) = some v := fun j v hj => by
        have hn0 : 0 < n0 := by
          rcases Nat.eq_zero_or_pos n0 with h | h
          · subst h
            have : olds' = [] := List.eq_nil_of_length_eq_zero (by simpa using holen)
            subst this; simp at hj
          · exact h
        rw [f3 hn0]; exact q5 j v hj
      have hrun := run_append_grow (P := P) w t ty e i z ht hi hz0 ⟨l.b, o', none⟩ n0 cc olds' holen hoc a m c news' hnl' hcells hb1 (by omega) (growslice_fits hb1 (by rw [hby]; exact hb2))
      have hge := grownCap_ge w (n0 + m) cc e
      have hvx := q2.append hvn
      have hsize : (olds'.toArray ++ news'.toArray ++ Builtin.zeroCells z.cells (grownCap w (n0 + m) cc e - (n0 + m))).size = grownCap w (n0 + m) cc e * sz := by
        rw [Array.size_append, Array.size_append, size_zeroCells, ← hzs, List.size_toArray, List.size_toArray, hnl', holen, hsz, ← Nat.add_mul, ← Nat.add_mul]
        congr 1; omega
      obtain ⟨ρ', own', h1, h2, h3⟩ := (hr.drew P cfg (w' := w.drew) rfl).newRow (cfg := cfg) e (cs := olds ++ news) (cs' := olds'.toArray ++ news'.toArray ++ Builtin.zeroCells z.cells (grownCap w (n0 + m) cc e - (n0 + m)))
        (by rw [Array.size_append, Array.size_append, List.size_toArray, List.size_toArray, List.length_append, hvn.length, q2.length]; omega)
        (by
          have := grow_tail hvx (Builtin.zeroCells z.cells (grownCap w (n0 + m) cc e - (n0 + m)))
          simpa using this) (by rw [List.all_append, q4, hn1]; rfl)
      refine ⟨_, _, ρ', own', hrun, ⟨h2.le, h2.owned, h2.size, h2.kept, h2.os, h2.tape, h2.output⟩, ?_, h3⟩
      refine .slice _ _ _ _ _ _ _ h1 hge (fun _ => rfl) (fun _ => ⟨rfl, rfl, rfl, ?_, grownCap_le_maxLen w (n0 + m) cc e (by simp only [maxLen]; omega)⟩) (fun q hq => by omega)
      rw [hsize, hcell]
  · cases hstep

end
end Go.Abs
