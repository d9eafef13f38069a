/-
  TRACE: Right.
-/
import Derived.Test.YtmhkpababjdnbaaDoorPR1
import Derived.Shelf.Strconv.Itoa3
import Derived.Shelf.Strings.Builder1
import Derived.Shelf.Strings.OnBuilder
import Derived.Test.YtmhkpababjdnbaaDoorProg
import Derived.Test.YtmhkpababjdnbaaDoorPA3
import Derived.Lib.Builder
import Derived.Laws.Externs
import Derived.Test.YtmhkpababjdnbaaDoorRows
set_option linter.unusedSimpArgs false
set_option linter.unusedVariables false
set_option linter.unnecessarySimpa false
set_option linter.unusedSectionVars false
namespace Go.Proofs
namespace YtmhkpababjdnbaaDoor
open Go.Abs
set_option linter.unusedSimpArgs false

def wrongV : Value := .iface 54 (.agg #[])
def tblRi : List (FuncId × CStep GD) := [(46, st46), (47, st47), (59, dataSt d59), (60, dataSt d60), (61, dataSt d61), (62, dataSt d62), (49, dataSt d49)]
theorem tblRi_ok : ∀ x ∈ tblRi, CStepOk Tryd.prog cfg x.1 x.2 := by simp [tblRi, st46_ok, st47_ok, st59_ok, st60_ok, st61_ok, st62_ok, st49_ok]
def rightI (l : List Ev) (n c m : Nat) (tm : Nat → Value) (H : AH GD) : Prop := ∃ (i : Nat) (σ : Int → Option HA) (kk : Int → Nat × Nat) (es : List MapEntry) (cl : Nat), m + i = n ∧ RI l i σ kk es cl H ∧ tm 2 = .pointer (some ⟨1, 0, none⟩) ∧ tm 3 = .map (some 2) ∧ tm 11 = .slice (some ⟨0, 0, none⟩) n c ∧ tm 12 = .int .i64 n ∧ tm 13 = .int .i64 i
theorem right_start {l : List Ev} {H : AH GD} (g0 : H.get 0 = some (.ro (evs l))) (g1 : H.get 1 = some (.arr 4 [.bool false])) (g2 : H.get 2 = some (.map [] 0)) (n3 : 3 ≤ H.next) : RI l 0 noneS (fun _ => (0, 0)) [] 0 H where
  run := by simp [runF]
  g0 := g0
  g1 := g1
  g2 := g2
  n3 := n3
  find := fun n => rfl
  at1 := fun _ _ h => by cases h
  at2 := fun _ _ h => by cases h
  good := fun _ _ h => by cases h
  lt := fun _ _ h => by cases h
  ne := fun _ _ _ _ h => by cases h
set_option maxRecDepth 20000 in
set_option maxHeartbeats 64000000 in
theorem runs14 (l : List Ev) (n c : Nat) (hn : n ≤ l.length) (hs : n ≤ 1000) (hv : ∀ x ∈ l.take n, 0 ≤ x.v ∧ x.v < 18446744073709551616) : Runs Tryd.prog cfg 14 [.slice (some ⟨0, 0, none⟩) n c] (AH.of [some (.ro (evs l))])
    fun r H' => r = .ret (.bool (rightS (l.take n))) ∧ H' = AH.of [some (.ro (evs l))] := by
  refine Runs.ends ?_
  have hlen : (l.take n).length = n := by rw [List.length_take]; omega
  refine runs_by (tbl := tblRi) tblRi_ok 1001 3 (af := a14) rfl ?_
  rw [a14, b14, run_eq]
  refine ⟨by simp, ?_⟩
  by_cases h400 : 400 < n
  · have hr : rightS (l.take n) = false := by unfold rightS; rw [hlen]; simp; omega
    have h4' : (400 : Int) < n := by omega
    simp (implicitDefEqProofs := false) [h4', hr]
    refine ends_plan [] [0] ?_ ?_ ?_ <;> simp
  have h4' : ¬ (400 : Int) < n := by omega
  simp (implicitDefEqProofs := false) [h4']
  refine loop_inv (sg_mono gX_ok (tabS_ok tblRi_ok) _ _ noY noY_mono) (rightI l n c) (m := n) ⟨0, noneS, fun _ => (0, 0), [], 0, by omega, right_start (by simp) (by simp) (by simp) (by simp), ?_⟩ (by omega) ?_
  · simp
  rintro m tm H ⟨i, σ, kk, es, cl, hm, hI, t2, t3, t11, t12, t13⟩
  have g0 := hI.g0
  have g1 := hI.g1
  have g2 := hI.g2
  have n3 := hI.n3
  obtain ⟨N, hN⟩ : ∃ N, H.next = N := ⟨_, rfl⟩
  have z01 : (0 = N + 1) = False := eq_false (by omega)
  have z02 : (0 = N + 1 + 1) = False := eq_false (by omega)
  have z03 : (0 = N + 1 + 1 + 1) = False := eq_false (by omega)
  have z04 : (0 = N + 1 + 1 + 1 + 1) = False := eq_false (by omega)
  have z11 : (1 = N + 1) = False := eq_false (by omega)
  have z12 : (1 = N + 1 + 1) = False := eq_false (by omega)
  have z13 : (1 = N + 1 + 1 + 1) = False := eq_false (by omega)
  have z14 : (1 = N + 1 + 1 + 1 + 1) = False := eq_false (by omega)
  have x0 : (N = 0) = False := eq_false (by omega)
  have x1 : (N = 1) = False := eq_false (by omega)
  have x2 : (N = 2) = False := eq_false (by omega)
  have y0 : (0 = N) = False := eq_false (by omega)
  have y1 : (1 = N) = False := eq_false (by omega)
  have y2 : (2 = N) = False := eq_false (by omega)
  by_cases hi : i < n
  case neg =>
    have hie : i = n := by omega
    subst hie
    have hrun := hI.run
    have hr : rightS (l.take i) = true := by
      unfold rightS
      rw [hrun, hlen]
      simp; omega
    have hi' : ¬ (i : Int) < i := by omega
    simp (implicitDefEqProofs := false) [tblRi, forms28, a28, b28, t2, t3, t11, t12, t13, hi', AH.row, AH.get_upd, g0, g1, g2, hr]
    refine ends_first (o := .ro (evs l)) ?_ ?_ ?_ rfl ?_ <;> simp [AH.get_upd, g0]
  obtain ⟨x, hx⟩ : ∃ x, l[i]? = some x := ⟨l[i]'(by omega), List.getElem?_eq_getElem (by omega)⟩
  have hi' : (i : Int) < n := by omega
  have hwr := inc_i64 hi (by omega)
  have hroom := evs_room (show i < l.length by omega)
  have hmany := many_evs' hx
  have hxv := hv x (by
    have : (l.take n)[i]? = some x := by rw [List.getElem?_take, if_pos hi, hx]
    exact List.mem_of_getElem? this)
  by_cases hr1 : 0 ≤ x.a
  case neg =>
    have hw := hI.wrong hx hi (by unfold takeS; rw [if_neg (by omega)])
    simp (implicitDefEqProofs := false) [tblRi, dataSt, st46, st47, d59, d60, d61, d62, d49, forms29, a29, b29, forms44, a44, b44, forms45, a45, b45, forms48, a48, b48, forms28, a28, b28, t2, t3, t11, t12, t13, hi, hi', hwr, hroom, hmany, AH.row, AH.many, AH.mapAt, AH.get_add, AH.get_upd, g0, g1, g2, hN, z01, z02, z03, z04, z11, z12, z13, z14, y0, y1, y2, x0, x1, x2, hr1, hw, wrongV]
    refine ends_first (o := .ro (evs l)) ?_ ?_ ?_ rfl ?_ <;> simp [AH.get_add, AH.get_upd, g0, g1, g2, hN, z01, z02, z03, z04, z11, z12, z13, z14, y0, y1, y2, x0, x1, x2]
  by_cases hr2 : x.a < 64
  case neg =>
    have hw := hI.wrong hx hi (by unfold takeS; rw [if_neg (by omega)])
    have hr3 : 64 ≤ x.a := by omega
    simp (implicitDefEqProofs := false) [tblRi, dataSt, st46, st47, d59, d60, d61, d62, d49, forms29, a29, b29, forms44, a44, b44, forms45, a45, b45, forms48, a48, b48, forms28, a28, b28, t2, t3, t11, t12, t13, hi, hi', hwr, hroom, hmany, AH.row, AH.many, AH.mapAt, AH.get_add, AH.get_upd, g0, g1, g2, hN, z01, z02, z03, z04, z11, z12, z13, z14, y0, y1, y2, x0, x1, x2, hr1, hr2, hr3, hw, wrongV]
    refine ends_first (o := .ro (evs l)) ?_ ?_ ?_ rfl ?_ <;> simp [AH.get_add, AH.get_upd, g0, g1, g2, hN, z01, z02, z03, z04, z11, z12, z13, z14, y0, y1, y2, x0, x1, x2]
  have hfind := hI.find x.a
  cases hs : σ x.a with
  | none =>
    have hf : findIn false (.int .i64 x.a) es = some none := by rw [hfind, hs]; rfl
    have hput := fun v => putIn_new (v := v) (c := cl) hf
    by_cases k1 : x.k = 1
    · by_cases ht0 : x.t = 0
      · by_cases hv0 : x.v = 0
        · have ht : takeA none x = some ⟨false, false, [[]]⟩ := by simp [takeA, bareB, k1, ht0, hv0]
          simp (implicitDefEqProofs := false) [tblRi, dataSt, st46, st47, d59, d60, d61, d62, d49, forms29, a29, b29, forms44, a44, b44, forms45, a45, b45, forms48, a48, b48, forms28, a28, b28, t2, t3, t11, t12, t13, hi, hi', hwr, hroom, hmany, AH.row, AH.many, AH.mapAt, AH.get_add, AH.get_upd, g0, g1, g2, hN, z01, z02, z03, z04, z11, z12, z13, z14, y0, y1, y2, x0, x1, x2, hr1, hr2, hf, hput, k1, ht0, hv0]
          refine ⟨m - 1, by omega, i + 1, _, _, _, _, by omega, hI.new hx ⟨hr1, hr2⟩ hs ht (k1 := N + 1 + 1 + 1 + 1) (k2 := N + 1 + 1 + 1) ?_ ?_ ?_ ?_ ?_, ?_, ?_, ?_, ?_, ?_⟩
          · simp [hN]; try omega
          · simp [AH.get_add, AH.get_upd, g0, g1, g2, hN, z01, z02, z03, z04, z11, z12, z13, z14, y0, y1, y2, x0, x1, x2]
          · simp [AH.get_add, AH.get_upd, g0, g1, g2, hN, z01, z02, z03, z04, z11, z12, z13, z14, y0, y1, y2, x0, x1, x2]
          · simp [AH.get_add, AH.get_upd, g0, g1, g2, hN, z01, z02, z03, z04, z11, z12, z13, z14, y0, y1, y2, x0, x1, x2]
          · intro j j1 j2
            rw [hN] at j1
            have jN : (j = N) = False := eq_false (by omega)
            have jN1 : (j = N + 1) = False := eq_false (by omega)
            have jN2 : (j = N + 1 + 1) = False := eq_false (by omega)
            have jN3 : (j = N + 1 + 1 + 1) = False := eq_false (by omega)
            have jN4 : (j = N + 1 + 1 + 1 + 1) = False := eq_false (by omega)
            simp [AH.get_add, AH.get_upd, hN, jN, jN1, jN2, jN3, jN4, j2]
          all_goals simp [t2, t3, t11, t12]
        · skip
          have hw := hI.wrong hx hi (by simp [takeS, takeA, bareB, hr1, hr2, hs, k1, ht0, hv0])
          simp (implicitDefEqProofs := false) [tblRi, dataSt, st46, st47, d59, d60, d61, d62, d49, forms29, a29, b29, forms44, a44, b44, forms45, a45, b45, forms48, a48, b48, forms28, a28, b28, t2, t3, t11, t12, t13, hi, hi', hwr, hroom, hmany, AH.row, AH.many, AH.mapAt, AH.get_add, AH.get_upd, g0, g1, g2, hN, z01, z02, z03, z04, z11, z12, z13, z14, y0, y1, y2, x0, x1, x2, hr1, hr2, hf, k1, ht0, hv0, hw, wrongV]
          refine ends_first (o := .ro (evs l)) ?_ ?_ ?_ rfl ?_ <;> simp [AH.get_add, AH.get_upd, g0, g1, g2, hN, z01, z02, z03, z04, z11, z12, z13, z14, y0, y1, y2, x0, x1, x2]
      · skip
        have hw := hI.wrong hx hi (by simp [takeS, takeA, bareB, hr1, hr2, hs, k1, ht0])
        simp (implicitDefEqProofs := false) [tblRi, dataSt, st46, st47, d59, d60, d61, d62, d49, forms29, a29, b29, forms44, a44, b44, forms45, a45, b45, forms48, a48, b48, forms28, a28, b28, t2, t3, t11, t12, t13, hi, hi', hwr, hroom, hmany, AH.row, AH.many, AH.mapAt, AH.get_add, AH.get_upd, g0, g1, g2, hN, z01, z02, z03, z04, z11, z12, z13, z14, y0, y1, y2, x0, x1, x2, hr1, hr2, hf, k1, ht0, hw, wrongV]
        refine ends_first (o := .ro (evs l)) ?_ ?_ ?_ rfl ?_ <;> simp [AH.get_add, AH.get_upd, g0, g1, g2, hN, z01, z02, z03, z04, z11, z12, z13, z14, y0, y1, y2, x0, x1, x2]
    · skip
      have hw := hI.wrong hx hi (by simp [takeS, takeA, bareB, hr1, hr2, hs, k1])
      simp (implicitDefEqProofs := false) [tblRi, dataSt, st46, st47, d59, d60, d61, d62, d49, forms29, a29, b29, forms44, a44, b44, forms45, a45, b45, forms48, a48, b48, forms28, a28, b28, t2, t3, t11, t12, t13, hi, hi', hwr, hroom, hmany, AH.row, AH.many, AH.mapAt, AH.get_add, AH.get_upd, g0, g1, g2, hN, z01, z02, z03, z04, z11, z12, z13, z14, y0, y1, y2, x0, x1, x2, hr1, hr2, hf, k1, hw, wrongV]
      refine ends_first (o := .ro (evs l)) ?_ ?_ ?_ rfl ?_ <;> simp [AH.get_add, AH.get_upd, g0, g1, g2, hN, z01, z02, z03, z04, z11, z12, z13, z14, y0, y1, y2, x0, x1, x2]
  | some a =>
    obtain ⟨k1', q1⟩ : ∃ k, (kk x.a).1 = k := ⟨_, rfl⟩
    obtain ⟨k2', q2⟩ : ∃ k, (kk x.a).2 = k := ⟨_, rfl⟩
    have hf : findIn false (.int .i64 x.a) es = some (some (.pointer (some ⟨k1', 0, none⟩))) := by rw [hfind, hs, ← q1]; rfl
    have at1 := hI.at1 _ _ hs
    have at2 := hI.at2 _ _ hs
    have hgood := hI.good _ _ hs
    have hlt := hI.lt _ _ hs
    have hne := (hI.ne _ _ _ _ hs hs).1
    rw [q1, q2] at at1 hlt hne
    rw [q2] at at2
    rw [hN] at hlt
    have k1N : (k1' = N) = False := eq_false (by omega)
    have k1N1 : (k1' = N + 1) = False := eq_false (by omega)
    have k1N2 : (k1' = N + 1 + 1) = False := eq_false (by omega)
    have k1N3 : (k1' = N + 1 + 1 + 1) = False := eq_false (by omega)
    have k1N4 : (k1' = N + 1 + 1 + 1 + 1) = False := eq_false (by omega)
    have k2N : (k2' = N) = False := eq_false (by omega)
    have k2N1 : (k2' = N + 1) = False := eq_false (by omega)
    have k2N2 : (k2' = N + 1 + 1) = False := eq_false (by omega)
    have k2N3 : (k2' = N + 1 + 1 + 1) = False := eq_false (by omega)
    have k2N4 : (k2' = N + 1 + 1 + 1 + 1) = False := eq_false (by omega)
    have k12 : (k1' = k2') = False := eq_false hne
    have k21 : (k2' = k1') = False := eq_false (fun h => hne h.symm)
    have k10 : (k1' = 0) = False := eq_false (by omega)
    have k20 : (k2' = 0) = False := eq_false (by omega)
    have k11 : (k1' = 1) = False := eq_false (by omega)
    have k22 : (k2' = 1) = False := eq_false (by omega)
    have k01 : (0 = k1') = False := eq_false (by omega)
    have k02 : (0 = k2') = False := eq_false (by omega)
    have k31 : (1 = k1') = False := eq_false (by omega)
    have k32 : (1 = k2') = False := eq_false (by omega)
    obtain ⟨tr, en, fs⟩ := a
    simp only at at1 at2 hgood
    obtain ⟨f, r, rfl⟩ : ∃ f r, fs = f :: r := by
      cases fs with
      | nil => exact absurd rfl hgood.1
      | cons f r => exact ⟨f, r, rfl⟩
    have hr100 : r.length ≤ 100 := by have := hgood.2.1; simp at this; omega
    by_cases k1 : x.k = 1
    · skip
      have hw := hI.wrong hx hi (by simp [takeS, takeA, bareB, actS, hr1, hr2, hs, k1])
      simp (implicitDefEqProofs := false) [tblRi, dataSt, st46, st47, d59, d60, d61, d62, d49, forms29, a29, b29, forms44, a44, b44, forms45, a45, b45, forms48, a48, b48, forms28, a28, b28, t2, t3, t11, t12, t13, hi, hi', hwr, hroom, hmany, AH.row, AH.many, AH.mapAt, AH.get_add, AH.get_upd, g0, g1, g2, hN, z01, z02, z03, z04, z11, z12, z13, z14, y0, y1, y2, x0, x1, x2, hr1, hr2, hf, at1, at2, k1N, k1N1, k1N2, k1N3, k1N4, k2N, k2N1, k2N2, k2N3, k2N4, k12, k21, k10, k20, k01, k02, k11, k22, k31, k32, k1, hw, wrongV]
      refine ends_first (o := .ro (evs l)) ?_ ?_ ?_ rfl ?_ <;> simp [AH.get_add, AH.get_upd, g0, g1, g2, hN, z01, z02, z03, z04, z11, z12, z13, z14, y0, y1, y2, x0, x1, x2, hf, at1, at2, k1N, k1N1, k1N2, k1N3, k1N4, k2N, k2N1, k2N2, k2N3, k2N4, k12, k21, k10, k20, k01, k02, k11, k22, k31, k32]
    cases en with
    | true =>
      have hw := hI.wrong hx hi (by simp [takeS, takeA, bareB, actS, hr1, hr2, hs, k1])
      simp (implicitDefEqProofs := false) [tblRi, dataSt, st46, st47, d59, d60, d61, d62, d49, forms29, a29, b29, forms44, a44, b44, forms45, a45, b45, forms48, a48, b48, forms28, a28, b28, t2, t3, t11, t12, t13, hi, hi', hwr, hroom, hmany, AH.row, AH.many, AH.mapAt, AH.get_add, AH.get_upd, g0, g1, g2, hN, z01, z02, z03, z04, z11, z12, z13, z14, y0, y1, y2, x0, x1, x2, hr1, hr2, hf, at1, at2, k1N, k1N1, k1N2, k1N3, k1N4, k2N, k2N1, k2N2, k2N3, k2N4, k12, k21, k10, k20, k01, k02, k11, k22, k31, k32, k1, hw, wrongV]
      refine ends_first (o := .ro (evs l)) ?_ ?_ ?_ rfl ?_ <;> simp [AH.get_add, AH.get_upd, g0, g1, g2, hN, z01, z02, z03, z04, z11, z12, z13, z14, y0, y1, y2, x0, x1, x2, hf, at1, at2, k1N, k1N1, k1N2, k1N3, k1N4, k2N, k2N1, k2N2, k2N3, k2N4, k12, k21, k10, k20, k01, k02, k11, k22, k31, k32]
    | false =>
      by_cases k8 : x.k = 8
      · cases tr with
        | false =>
          have hw := hI.wrong hx hi (by simp [takeS, takeA, bareB, actS, hr1, hr2, hs, k8])
          simp (implicitDefEqProofs := false) [tblRi, dataSt, st46, st47, d59, d60, d61, d62, d49, forms29, a29, b29, forms44, a44, b44, forms45, a45, b45, forms48, a48, b48, forms28, a28, b28, t2, t3, t11, t12, t13, hi, hi', hwr, hroom, hmany, AH.row, AH.many, AH.mapAt, AH.get_add, AH.get_upd, g0, g1, g2, hN, z01, z02, z03, z04, z11, z12, z13, z14, y0, y1, y2, x0, x1, x2, hr1, hr2, hf, at1, at2, k1N, k1N1, k1N2, k1N3, k1N4, k2N, k2N1, k2N2, k2N3, k2N4, k12, k21, k10, k20, k01, k02, k11, k22, k31, k32, k8, hw, wrongV]
          refine ends_first (o := .ro (evs l)) ?_ ?_ ?_ rfl ?_ <;> simp [AH.get_add, AH.get_upd, g0, g1, g2, hN, z01, z02, z03, z04, z11, z12, z13, z14, y0, y1, y2, x0, x1, x2, hf, at1, at2, k1N, k1N1, k1N2, k1N3, k1N4, k2N, k2N1, k2N2, k2N3, k2N4, k12, k21, k10, k20, k01, k02, k11, k22, k31, k32]
        | true =>
          by_cases ht0 : x.t = 0
          · by_cases hv0 : x.v = 0
            · skip
              have ht : takeA (some ⟨true, false, f :: r⟩) x = some ⟨true, true, f :: r⟩ := by simp [takeA, bareB, actS, k8, ht0, hv0]
              simp (implicitDefEqProofs := false) [tblRi, dataSt, st46, st47, d59, d60, d61, d62, d49, forms29, a29, b29, forms44, a44, b44, forms45, a45, b45, forms48, a48, b48, forms28, a28, b28, t2, t3, t11, t12, t13, hi, hi', hwr, hroom, hmany, AH.row, AH.many, AH.mapAt, AH.get_add, AH.get_upd, g0, g1, g2, hN, z01, z02, z03, z04, z11, z12, z13, z14, y0, y1, y2, x0, x1, x2, hr1, hr2, hf, at1, at2, k1N, k1N1, k1N2, k1N3, k1N4, k2N, k2N1, k2N2, k2N3, k2N4, k12, k21, k10, k20, k01, k02, k11, k22, k31, k32, k8, ht0, hv0]
              refine ⟨m - 1, by omega, i + 1, _, kk, es, cl, by omega, hI.upd hx ⟨hr1, hr2⟩ hs ht hgood ?_ ?_ ?_ ?_, ?_, ?_, ?_, ?_, ?_⟩
              · simp [hN]; try omega
              · rw [q1, q2]; simp [AH.get_add, AH.get_upd, g0, g1, g2, hN, z01, z02, z03, z04, z11, z12, z13, z14, y0, y1, y2, x0, x1, x2, hf, at1, at2, k1N, k1N1, k1N2, k1N3, k1N4, k2N, k2N1, k2N2, k2N3, k2N4, k12, k21, k10, k20, k01, k02, k11, k22, k31, k32, k8, ht0, hv0]
              · rw [q2]; simp [AH.get_add, AH.get_upd, g0, g1, g2, hN, z01, z02, z03, z04, z11, z12, z13, z14, y0, y1, y2, x0, x1, x2, hf, at1, at2, k1N, k1N1, k1N2, k1N3, k1N4, k2N, k2N1, k2N2, k2N3, k2N4, k12, k21, k10, k20, k01, k02, k11, k22, k31, k32, k8, ht0, hv0]
              · rw [q1, q2]; intro j j1 j2 j3
                rw [hN] at j1
                have jN : (j = N) = False := eq_false (by omega)
                have jN1 : (j = N + 1) = False := eq_false (by omega)
                have jN2 : (j = N + 1 + 1) = False := eq_false (by omega)
                have jN3 : (j = N + 1 + 1 + 1) = False := eq_false (by omega)
                have jN4 : (j = N + 1 + 1 + 1 + 1) = False := eq_false (by omega)
                simp [AH.get_add, AH.get_upd, hN, jN, jN1, jN2, jN3, jN4, j2, j3]
              all_goals simp [t2, t3, t11, t12]
            · skip
              have hw := hI.wrong hx hi (by simp [takeS, takeA, bareB, actS, hr1, hr2, hs, k8, ht0, hv0])
              simp (implicitDefEqProofs := false) [tblRi, dataSt, st46, st47, d59, d60, d61, d62, d49, forms29, a29, b29, forms44, a44, b44, forms45, a45, b45, forms48, a48, b48, forms28, a28, b28, t2, t3, t11, t12, t13, hi, hi', hwr, hroom, hmany, AH.row, AH.many, AH.mapAt, AH.get_add, AH.get_upd, g0, g1, g2, hN, z01, z02, z03, z04, z11, z12, z13, z14, y0, y1, y2, x0, x1, x2, hr1, hr2, hf, at1, at2, k1N, k1N1, k1N2, k1N3, k1N4, k2N, k2N1, k2N2, k2N3, k2N4, k12, k21, k10, k20, k01, k02, k11, k22, k31, k32, k8, ht0, hv0, hw, wrongV]
              refine ends_first (o := .ro (evs l)) ?_ ?_ ?_ rfl ?_ <;> simp [AH.get_add, AH.get_upd, g0, g1, g2, hN, z01, z02, z03, z04, z11, z12, z13, z14, y0, y1, y2, x0, x1, x2, hf, at1, at2, k1N, k1N1, k1N2, k1N3, k1N4, k2N, k2N1, k2N2, k2N3, k2N4, k12, k21, k10, k20, k01, k02, k11, k22, k31, k32]
          · skip
            have hw := hI.wrong hx hi (by simp [takeS, takeA, bareB, actS, hr1, hr2, hs, k8, ht0])
            simp (implicitDefEqProofs := false) [tblRi, dataSt, st46, st47, d59, d60, d61, d62, d49, forms29, a29, b29, forms44, a44, b44, forms45, a45, b45, forms48, a48, b48, forms28, a28, b28, t2, t3, t11, t12, t13, hi, hi', hwr, hroom, hmany, AH.row, AH.many, AH.mapAt, AH.get_add, AH.get_upd, g0, g1, g2, hN, z01, z02, z03, z04, z11, z12, z13, z14, y0, y1, y2, x0, x1, x2, hr1, hr2, hf, at1, at2, k1N, k1N1, k1N2, k1N3, k1N4, k2N, k2N1, k2N2, k2N3, k2N4, k12, k21, k10, k20, k01, k02, k11, k22, k31, k32, k8, ht0, hw, wrongV]
            refine ends_first (o := .ro (evs l)) ?_ ?_ ?_ rfl ?_ <;> simp [AH.get_add, AH.get_upd, g0, g1, g2, hN, z01, z02, z03, z04, z11, z12, z13, z14, y0, y1, y2, x0, x1, x2, hf, at1, at2, k1N, k1N1, k1N2, k1N3, k1N4, k2N, k2N1, k2N2, k2N3, k2N4, k12, k21, k10, k20, k01, k02, k11, k22, k31, k32]
      by_cases k9 : x.k = 9
      · skip
        by_cases ht0 : x.t = 0
        · by_cases hv0 : x.v = 0
          · skip
            have ht : takeA (some ⟨tr, false, f :: r⟩) x = some ⟨tr, true, f :: r⟩ := by simp [takeA, bareB, actS, k9, ht0, hv0]
            simp (implicitDefEqProofs := false) [tblRi, dataSt, st46, st47, d59, d60, d61, d62, d49, forms29, a29, b29, forms44, a44, b44, forms45, a45, b45, forms48, a48, b48, forms28, a28, b28, t2, t3, t11, t12, t13, hi, hi', hwr, hroom, hmany, AH.row, AH.many, AH.mapAt, AH.get_add, AH.get_upd, g0, g1, g2, hN, z01, z02, z03, z04, z11, z12, z13, z14, y0, y1, y2, x0, x1, x2, hr1, hr2, hf, at1, at2, k1N, k1N1, k1N2, k1N3, k1N4, k2N, k2N1, k2N2, k2N3, k2N4, k12, k21, k10, k20, k01, k02, k11, k22, k31, k32, k9, ht0, hv0]
            refine ⟨m - 1, by omega, i + 1, _, kk, es, cl, by omega, hI.upd hx ⟨hr1, hr2⟩ hs ht hgood ?_ ?_ ?_ ?_, ?_, ?_, ?_, ?_, ?_⟩
            · simp [hN]; try omega
            · rw [q1, q2]; simp [AH.get_add, AH.get_upd, g0, g1, g2, hN, z01, z02, z03, z04, z11, z12, z13, z14, y0, y1, y2, x0, x1, x2, hf, at1, at2, k1N, k1N1, k1N2, k1N3, k1N4, k2N, k2N1, k2N2, k2N3, k2N4, k12, k21, k10, k20, k01, k02, k11, k22, k31, k32, k9, ht0, hv0]
            · rw [q2]; simp [AH.get_add, AH.get_upd, g0, g1, g2, hN, z01, z02, z03, z04, z11, z12, z13, z14, y0, y1, y2, x0, x1, x2, hf, at1, at2, k1N, k1N1, k1N2, k1N3, k1N4, k2N, k2N1, k2N2, k2N3, k2N4, k12, k21, k10, k20, k01, k02, k11, k22, k31, k32, k9, ht0, hv0]
            · rw [q1, q2]; intro j j1 j2 j3
              rw [hN] at j1
              have jN : (j = N) = False := eq_false (by omega)
              have jN1 : (j = N + 1) = False := eq_false (by omega)
              have jN2 : (j = N + 1 + 1) = False := eq_false (by omega)
              have jN3 : (j = N + 1 + 1 + 1) = False := eq_false (by omega)
              have jN4 : (j = N + 1 + 1 + 1 + 1) = False := eq_false (by omega)
              simp [AH.get_add, AH.get_upd, hN, jN, jN1, jN2, jN3, jN4, j2, j3]
            all_goals simp [t2, t3, t11, t12]
          · skip
            have hw := hI.wrong hx hi (by simp [takeS, takeA, bareB, actS, hr1, hr2, hs, k9, ht0, hv0])
            simp (implicitDefEqProofs := false) [tblRi, dataSt, st46, st47, d59, d60, d61, d62, d49, forms29, a29, b29, forms44, a44, b44, forms45, a45, b45, forms48, a48, b48, forms28, a28, b28, t2, t3, t11, t12, t13, hi, hi', hwr, hroom, hmany, AH.row, AH.many, AH.mapAt, AH.get_add, AH.get_upd, g0, g1, g2, hN, z01, z02, z03, z04, z11, z12, z13, z14, y0, y1, y2, x0, x1, x2, hr1, hr2, hf, at1, at2, k1N, k1N1, k1N2, k1N3, k1N4, k2N, k2N1, k2N2, k2N3, k2N4, k12, k21, k10, k20, k01, k02, k11, k22, k31, k32, k9, ht0, hv0, hw, wrongV]
            refine ends_first (o := .ro (evs l)) ?_ ?_ ?_ rfl ?_ <;> simp [AH.get_add, AH.get_upd, g0, g1, g2, hN, z01, z02, z03, z04, z11, z12, z13, z14, y0, y1, y2, x0, x1, x2, hf, at1, at2, k1N, k1N1, k1N2, k1N3, k1N4, k2N, k2N1, k2N2, k2N3, k2N4, k12, k21, k10, k20, k01, k02, k11, k22, k31, k32]
        · skip
          have hw := hI.wrong hx hi (by simp [takeS, takeA, bareB, actS, hr1, hr2, hs, k9, ht0])
          simp (implicitDefEqProofs := false) [tblRi, dataSt, st46, st47, d59, d60, d61, d62, d49, forms29, a29, b29, forms44, a44, b44, forms45, a45, b45, forms48, a48, b48, forms28, a28, b28, t2, t3, t11, t12, t13, hi, hi', hwr, hroom, hmany, AH.row, AH.many, AH.mapAt, AH.get_add, AH.get_upd, g0, g1, g2, hN, z01, z02, z03, z04, z11, z12, z13, z14, y0, y1, y2, x0, x1, x2, hr1, hr2, hf, at1, at2, k1N, k1N1, k1N2, k1N3, k1N4, k2N, k2N1, k2N2, k2N3, k2N4, k12, k21, k10, k20, k01, k02, k11, k22, k31, k32, k9, ht0, hw, wrongV]
          refine ends_first (o := .ro (evs l)) ?_ ?_ ?_ rfl ?_ <;> simp [AH.get_add, AH.get_upd, g0, g1, g2, hN, z01, z02, z03, z04, z11, z12, z13, z14, y0, y1, y2, x0, x1, x2, hf, at1, at2, k1N, k1N1, k1N2, k1N3, k1N4, k2N, k2N1, k2N2, k2N3, k2N4, k12, k21, k10, k20, k01, k02, k11, k22, k31, k32]
      cases tr with
      | true =>
        have hw := hI.wrong hx hi (by simp [takeS, takeA, bareB, actS, hr1, hr2, hs, k1, k8, k9])
        simp (implicitDefEqProofs := false) [tblRi, dataSt, st46, st47, d59, d60, d61, d62, d49, forms29, a29, b29, forms44, a44, b44, forms45, a45, b45, forms48, a48, b48, forms28, a28, b28, t2, t3, t11, t12, t13, hi, hi', hwr, hroom, hmany, AH.row, AH.many, AH.mapAt, AH.get_add, AH.get_upd, g0, g1, g2, hN, z01, z02, z03, z04, z11, z12, z13, z14, y0, y1, y2, x0, x1, x2, hr1, hr2, hf, at1, at2, k1N, k1N1, k1N2, k1N3, k1N4, k2N, k2N1, k2N2, k2N3, k2N4, k12, k21, k10, k20, k01, k02, k11, k22, k31, k32, k1, k8, k9, hw, wrongV]
        refine ends_first (o := .ro (evs l)) ?_ ?_ ?_ rfl ?_ <;> simp [AH.get_add, AH.get_upd, g0, g1, g2, hN, z01, z02, z03, z04, z11, z12, z13, z14, y0, y1, y2, x0, x1, x2, hf, at1, at2, k1N, k1N1, k1N2, k1N3, k1N4, k2N, k2N1, k2N2, k2N3, k2N4, k12, k21, k10, k20, k01, k02, k11, k22, k31, k32]
      | false =>
        by_cases k2 : x.k = 2
        · by_cases ht1 : 0 ≤ x.t
          · by_cases ht2 : x.t < 12
            · cases hrb : rightB x.v with
              | true =>
                have ht : takeA (some ⟨false, false, f :: r⟩) x = some ⟨false, false, f :: r⟩ := by simp [takeA, bareB, actS, k2, ht1, ht2, hrb]
                simp (implicitDefEqProofs := false) [tblRi, dataSt, st46, st47, d59, d60, d61, d62, d49, forms29, a29, b29, forms44, a44, b44, forms45, a45, b45, forms48, a48, b48, forms28, a28, b28, t2, t3, t11, t12, t13, hi, hi', hwr, hroom, hmany, AH.row, AH.many, AH.mapAt, AH.get_add, AH.get_upd, g0, g1, g2, hN, z01, z02, z03, z04, z11, z12, z13, z14, y0, y1, y2, x0, x1, x2, hr1, hr2, hf, at1, at2, k1N, k1N1, k1N2, k1N3, k1N4, k2N, k2N1, k2N2, k2N3, k2N4, k12, k21, k10, k20, k01, k02, k11, k22, k31, k32, k2, ht1, ht2, hrb]
                refine ⟨m - 1, by omega, i + 1, _, kk, es, cl, by omega, hI.upd hx ⟨hr1, hr2⟩ hs ht hgood ?_ ?_ ?_ ?_, ?_, ?_, ?_, ?_, ?_⟩
                · simp [hN]; try omega
                · rw [q1, q2]; simp [AH.get_add, AH.get_upd, g0, g1, g2, hN, z01, z02, z03, z04, z11, z12, z13, z14, y0, y1, y2, x0, x1, x2, hf, at1, at2, k1N, k1N1, k1N2, k1N3, k1N4, k2N, k2N1, k2N2, k2N3, k2N4, k12, k21, k10, k20, k01, k02, k11, k22, k31, k32, k2, ht1, ht2, hrb]
                · rw [q2]; simp [AH.get_add, AH.get_upd, g0, g1, g2, hN, z01, z02, z03, z04, z11, z12, z13, z14, y0, y1, y2, x0, x1, x2, hf, at1, at2, k1N, k1N1, k1N2, k1N3, k1N4, k2N, k2N1, k2N2, k2N3, k2N4, k12, k21, k10, k20, k01, k02, k11, k22, k31, k32, k2, ht1, ht2, hrb]
                · rw [q1, q2]; intro j j1 j2 j3
                  rw [hN] at j1
                  have jN : (j = N) = False := eq_false (by omega)
                  have jN1 : (j = N + 1) = False := eq_false (by omega)
                  have jN2 : (j = N + 1 + 1) = False := eq_false (by omega)
                  have jN3 : (j = N + 1 + 1 + 1) = False := eq_false (by omega)
                  have jN4 : (j = N + 1 + 1 + 1 + 1) = False := eq_false (by omega)
                  simp [AH.get_add, AH.get_upd, hN, jN, jN1, jN2, jN3, jN4, j2, j3]
                all_goals simp [t2, t3, t11, t12]
              | false =>
                have hw := hI.wrong hx hi (by simp [takeS, takeA, bareB, actS, hr1, hr2, hs, k2, ht1, ht2, hrb])
                simp (implicitDefEqProofs := false) [tblRi, dataSt, st46, st47, d59, d60, d61, d62, d49, forms29, a29, b29, forms44, a44, b44, forms45, a45, b45, forms48, a48, b48, forms28, a28, b28, t2, t3, t11, t12, t13, hi, hi', hwr, hroom, hmany, AH.row, AH.many, AH.mapAt, AH.get_add, AH.get_upd, g0, g1, g2, hN, z01, z02, z03, z04, z11, z12, z13, z14, y0, y1, y2, x0, x1, x2, hr1, hr2, hf, at1, at2, k1N, k1N1, k1N2, k1N3, k1N4, k2N, k2N1, k2N2, k2N3, k2N4, k12, k21, k10, k20, k01, k02, k11, k22, k31, k32, k2, ht1, ht2, hrb, hw, wrongV]
                refine ends_first (o := .ro (evs l)) ?_ ?_ ?_ rfl ?_ <;> simp [AH.get_add, AH.get_upd, g0, g1, g2, hN, z01, z02, z03, z04, z11, z12, z13, z14, y0, y1, y2, x0, x1, x2, hf, at1, at2, k1N, k1N1, k1N2, k1N3, k1N4, k2N, k2N1, k2N2, k2N3, k2N4, k12, k21, k10, k20, k01, k02, k11, k22, k31, k32]
            · skip
              have hw := hI.wrong hx hi (by simp [takeS, takeA, bareB, actS, hr1, hr2, hs, k2, ht1, ht2])
              simp (implicitDefEqProofs := false) [tblRi, dataSt, st46, st47, d59, d60, d61, d62, d49, forms29, a29, b29, forms44, a44, b44, forms45, a45, b45, forms48, a48, b48, forms28, a28, b28, t2, t3, t11, t12, t13, hi, hi', hwr, hroom, hmany, AH.row, AH.many, AH.mapAt, AH.get_add, AH.get_upd, g0, g1, g2, hN, z01, z02, z03, z04, z11, z12, z13, z14, y0, y1, y2, x0, x1, x2, hr1, hr2, hf, at1, at2, k1N, k1N1, k1N2, k1N3, k1N4, k2N, k2N1, k2N2, k2N3, k2N4, k12, k21, k10, k20, k01, k02, k11, k22, k31, k32, k2, ht1, ht2, hw, wrongV]
              refine ends_first (o := .ro (evs l)) ?_ ?_ ?_ rfl ?_ <;> simp [AH.get_add, AH.get_upd, g0, g1, g2, hN, z01, z02, z03, z04, z11, z12, z13, z14, y0, y1, y2, x0, x1, x2, hf, at1, at2, k1N, k1N1, k1N2, k1N3, k1N4, k2N, k2N1, k2N2, k2N3, k2N4, k12, k21, k10, k20, k01, k02, k11, k22, k31, k32]
          · skip
            have hw := hI.wrong hx hi (by simp [takeS, takeA, bareB, actS, hr1, hr2, hs, k2, ht1])
            simp (implicitDefEqProofs := false) [tblRi, dataSt, st46, st47, d59, d60, d61, d62, d49, forms29, a29, b29, forms44, a44, b44, forms45, a45, b45, forms48, a48, b48, forms28, a28, b28, t2, t3, t11, t12, t13, hi, hi', hwr, hroom, hmany, AH.row, AH.many, AH.mapAt, AH.get_add, AH.get_upd, g0, g1, g2, hN, z01, z02, z03, z04, z11, z12, z13, z14, y0, y1, y2, x0, x1, x2, hr1, hr2, hf, at1, at2, k1N, k1N1, k1N2, k1N3, k1N4, k2N, k2N1, k2N2, k2N3, k2N4, k12, k21, k10, k20, k01, k02, k11, k22, k31, k32, k2, ht1, hw, wrongV]
            refine ends_first (o := .ro (evs l)) ?_ ?_ ?_ rfl ?_ <;> simp [AH.get_add, AH.get_upd, g0, g1, g2, hN, z01, z02, z03, z04, z11, z12, z13, z14, y0, y1, y2, x0, x1, x2, hf, at1, at2, k1N, k1N1, k1N2, k1N3, k1N4, k2N, k2N1, k2N2, k2N3, k2N4, k12, k21, k10, k20, k01, k02, k11, k22, k31, k32]
        by_cases k3 : x.k = 3
        · obtain ⟨pc, hpc⟩ : ∃ pc, putCode f r x.t x.v = pc := ⟨_, rfl⟩
          by_cases hp0 : pc = 0
          · subst hp0
            have ht : takeA (some ⟨false, false, f :: r⟩) x = some ⟨false, false, putF f ⟨x.t, x.v⟩ :: r⟩ := by simp [takeA, bareB, actS, k3, hpc]
            simp (implicitDefEqProofs := false) [tblRi, dataSt, st46, st47, d59, d60, d61, d62, d49, forms29, a29, b29, forms44, a44, b44, forms45, a45, b45, forms48, a48, b48, forms28, a28, b28, t2, t3, t11, t12, t13, hi, hi', hwr, hroom, hmany, AH.row, AH.many, AH.mapAt, AH.get_add, AH.get_upd, g0, g1, g2, hN, z01, z02, z03, z04, z11, z12, z13, z14, y0, y1, y2, x0, x1, x2, hr1, hr2, hf, at1, at2, k1N, k1N1, k1N2, k1N3, k1N4, k2N, k2N1, k2N2, k2N3, k2N4, k12, k21, k10, k20, k01, k02, k11, k22, k31, k32, k3, hgood, hxv, hpc]
            refine ⟨m - 1, by omega, i + 1, _, kk, es, cl, by omega, hI.upd hx ⟨hr1, hr2⟩ hs ht (put_good hgood hpc) ?_ ?_ ?_ ?_, ?_, ?_, ?_, ?_, ?_⟩
            · simp [hN]; try omega
            · rw [q1, q2]; simp [AH.get_add, AH.get_upd, g0, g1, g2, hN, z01, z02, z03, z04, z11, z12, z13, z14, y0, y1, y2, x0, x1, x2, hf, at1, at2, k1N, k1N1, k1N2, k1N3, k1N4, k2N, k2N1, k2N2, k2N3, k2N4, k12, k21, k10, k20, k01, k02, k11, k22, k31, k32, k3, hpc]
            · rw [q2]; simp [AH.get_add, AH.get_upd, g0, g1, g2, hN, z01, z02, z03, z04, z11, z12, z13, z14, y0, y1, y2, x0, x1, x2, hf, at1, at2, k1N, k1N1, k1N2, k1N3, k1N4, k2N, k2N1, k2N2, k2N3, k2N4, k12, k21, k10, k20, k01, k02, k11, k22, k31, k32, k3, hpc]
            · rw [q1, q2]; intro j j1 j2 j3
              rw [hN] at j1
              have jN : (j = N) = False := eq_false (by omega)
              have jN1 : (j = N + 1) = False := eq_false (by omega)
              have jN2 : (j = N + 1 + 1) = False := eq_false (by omega)
              have jN3 : (j = N + 1 + 1 + 1) = False := eq_false (by omega)
              have jN4 : (j = N + 1 + 1 + 1 + 1) = False := eq_false (by omega)
              simp [AH.get_add, AH.get_upd, hN, jN, jN1, jN2, jN3, jN4, j2, j3]
            all_goals simp [t2, t3, t11, t12]
          · skip
            have hw := hI.wrong hx hi (by simp [takeS, takeA, bareB, actS, hr1, hr2, hs, k3, hpc, hp0])
            simp (implicitDefEqProofs := false) [tblRi, dataSt, st46, st47, d59, d60, d61, d62, d49, forms29, a29, b29, forms44, a44, b44, forms45, a45, b45, forms48, a48, b48, forms28, a28, b28, t2, t3, t11, t12, t13, hi, hi', hwr, hroom, hmany, AH.row, AH.many, AH.mapAt, AH.get_add, AH.get_upd, g0, g1, g2, hN, z01, z02, z03, z04, z11, z12, z13, z14, y0, y1, y2, x0, x1, x2, hr1, hr2, hf, at1, at2, k1N, k1N1, k1N2, k1N3, k1N4, k2N, k2N1, k2N2, k2N3, k2N4, k12, k21, k10, k20, k01, k02, k11, k22, k31, k32, k3, hgood, hxv, hpc, hp0, hw, wrongV]
            refine ends_first (o := .ro (evs l)) ?_ ?_ ?_ rfl ?_ <;> simp [AH.get_add, AH.get_upd, g0, g1, g2, hN, z01, z02, z03, z04, z11, z12, z13, z14, y0, y1, y2, x0, x1, x2, hf, at1, at2, k1N, k1N1, k1N2, k1N3, k1N4, k2N, k2N1, k2N2, k2N3, k2N4, k12, k21, k10, k20, k01, k02, k11, k22, k31, k32]
        by_cases k4 : x.k = 4
        · skip
          by_cases ht0 : x.t = 0
          · by_cases hv0 : x.v = 0
            · skip
              by_cases h4 : 4 ≤ r.length
              · skip
                have hw := hI.wrong hx hi (by simp [takeS, takeA, bareB, actS, hr1, hr2, hs, k4, ht0, hv0, h4])
                simp (implicitDefEqProofs := false) [tblRi, dataSt, st46, st47, d59, d60, d61, d62, d49, forms29, a29, b29, forms44, a44, b44, forms45, a45, b45, forms48, a48, b48, forms28, a28, b28, t2, t3, t11, t12, t13, hi, hi', hwr, hroom, hmany, AH.row, AH.many, AH.mapAt, AH.get_add, AH.get_upd, g0, g1, g2, hN, z01, z02, z03, z04, z11, z12, z13, z14, y0, y1, y2, x0, x1, x2, hr1, hr2, hf, at1, at2, k1N, k1N1, k1N2, k1N3, k1N4, k2N, k2N1, k2N2, k2N3, k2N4, k12, k21, k10, k20, k01, k02, k11, k22, k31, k32, k4, ht0, hv0, h4, hr100, hw, wrongV]
                refine ends_first (o := .ro (evs l)) ?_ ?_ ?_ rfl ?_ <;> simp [AH.get_add, AH.get_upd, g0, g1, g2, hN, z01, z02, z03, z04, z11, z12, z13, z14, y0, y1, y2, x0, x1, x2, hf, at1, at2, k1N, k1N1, k1N2, k1N3, k1N4, k2N, k2N1, k2N2, k2N3, k2N4, k12, k21, k10, k20, k01, k02, k11, k22, k31, k32]
              · skip
                have ht : takeA (some ⟨false, false, f :: r⟩) x = some ⟨false, false, [] :: f :: r⟩ := by simp [takeA, bareB, actS, k4, ht0, hv0, h4]
                simp (implicitDefEqProofs := false) [tblRi, dataSt, st46, st47, d59, d60, d61, d62, d49, forms29, a29, b29, forms44, a44, b44, forms45, a45, b45, forms48, a48, b48, forms28, a28, b28, t2, t3, t11, t12, t13, hi, hi', hwr, hroom, hmany, AH.row, AH.many, AH.mapAt, AH.get_add, AH.get_upd, g0, g1, g2, hN, z01, z02, z03, z04, z11, z12, z13, z14, y0, y1, y2, x0, x1, x2, hr1, hr2, hf, at1, at2, k1N, k1N1, k1N2, k1N3, k1N4, k2N, k2N1, k2N2, k2N3, k2N4, k12, k21, k10, k20, k01, k02, k11, k22, k31, k32, k4, ht0, hv0, h4, hr100]
                refine ⟨m - 1, by omega, i + 1, _, kk, es, cl, by omega, hI.upd hx ⟨hr1, hr2⟩ hs ht (push_good hgood (by simp; omega)) ?_ ?_ ?_ ?_, ?_, ?_, ?_, ?_, ?_⟩
                · simp [hN]; try omega
                · rw [q1, q2]; simp [AH.get_add, AH.get_upd, g0, g1, g2, hN, z01, z02, z03, z04, z11, z12, z13, z14, y0, y1, y2, x0, x1, x2, hf, at1, at2, k1N, k1N1, k1N2, k1N3, k1N4, k2N, k2N1, k2N2, k2N3, k2N4, k12, k21, k10, k20, k01, k02, k11, k22, k31, k32, k4, ht0, hv0, h4]
                · rw [q2]; simp [AH.get_add, AH.get_upd, g0, g1, g2, hN, z01, z02, z03, z04, z11, z12, z13, z14, y0, y1, y2, x0, x1, x2, hf, at1, at2, k1N, k1N1, k1N2, k1N3, k1N4, k2N, k2N1, k2N2, k2N3, k2N4, k12, k21, k10, k20, k01, k02, k11, k22, k31, k32, k4, ht0, hv0, h4]
                · rw [q1, q2]; intro j j1 j2 j3
                  rw [hN] at j1
                  have jN : (j = N) = False := eq_false (by omega)
                  have jN1 : (j = N + 1) = False := eq_false (by omega)
                  have jN2 : (j = N + 1 + 1) = False := eq_false (by omega)
                  have jN3 : (j = N + 1 + 1 + 1) = False := eq_false (by omega)
                  have jN4 : (j = N + 1 + 1 + 1 + 1) = False := eq_false (by omega)
                  simp [AH.get_add, AH.get_upd, hN, jN, jN1, jN2, jN3, jN4, j2, j3]
                all_goals simp [t2, t3, t11, t12]
            · skip
              have hw := hI.wrong hx hi (by simp [takeS, takeA, bareB, actS, hr1, hr2, hs, k4, ht0, hv0])
              simp (implicitDefEqProofs := false) [tblRi, dataSt, st46, st47, d59, d60, d61, d62, d49, forms29, a29, b29, forms44, a44, b44, forms45, a45, b45, forms48, a48, b48, forms28, a28, b28, t2, t3, t11, t12, t13, hi, hi', hwr, hroom, hmany, AH.row, AH.many, AH.mapAt, AH.get_add, AH.get_upd, g0, g1, g2, hN, z01, z02, z03, z04, z11, z12, z13, z14, y0, y1, y2, x0, x1, x2, hr1, hr2, hf, at1, at2, k1N, k1N1, k1N2, k1N3, k1N4, k2N, k2N1, k2N2, k2N3, k2N4, k12, k21, k10, k20, k01, k02, k11, k22, k31, k32, k4, ht0, hv0, hw, wrongV]
              refine ends_first (o := .ro (evs l)) ?_ ?_ ?_ rfl ?_ <;> simp [AH.get_add, AH.get_upd, g0, g1, g2, hN, z01, z02, z03, z04, z11, z12, z13, z14, y0, y1, y2, x0, x1, x2, hf, at1, at2, k1N, k1N1, k1N2, k1N3, k1N4, k2N, k2N1, k2N2, k2N3, k2N4, k12, k21, k10, k20, k01, k02, k11, k22, k31, k32]
          · skip
            have hw := hI.wrong hx hi (by simp [takeS, takeA, bareB, actS, hr1, hr2, hs, k4, ht0])
            simp (implicitDefEqProofs := false) [tblRi, dataSt, st46, st47, d59, d60, d61, d62, d49, forms29, a29, b29, forms44, a44, b44, forms45, a45, b45, forms48, a48, b48, forms28, a28, b28, t2, t3, t11, t12, t13, hi, hi', hwr, hroom, hmany, AH.row, AH.many, AH.mapAt, AH.get_add, AH.get_upd, g0, g1, g2, hN, z01, z02, z03, z04, z11, z12, z13, z14, y0, y1, y2, x0, x1, x2, hr1, hr2, hf, at1, at2, k1N, k1N1, k1N2, k1N3, k1N4, k2N, k2N1, k2N2, k2N3, k2N4, k12, k21, k10, k20, k01, k02, k11, k22, k31, k32, k4, ht0, hw, wrongV]
            refine ends_first (o := .ro (evs l)) ?_ ?_ ?_ rfl ?_ <;> simp [AH.get_add, AH.get_upd, g0, g1, g2, hN, z01, z02, z03, z04, z11, z12, z13, z14, y0, y1, y2, x0, x1, x2, hf, at1, at2, k1N, k1N1, k1N2, k1N3, k1N4, k2N, k2N1, k2N2, k2N3, k2N4, k12, k21, k10, k20, k01, k02, k11, k22, k31, k32]
        by_cases k5 : x.k = 5
        · skip
          by_cases ht0 : x.t = 0
          · by_cases hv0 : x.v = 0
            · skip
              cases r with
              | nil =>
                have hw := hI.wrong hx hi (by simp [takeS, takeA, bareB, actS, hr1, hr2, hs, k5, ht0, hv0])
                simp (implicitDefEqProofs := false) [tblRi, dataSt, st46, st47, d59, d60, d61, d62, d49, forms29, a29, b29, forms44, a44, b44, forms45, a45, b45, forms48, a48, b48, forms28, a28, b28, t2, t3, t11, t12, t13, hi, hi', hwr, hroom, hmany, AH.row, AH.many, AH.mapAt, AH.get_add, AH.get_upd, g0, g1, g2, hN, z01, z02, z03, z04, z11, z12, z13, z14, y0, y1, y2, x0, x1, x2, hr1, hr2, hf, at1, at2, k1N, k1N1, k1N2, k1N3, k1N4, k2N, k2N1, k2N2, k2N3, k2N4, k12, k21, k10, k20, k01, k02, k11, k22, k31, k32, k5, ht0, hv0, hr100, hw, wrongV]
                refine ends_first (o := .ro (evs l)) ?_ ?_ ?_ rfl ?_ <;> simp [AH.get_add, AH.get_upd, g0, g1, g2, hN, z01, z02, z03, z04, z11, z12, z13, z14, y0, y1, y2, x0, x1, x2, hf, at1, at2, k1N, k1N1, k1N2, k1N3, k1N4, k2N, k2N1, k2N2, k2N3, k2N4, k12, k21, k10, k20, k01, k02, k11, k22, k31, k32]
              | cons g rs =>
                have hr101 : rs.length + 1 ≤ 100 := by simpa using hr100
                have ht : takeA (some ⟨false, false, f :: g :: rs⟩) x = some ⟨false, false, g :: rs⟩ := by simp [takeA, bareB, actS, k5, ht0, hv0]
                simp (implicitDefEqProofs := false) [tblRi, dataSt, st46, st47, d59, d60, d61, d62, d49, forms29, a29, b29, forms44, a44, b44, forms45, a45, b45, forms48, a48, b48, forms28, a28, b28, t2, t3, t11, t12, t13, hi, hi', hwr, hroom, hmany, AH.row, AH.many, AH.mapAt, AH.get_add, AH.get_upd, g0, g1, g2, hN, z01, z02, z03, z04, z11, z12, z13, z14, y0, y1, y2, x0, x1, x2, hr1, hr2, hf, at1, at2, k1N, k1N1, k1N2, k1N3, k1N4, k2N, k2N1, k2N2, k2N3, k2N4, k12, k21, k10, k20, k01, k02, k11, k22, k31, k32, k5, ht0, hv0, hr101]
                refine ⟨m - 1, by omega, i + 1, _, kk, es, cl, by omega, hI.upd hx ⟨hr1, hr2⟩ hs ht (drop_good hgood) ?_ ?_ ?_ ?_, ?_, ?_, ?_, ?_, ?_⟩
                · simp [hN]; try omega
                · rw [q1, q2]; simp [AH.get_add, AH.get_upd, g0, g1, g2, hN, z01, z02, z03, z04, z11, z12, z13, z14, y0, y1, y2, x0, x1, x2, hf, at1, at2, k1N, k1N1, k1N2, k1N3, k1N4, k2N, k2N1, k2N2, k2N3, k2N4, k12, k21, k10, k20, k01, k02, k11, k22, k31, k32, k5, ht0, hv0]
                · rw [q2]; simp [AH.get_add, AH.get_upd, g0, g1, g2, hN, z01, z02, z03, z04, z11, z12, z13, z14, y0, y1, y2, x0, x1, x2, hf, at1, at2, k1N, k1N1, k1N2, k1N3, k1N4, k2N, k2N1, k2N2, k2N3, k2N4, k12, k21, k10, k20, k01, k02, k11, k22, k31, k32, k5, ht0, hv0]
                · rw [q1, q2]; intro j j1 j2 j3
                  rw [hN] at j1
                  have jN : (j = N) = False := eq_false (by omega)
                  have jN1 : (j = N + 1) = False := eq_false (by omega)
                  have jN2 : (j = N + 1 + 1) = False := eq_false (by omega)
                  have jN3 : (j = N + 1 + 1 + 1) = False := eq_false (by omega)
                  have jN4 : (j = N + 1 + 1 + 1 + 1) = False := eq_false (by omega)
                  simp [AH.get_add, AH.get_upd, hN, jN, jN1, jN2, jN3, jN4, j2, j3]
                all_goals simp [t2, t3, t11, t12]
            · skip
              have hw := hI.wrong hx hi (by simp [takeS, takeA, bareB, actS, hr1, hr2, hs, k5, ht0, hv0])
              simp (implicitDefEqProofs := false) [tblRi, dataSt, st46, st47, d59, d60, d61, d62, d49, forms29, a29, b29, forms44, a44, b44, forms45, a45, b45, forms48, a48, b48, forms28, a28, b28, t2, t3, t11, t12, t13, hi, hi', hwr, hroom, hmany, AH.row, AH.many, AH.mapAt, AH.get_add, AH.get_upd, g0, g1, g2, hN, z01, z02, z03, z04, z11, z12, z13, z14, y0, y1, y2, x0, x1, x2, hr1, hr2, hf, at1, at2, k1N, k1N1, k1N2, k1N3, k1N4, k2N, k2N1, k2N2, k2N3, k2N4, k12, k21, k10, k20, k01, k02, k11, k22, k31, k32, k5, ht0, hv0, hw, wrongV]
              refine ends_first (o := .ro (evs l)) ?_ ?_ ?_ rfl ?_ <;> simp [AH.get_add, AH.get_upd, g0, g1, g2, hN, z01, z02, z03, z04, z11, z12, z13, z14, y0, y1, y2, x0, x1, x2, hf, at1, at2, k1N, k1N1, k1N2, k1N3, k1N4, k2N, k2N1, k2N2, k2N3, k2N4, k12, k21, k10, k20, k01, k02, k11, k22, k31, k32]
          · skip
            have hw := hI.wrong hx hi (by simp [takeS, takeA, bareB, actS, hr1, hr2, hs, k5, ht0])
            simp (implicitDefEqProofs := false) [tblRi, dataSt, st46, st47, d59, d60, d61, d62, d49, forms29, a29, b29, forms44, a44, b44, forms45, a45, b45, forms48, a48, b48, forms28, a28, b28, t2, t3, t11, t12, t13, hi, hi', hwr, hroom, hmany, AH.row, AH.many, AH.mapAt, AH.get_add, AH.get_upd, g0, g1, g2, hN, z01, z02, z03, z04, z11, z12, z13, z14, y0, y1, y2, x0, x1, x2, hr1, hr2, hf, at1, at2, k1N, k1N1, k1N2, k1N3, k1N4, k2N, k2N1, k2N2, k2N3, k2N4, k12, k21, k10, k20, k01, k02, k11, k22, k31, k32, k5, ht0, hw, wrongV]
            refine ends_first (o := .ro (evs l)) ?_ ?_ ?_ rfl ?_ <;> simp [AH.get_add, AH.get_upd, g0, g1, g2, hN, z01, z02, z03, z04, z11, z12, z13, z14, y0, y1, y2, x0, x1, x2, hf, at1, at2, k1N, k1N1, k1N2, k1N3, k1N4, k2N, k2N1, k2N2, k2N3, k2N4, k12, k21, k10, k20, k01, k02, k11, k22, k31, k32]
        by_cases k6 : x.k = 6
        · skip
          by_cases ht0 : x.t = 0
          · by_cases hv0 : x.v = 0
            · skip
              cases r with
              | nil =>
                have hw := hI.wrong hx hi (by simp [takeS, takeA, bareB, actS, hr1, hr2, hs, k6, ht0, hv0])
                simp (implicitDefEqProofs := false) [tblRi, dataSt, st46, st47, d59, d60, d61, d62, d49, forms29, a29, b29, forms44, a44, b44, forms45, a45, b45, forms48, a48, b48, forms28, a28, b28, t2, t3, t11, t12, t13, hi, hi', hwr, hroom, hmany, AH.row, AH.many, AH.mapAt, AH.get_add, AH.get_upd, g0, g1, g2, hN, z01, z02, z03, z04, z11, z12, z13, z14, y0, y1, y2, x0, x1, x2, hr1, hr2, hf, at1, at2, k1N, k1N1, k1N2, k1N3, k1N4, k2N, k2N1, k2N2, k2N3, k2N4, k12, k21, k10, k20, k01, k02, k11, k22, k31, k32, k6, ht0, hv0, hw, wrongV]
                refine ends_first (o := .ro (evs l)) ?_ ?_ ?_ rfl ?_ <;> simp [AH.get_add, AH.get_upd, g0, g1, g2, hN, z01, z02, z03, z04, z11, z12, z13, z14, y0, y1, y2, x0, x1, x2, hf, at1, at2, k1N, k1N1, k1N2, k1N3, k1N4, k2N, k2N1, k2N2, k2N3, k2N4, k12, k21, k10, k20, k01, k02, k11, k22, k31, k32]
              | cons g rs =>
                have ht : takeA (some ⟨false, false, f :: g :: rs⟩) x = some ⟨false, false, mergeF g f :: rs⟩ := by simp [takeA, bareB, actS, k6, ht0, hv0]
                simp (implicitDefEqProofs := false) [tblRi, dataSt, st46, st47, d59, d60, d61, d62, d49, forms29, a29, b29, forms44, a44, b44, forms45, a45, b45, forms48, a48, b48, forms28, a28, b28, t2, t3, t11, t12, t13, hi, hi', hwr, hroom, hmany, AH.row, AH.many, AH.mapAt, AH.get_add, AH.get_upd, g0, g1, g2, hN, z01, z02, z03, z04, z11, z12, z13, z14, y0, y1, y2, x0, x1, x2, hr1, hr2, hf, at1, at2, k1N, k1N1, k1N2, k1N3, k1N4, k2N, k2N1, k2N2, k2N3, k2N4, k12, k21, k10, k20, k01, k02, k11, k22, k31, k32, k6, ht0, hv0, hgood]
                refine ⟨m - 1, by omega, i + 1, _, kk, es, cl, by omega, hI.upd hx ⟨hr1, hr2⟩ hs ht (merge_good hgood) ?_ ?_ ?_ ?_, ?_, ?_, ?_, ?_, ?_⟩
                · simp [hN]; try omega
                · rw [q1, q2]; simp [AH.get_add, AH.get_upd, g0, g1, g2, hN, z01, z02, z03, z04, z11, z12, z13, z14, y0, y1, y2, x0, x1, x2, hf, at1, at2, k1N, k1N1, k1N2, k1N3, k1N4, k2N, k2N1, k2N2, k2N3, k2N4, k12, k21, k10, k20, k01, k02, k11, k22, k31, k32, k6, ht0, hv0]
                · rw [q2]; simp [AH.get_add, AH.get_upd, g0, g1, g2, hN, z01, z02, z03, z04, z11, z12, z13, z14, y0, y1, y2, x0, x1, x2, hf, at1, at2, k1N, k1N1, k1N2, k1N3, k1N4, k2N, k2N1, k2N2, k2N3, k2N4, k12, k21, k10, k20, k01, k02, k11, k22, k31, k32, k6, ht0, hv0]
                · rw [q1, q2]; intro j j1 j2 j3
                  rw [hN] at j1
                  have jN : (j = N) = False := eq_false (by omega)
                  have jN1 : (j = N + 1) = False := eq_false (by omega)
                  have jN2 : (j = N + 1 + 1) = False := eq_false (by omega)
                  have jN3 : (j = N + 1 + 1 + 1) = False := eq_false (by omega)
                  have jN4 : (j = N + 1 + 1 + 1 + 1) = False := eq_false (by omega)
                  simp [AH.get_add, AH.get_upd, hN, jN, jN1, jN2, jN3, jN4, j2, j3]
                all_goals simp [t2, t3, t11, t12]
            · skip
              have hw := hI.wrong hx hi (by simp [takeS, takeA, bareB, actS, hr1, hr2, hs, k6, ht0, hv0])
              simp (implicitDefEqProofs := false) [tblRi, dataSt, st46, st47, d59, d60, d61, d62, d49, forms29, a29, b29, forms44, a44, b44, forms45, a45, b45, forms48, a48, b48, forms28, a28, b28, t2, t3, t11, t12, t13, hi, hi', hwr, hroom, hmany, AH.row, AH.many, AH.mapAt, AH.get_add, AH.get_upd, g0, g1, g2, hN, z01, z02, z03, z04, z11, z12, z13, z14, y0, y1, y2, x0, x1, x2, hr1, hr2, hf, at1, at2, k1N, k1N1, k1N2, k1N3, k1N4, k2N, k2N1, k2N2, k2N3, k2N4, k12, k21, k10, k20, k01, k02, k11, k22, k31, k32, k6, ht0, hv0, hw, wrongV]
              refine ends_first (o := .ro (evs l)) ?_ ?_ ?_ rfl ?_ <;> simp [AH.get_add, AH.get_upd, g0, g1, g2, hN, z01, z02, z03, z04, z11, z12, z13, z14, y0, y1, y2, x0, x1, x2, hf, at1, at2, k1N, k1N1, k1N2, k1N3, k1N4, k2N, k2N1, k2N2, k2N3, k2N4, k12, k21, k10, k20, k01, k02, k11, k22, k31, k32]
          · skip
            have hw := hI.wrong hx hi (by simp [takeS, takeA, bareB, actS, hr1, hr2, hs, k6, ht0])
            simp (implicitDefEqProofs := false) [tblRi, dataSt, st46, st47, d59, d60, d61, d62, d49, forms29, a29, b29, forms44, a44, b44, forms45, a45, b45, forms48, a48, b48, forms28, a28, b28, t2, t3, t11, t12, t13, hi, hi', hwr, hroom, hmany, AH.row, AH.many, AH.mapAt, AH.get_add, AH.get_upd, g0, g1, g2, hN, z01, z02, z03, z04, z11, z12, z13, z14, y0, y1, y2, x0, x1, x2, hr1, hr2, hf, at1, at2, k1N, k1N1, k1N2, k1N3, k1N4, k2N, k2N1, k2N2, k2N3, k2N4, k12, k21, k10, k20, k01, k02, k11, k22, k31, k32, k6, ht0, hw, wrongV]
            refine ends_first (o := .ro (evs l)) ?_ ?_ ?_ rfl ?_ <;> simp [AH.get_add, AH.get_upd, g0, g1, g2, hN, z01, z02, z03, z04, z11, z12, z13, z14, y0, y1, y2, x0, x1, x2, hf, at1, at2, k1N, k1N1, k1N2, k1N3, k1N4, k2N, k2N1, k2N2, k2N3, k2N4, k12, k21, k10, k20, k01, k02, k11, k22, k31, k32]
        by_cases k7 : x.k = 7
        · skip
          by_cases ht0 : x.t = 0
          · by_cases hv0 : x.v = 0
            · skip
              cases r with
              | nil =>
                have ht : takeA (some ⟨false, false, [f]⟩) x = some ⟨true, false, [f]⟩ := by simp [takeA, bareB, actS, k7, ht0, hv0]
                simp (implicitDefEqProofs := false) [tblRi, dataSt, st46, st47, d59, d60, d61, d62, d49, forms29, a29, b29, forms44, a44, b44, forms45, a45, b45, forms48, a48, b48, forms28, a28, b28, t2, t3, t11, t12, t13, hi, hi', hwr, hroom, hmany, AH.row, AH.many, AH.mapAt, AH.get_add, AH.get_upd, g0, g1, g2, hN, z01, z02, z03, z04, z11, z12, z13, z14, y0, y1, y2, x0, x1, x2, hr1, hr2, hf, at1, at2, k1N, k1N1, k1N2, k1N3, k1N4, k2N, k2N1, k2N2, k2N3, k2N4, k12, k21, k10, k20, k01, k02, k11, k22, k31, k32, k7, ht0, hv0]
                refine ⟨m - 1, by omega, i + 1, _, kk, es, cl, by omega, hI.upd hx ⟨hr1, hr2⟩ hs ht hgood ?_ ?_ ?_ ?_, ?_, ?_, ?_, ?_, ?_⟩
                · simp [hN]; try omega
                · rw [q1, q2]; simp [AH.get_add, AH.get_upd, g0, g1, g2, hN, z01, z02, z03, z04, z11, z12, z13, z14, y0, y1, y2, x0, x1, x2, hf, at1, at2, k1N, k1N1, k1N2, k1N3, k1N4, k2N, k2N1, k2N2, k2N3, k2N4, k12, k21, k10, k20, k01, k02, k11, k22, k31, k32, k7, ht0, hv0]
                · rw [q2]; simp [AH.get_add, AH.get_upd, g0, g1, g2, hN, z01, z02, z03, z04, z11, z12, z13, z14, y0, y1, y2, x0, x1, x2, hf, at1, at2, k1N, k1N1, k1N2, k1N3, k1N4, k2N, k2N1, k2N2, k2N3, k2N4, k12, k21, k10, k20, k01, k02, k11, k22, k31, k32, k7, ht0, hv0]
                · rw [q1, q2]; intro j j1 j2 j3
                  rw [hN] at j1
                  have jN : (j = N) = False := eq_false (by omega)
                  have jN1 : (j = N + 1) = False := eq_false (by omega)
                  have jN2 : (j = N + 1 + 1) = False := eq_false (by omega)
                  have jN3 : (j = N + 1 + 1 + 1) = False := eq_false (by omega)
                  have jN4 : (j = N + 1 + 1 + 1 + 1) = False := eq_false (by omega)
                  simp [AH.get_add, AH.get_upd, hN, jN, jN1, jN2, jN3, jN4, j2, j3]
                all_goals simp [t2, t3, t11, t12]
              | cons g rs =>
                have hd : ¬ ((rs.length : Int) + 1 = 0) := by omega
                have hw := hI.wrong hx hi (by simp [takeS, takeA, bareB, actS, hr1, hr2, hs, k7, ht0, hv0])
                simp (implicitDefEqProofs := false) [tblRi, dataSt, st46, st47, d59, d60, d61, d62, d49, forms29, a29, b29, forms44, a44, b44, forms45, a45, b45, forms48, a48, b48, forms28, a28, b28, t2, t3, t11, t12, t13, hi, hi', hwr, hroom, hmany, AH.row, AH.many, AH.mapAt, AH.get_add, AH.get_upd, g0, g1, g2, hN, z01, z02, z03, z04, z11, z12, z13, z14, y0, y1, y2, x0, x1, x2, hr1, hr2, hf, at1, at2, k1N, k1N1, k1N2, k1N3, k1N4, k2N, k2N1, k2N2, k2N3, k2N4, k12, k21, k10, k20, k01, k02, k11, k22, k31, k32, k7, ht0, hv0, hd, hw, wrongV]
                refine ends_first (o := .ro (evs l)) ?_ ?_ ?_ rfl ?_ <;> simp [AH.get_add, AH.get_upd, g0, g1, g2, hN, z01, z02, z03, z04, z11, z12, z13, z14, y0, y1, y2, x0, x1, x2, hf, at1, at2, k1N, k1N1, k1N2, k1N3, k1N4, k2N, k2N1, k2N2, k2N3, k2N4, k12, k21, k10, k20, k01, k02, k11, k22, k31, k32]
            · skip
              have hw := hI.wrong hx hi (by simp [takeS, takeA, bareB, actS, hr1, hr2, hs, k7, ht0, hv0])
              simp (implicitDefEqProofs := false) [tblRi, dataSt, st46, st47, d59, d60, d61, d62, d49, forms29, a29, b29, forms44, a44, b44, forms45, a45, b45, forms48, a48, b48, forms28, a28, b28, t2, t3, t11, t12, t13, hi, hi', hwr, hroom, hmany, AH.row, AH.many, AH.mapAt, AH.get_add, AH.get_upd, g0, g1, g2, hN, z01, z02, z03, z04, z11, z12, z13, z14, y0, y1, y2, x0, x1, x2, hr1, hr2, hf, at1, at2, k1N, k1N1, k1N2, k1N3, k1N4, k2N, k2N1, k2N2, k2N3, k2N4, k12, k21, k10, k20, k01, k02, k11, k22, k31, k32, k7, ht0, hv0, hw, wrongV]
              refine ends_first (o := .ro (evs l)) ?_ ?_ ?_ rfl ?_ <;> simp [AH.get_add, AH.get_upd, g0, g1, g2, hN, z01, z02, z03, z04, z11, z12, z13, z14, y0, y1, y2, x0, x1, x2, hf, at1, at2, k1N, k1N1, k1N2, k1N3, k1N4, k2N, k2N1, k2N2, k2N3, k2N4, k12, k21, k10, k20, k01, k02, k11, k22, k31, k32]
          · skip
            have hw := hI.wrong hx hi (by simp [takeS, takeA, bareB, actS, hr1, hr2, hs, k7, ht0])
            simp (implicitDefEqProofs := false) [tblRi, dataSt, st46, st47, d59, d60, d61, d62, d49, forms29, a29, b29, forms44, a44, b44, forms45, a45, b45, forms48, a48, b48, forms28, a28, b28, t2, t3, t11, t12, t13, hi, hi', hwr, hroom, hmany, AH.row, AH.many, AH.mapAt, AH.get_add, AH.get_upd, g0, g1, g2, hN, z01, z02, z03, z04, z11, z12, z13, z14, y0, y1, y2, x0, x1, x2, hr1, hr2, hf, at1, at2, k1N, k1N1, k1N2, k1N3, k1N4, k2N, k2N1, k2N2, k2N3, k2N4, k12, k21, k10, k20, k01, k02, k11, k22, k31, k32, k7, ht0, hw, wrongV]
            refine ends_first (o := .ro (evs l)) ?_ ?_ ?_ rfl ?_ <;> simp [AH.get_add, AH.get_upd, g0, g1, g2, hN, z01, z02, z03, z04, z11, z12, z13, z14, y0, y1, y2, x0, x1, x2, hf, at1, at2, k1N, k1N1, k1N2, k1N3, k1N4, k2N, k2N1, k2N2, k2N3, k2N4, k12, k21, k10, k20, k01, k02, k11, k22, k31, k32]
        have hw := hI.wrong hx hi (by simp [takeS, takeA, bareB, actS, hr1, hr2, hs, k1, k2, k3, k4, k5, k6, k7, k8, k9])
        simp (implicitDefEqProofs := false) [tblRi, dataSt, st46, st47, d59, d60, d61, d62, d49, forms29, a29, b29, forms44, a44, b44, forms45, a45, b45, forms48, a48, b48, forms28, a28, b28, t2, t3, t11, t12, t13, hi, hi', hwr, hroom, hmany, AH.row, AH.many, AH.mapAt, AH.get_add, AH.get_upd, g0, g1, g2, hN, z01, z02, z03, z04, z11, z12, z13, z14, y0, y1, y2, x0, x1, x2, hr1, hr2, hf, at1, at2, k1N, k1N1, k1N2, k1N3, k1N4, k2N, k2N1, k2N2, k2N3, k2N4, k12, k21, k10, k20, k01, k02, k11, k22, k31, k32, k1, k2, k3, k4, k5, k6, k7, k8, k9, hw, wrongV]
        refine ends_first (o := .ro (evs l)) ?_ ?_ ?_ rfl ?_ <;> simp [AH.get_add, AH.get_upd, g0, g1, g2, hN, z01, z02, z03, z04, z11, z12, z13, z14, y0, y1, y2, x0, x1, x2, hf, at1, at2, k1N, k1N1, k1N2, k1N3, k1N4, k2N, k2N1, k2N2, k2N3, k2N4, k12, k21, k10, k20, k01, k02, k11, k22, k31, k32]
def r14 : RStep
  | l, [] => some (l.length ≤ 1000 ∧ ∀ x ∈ l, 0 ≤ x.v ∧ x.v < 18446744073709551616, .bool (rightS l))
  | _, _ => none
theorem st14_ok : CStepOk Tryd.prog cfg 14 (rdSt r14) := rd_ok fun l n c rest p v hn h hp => by
  unfold r14 at h
  split at h
  · cases h
    rw [List.length_take] at hp
    exact ⟨rfl, rfl, runs14 l n c hn (by omega) hp.2⟩
  · cases h
end YtmhkpababjdnbaaDoor
end Go.Proofs
/-
  The document's history: own, fits.
-/
set_option linter.unusedSimpArgs false
set_option linter.unusedVariables false
set_option linter.unnecessarySimpa false
set_option linter.unusedSectionVars false
namespace Go.Proofs
namespace YtmhkpababjdnbaaDoor
open Go.Abs
set_option linter.unusedSimpArgs false

theorem own_zero (l : List Ev) (a : Int) : ownS l 0 a = [[]] := by simp [ownS, cutS]
theorem own_succ {l : List Ev} {i : Nat} {x : Ev} (h : l[i]? = some x) (a : Int) : ownS l (i + 1) a = if x.a = a then (actS (ownS l i a) x).2 else ownS l i a := by
  unfold ownS
  rw [cut_succ h]
  split
  · rw [List.foldl_append]; rfl
  · rfl
theorem own_good (l : List Ev) (i : Nat) (a : Int) : GoodFs (ownS l i a) := by
  unfold ownS
  have : ∀ (c : List Ev) (fs : List (List Pr)), GoodFs fs → GoodFs (c.foldl ownF fs) := by
    intro c
    induction c with
    | nil => intro fs h; exact h
    | cons x c ih => intro fs h; exact ih _ (act_good h)
  exact this _ _ fs_nil
theorem asEvs_one (x : Ev) : asEvs [.int .u8 x.k, .int .i64 x.a, .int .i64 x.t, .int .u64 x.v] = some [x] := rfl
def tblOw : List (FuncId × CStep GD) := [(75, st75), (65, dataSt d65)]
theorem tblOw_ok : ∀ x ∈ tblOw, CStepOk Tryd.prog cfg x.1 x.2 := by simp [tblOw, st75_ok, st65_ok]
set_option maxHeartbeats 4000000 in
theorem runs63 (l : List Ev) (n c m : Nat) (a : Int) (hn : n ≤ l.length) (hs : m ≤ n) (hm : m ≤ 1000) (hv : ∀ x ∈ l, 0 ≤ x.v ∧ x.v < 18446744073709551616) : Runs Tryd.prog cfg 63 [.slice (some ⟨0, 0, none⟩) n c, .int .i64 m, .int .i64 a] (AH.of [some (.ro (evs l))])
    fun r H' => r = .ret (.pointer (some ⟨1, 0, none⟩)) ∧ H' = AH.of [some (.ro (evs l)), some (.hi (.rlog (ownS l m a)))] := by
  refine runs_by (tbl := tblOw) tblOw_ok 1001 0 (af := a63) rfl ?_
  rw [a63, b63, run_eq]
  refine ⟨by simp, ?_⟩
  simp (implicitDefEqProofs := false) [tblOw, st75]
  refine loop_inv (sg_mono gX_ok (tabS_ok tblOw_ok) _ _ noY noY_mono) (fun q tm H => ∃ i : Nat, q + i = m ∧ tm 0 = .slice (some ⟨0, 0, none⟩) n c ∧ tm 1 = .int .i64 m ∧ tm 2 = .int .i64 a ∧ tm 7 = .pointer (some ⟨1, 0, none⟩) ∧ tm 8 = .int .i64 i ∧ H = AH.of [some (.ro (evs l)), some (.hi (.rlog (ownS l i a)))]) (m := m) ⟨0, by simp [own_zero]⟩ (by omega) ?_
  rintro q tm H ⟨i, hq, t0, t1, t2, t7, t8, rfl⟩
  by_cases hi : i < m
  · obtain ⟨x, hx⟩ : ∃ x, l[i]? = some x := ⟨l[i]'(by omega), List.getElem?_eq_getElem (by omega)⟩
    have hi' : (i : Int) < m := by omega
    have hin : i < n := by omega
    have hin' : (i : Int) < n := by omega
    have hwr := inc_i64 hi (by omega)
    have hsuc := own_succ hx a
    have hroom := evs_room (show i < l.length by omega)
    have hat := evs_at hx
    have hmany := many_evs' hx
    have hxv := hv x (List.mem_of_getElem? hx)
    have hgo := own_good l i a
    by_cases ha : x.a = a
    · subst ha
      rw [if_pos rfl] at hsuc
      simp (implicitDefEqProofs := false) [tblOw, dataSt, d65, asEvs_one, t0, t1, t2, t7, t8, hi', hin, hin', hwr, hroom, hat, hmany, hgo, hxv]
      exact ⟨q - 1, by omega, i + 1, by omega, by simp [t0, t1, t2, t7, hsuc]⟩
    · rw [if_neg ha] at hsuc
      simp (implicitDefEqProofs := false) [t0, t1, t2, t7, t8, hi', hin, hin', hwr, hroom, hat, ha]
      exact ⟨q - 1, by omega, i + 1, by omega, by simp [t0, t1, t2, t7, hsuc]⟩
  · have hie : i = m := by omega
    subst hie
    simp (implicitDefEqProofs := false) [t0, t1, t2, t7, t8]
def st63 : CStep GD := fun args H => match args with
  | [.slice (some ⟨k, 0, none⟩) n _, .int .i64 m, .int .i64 a] => match H.get k with
    | some (.ro cs) => (asEvs cs).map fun l => (n ≤ l.length ∧ 0 ≤ m ∧ m ≤ n ∧ m ≤ 1000 ∧ ∀ x ∈ l, 0 ≤ x.v ∧ x.v < 18446744073709551616, .ret (.pointer (some ⟨H.next, 0, none⟩)), H.add (.hi (.rlog (ownS l m.toNat a))))
    | _ => none
  | _ => none
theorem st63_ok : CStepOk Tryd.prog cfg 63 st63 := by
  intro args H p r H' h hp
  unfold st63 at h
  split at h
  case h_2 => cases h
  split at h
  case h_2 => cases h
  simp only [Option.map_eq_some_iff] at h
  obtain ⟨l, hl, h⟩ := h
  rename_i k n c m a x1 cs hk
  cases h
  rw [asEvs_inv hl] at hk
  obtain ⟨i, rfl⟩ : ∃ i : Nat, m = i := ⟨m.toNat, by omega⟩
  rw [Int.toNat_natCast]
  exact (runs63 l n c i a hp.1 (by omega) (by omega) hp.2.2.2.2).atK (ro_same fun i cs hi => by rcases i with _ | _ | i <;> simp at hi ⊢; exact hi) [k] (by simp) (by simp) (by simp [hk]) (by simp) (by simp) (by simp [upd_get hk, AObj.ren])
end YtmhkpababjdnbaaDoor
end Go.Proofs
/-
  The document's history: fits.
-/
set_option linter.unusedSimpArgs false
set_option linter.unusedVariables false
set_option linter.unnecessarySimpa false
set_option linter.unusedSectionVars false
namespace Go.Proofs
namespace YtmhkpababjdnbaaDoor
open Go.Abs
set_option linter.unusedSimpArgs false

def tblFi : List (FuncId × CStep GD) := [(51, rdSt r51), (63, st63), (65, dataSt d65), (64, st64), (66, dataSt d66)]
theorem tblFi_ok : ∀ x ∈ tblFi, CStepOk Tryd.prog cfg x.1 x.2 := by simp [tblFi, st51_ok, st63_ok, st65_ok, st64_ok, st66_ok]
set_option maxRecDepth 20000 in
set_option maxHeartbeats 32000000 in
theorem fits_out (l : List Ev) (n c i : Nat) (k a t v : Int) (hn : n ≤ l.length) (hi : i < n) (hs : i ≤ 1000) (hx : l[i]? = some ⟨k, a, t, v⟩) (hv : ∀ x ∈ l, 0 ≤ x.v ∧ x.v < 18446744073709551616) (hr : a < 0 ∨ 64 ≤ a) : Runs Tryd.prog cfg 50 [.slice (some ⟨0, 0, none⟩) n c, .int .i64 i] (AH.of [some (.ro (evs l))])
    fun r H' => r = .ret (.bool (fitX l i ⟨k, a, t, v⟩)) ∧ H' = AH.of [some (.ro (evs l))] := by
  refine Runs.ends ?_
  refine runs_by (tbl := tblFi) tblFi_ok 0 0 (af := a50) rfl ?_
  rw [a50, b50, run_eq]
  refine ⟨by simp, ?_⟩
  have hi' : (i : Int) < n := by omega
  have hsi : (i : Int) ≤ 1000 := by omega
  have hil : i ≤ l.length := by omega
  have hin : i ≤ n := by omega
  have hroom := evs_room (show i < l.length by omega)
  have hmany : ((evs l).drop (i * 4)).take 4 = [.int .u8 k, .int .i64 a, .int .i64 t, .int .u64 v] := many_evs' hx
  have hxv : 0 ≤ v ∧ v < 18446744073709551616 := hv _ (List.mem_of_getElem? hx)
  have hgo := own_good l i a
  have hst : ∀ k, seenS (l.take n) i a k = seenS l i a k := fun k => seen_take hin a k
  have hln : (l.take n).length = n := by rw [List.length_take]; omega
  have hone : asEvs [.int .u8 k, .int .i64 a, .int .i64 t, .int .u64 v] = some [⟨k, a, t, v⟩] := rfl
  have hdl : (ownS l i a).length ≤ 1000 := by have : (ownS l i a).length ≤ 5 := hgo.1.2.1; omega
  by_cases hr1 : a < 0
  · simp (implicitDefEqProofs := false) [tblFi, hi, hi', hroom, hmany, hr1]
    refine ends_plan [] [0] ?_ ?_ ?_ <;> simp [fitX, hr1]
  have hr2 : 64 ≤ a := by omega
  simp (implicitDefEqProofs := false) [tblFi, hi, hi', hroom, hmany, hr1, hr2]
  refine ends_plan [] [0] ?_ ?_ ?_ <;> simp [fitX, hr1, hr2]
set_option maxRecDepth 20000 in
set_option maxHeartbeats 32000000 in
theorem fits_no (l : List Ev) (n c i : Nat) (k a t v : Int) (hn : n ≤ l.length) (hi : i < n) (hs : i ≤ 1000) (hx : l[i]? = some ⟨k, a, t, v⟩) (hv : ∀ x ∈ l, 0 ≤ x.v ∧ x.v < 18446744073709551616) (hr : ¬ a < 0) (hr2 : ¬ 64 ≤ a) (hb : seenS l i a 1 = false) : Runs Tryd.prog cfg 50 [.slice (some ⟨0, 0, none⟩) n c, .int .i64 i] (AH.of [some (.ro (evs l))])
    fun r H' => r = .ret (.bool (fitX l i ⟨k, a, t, v⟩)) ∧ H' = AH.of [some (.ro (evs l))] := by
  refine Runs.ends ?_
  refine runs_by (tbl := tblFi) tblFi_ok 0 0 (af := a50) rfl ?_
  rw [a50, b50, run_eq]
  refine ⟨by simp, ?_⟩
  have hi' : (i : Int) < n := by omega
  have hsi : (i : Int) ≤ 1000 := by omega
  have hil : i ≤ l.length := by omega
  have hin : i ≤ n := by omega
  have hroom := evs_room (show i < l.length by omega)
  have hmany : ((evs l).drop (i * 4)).take 4 = [.int .u8 k, .int .i64 a, .int .i64 t, .int .u64 v] := many_evs' hx
  have hxv : 0 ≤ v ∧ v < 18446744073709551616 := hv _ (List.mem_of_getElem? hx)
  have hgo := own_good l i a
  have hst : ∀ k, seenS (l.take n) i a k = seenS l i a k := fun k => seen_take hin a k
  have hln : (l.take n).length = n := by rw [List.length_take]; omega
  have hone : asEvs [.int .u8 k, .int .i64 a, .int .i64 t, .int .u64 v] = some [⟨k, a, t, v⟩] := rfl
  have hdl : (ownS l i a).length ≤ 1000 := by have : (ownS l i a).length ≤ 5 := hgo.1.2.1; omega
  by_cases k1 : k = 1
  · subst k1
    by_cases ht : t = 0
    · subst ht
      by_cases h0 : v = 0
      · subst h0
        cases h7 : seenS l i a 7 <;> cases h8 : seenS l i a 8 <;> cases h9 : seenS l i a 9 <;> (
          simp (implicitDefEqProofs := false) [tblFi, rdSt, r51, st63, dataSt, d65, d66, st64, asU, hone, hst, hln, hi, hi', hil, hin, hs, hsi, hn, hroom, hmany, hr, hr2, hxv, hgo, hdl, hb, h7, h8, h9]
          refine ends_plan [] [0] ?_ ?_ ?_ <;> simp [fitX, bareB, hr, hr2, hb, hb, h7, h8, h9])
      · cases h7 : seenS l i a 7 <;> cases h8 : seenS l i a 8 <;> cases h9 : seenS l i a 9 <;> (
          simp (implicitDefEqProofs := false) [tblFi, rdSt, r51, st63, dataSt, d65, d66, st64, asU, hone, hst, hln, hi, hi', hil, hin, hs, hsi, hn, hroom, hmany, hr, hr2, hxv, hgo, hdl, h0, hb, h7, h8, h9]
          refine ends_plan [] [0] ?_ ?_ ?_ <;> simp [fitX, bareB, hr, hr2, hb, h0, hb, h7, h8, h9])
    · cases h7 : seenS l i a 7 <;> cases h8 : seenS l i a 8 <;> cases h9 : seenS l i a 9 <;> (
        simp (implicitDefEqProofs := false) [tblFi, rdSt, r51, st63, dataSt, d65, d66, st64, asU, hone, hst, hln, hi, hi', hil, hin, hs, hsi, hn, hroom, hmany, hr, hr2, hxv, hgo, hdl, ht, hb, h7, h8, h9]
        refine ends_plan [] [0] ?_ ?_ ?_ <;> simp [fitX, bareB, hr, hr2, hb, ht, hb, h7, h8, h9])
  · by_cases ht : t = 0
    · subst ht
      by_cases h0 : v = 0
      · subst h0
        cases h7 : seenS l i a 7 <;> cases h8 : seenS l i a 8 <;> cases h9 : seenS l i a 9 <;> (
          simp (implicitDefEqProofs := false) [tblFi, rdSt, r51, st63, dataSt, d65, d66, st64, asU, hone, hst, hln, hi, hi', hil, hin, hs, hsi, hn, hroom, hmany, hr, hr2, hxv, hgo, hdl, hb, h7, h8, h9, k1]
          refine ends_plan [] [0] ?_ ?_ ?_ <;> simp [fitX, bareB, hr, hr2, hb, hb, h7, h8, h9, k1])
      · cases h7 : seenS l i a 7 <;> cases h8 : seenS l i a 8 <;> cases h9 : seenS l i a 9 <;> (
          simp (implicitDefEqProofs := false) [tblFi, rdSt, r51, st63, dataSt, d65, d66, st64, asU, hone, hst, hln, hi, hi', hil, hin, hs, hsi, hn, hroom, hmany, hr, hr2, hxv, hgo, hdl, h0, hb, h7, h8, h9, k1]
          refine ends_plan [] [0] ?_ ?_ ?_ <;> simp [fitX, bareB, hr, hr2, hb, h0, hb, h7, h8, h9, k1])
    · cases h7 : seenS l i a 7 <;> cases h8 : seenS l i a 8 <;> cases h9 : seenS l i a 9 <;> (
        simp (implicitDefEqProofs := false) [tblFi, rdSt, r51, st63, dataSt, d65, d66, st64, asU, hone, hst, hln, hi, hi', hil, hin, hs, hsi, hn, hroom, hmany, hr, hr2, hxv, hgo, hdl, ht, hb, h7, h8, h9, k1]
        refine ends_plan [] [0] ?_ ?_ ?_ <;> simp [fitX, bareB, hr, hr2, hb, ht, hb, h7, h8, h9, k1])
set_option maxRecDepth 20000 in
set_option maxHeartbeats 32000000 in
theorem fits_first (l : List Ev) (n c i : Nat) (k a t v : Int) (hn : n ≤ l.length) (hi : i < n) (hs : i ≤ 1000) (hx : l[i]? = some ⟨k, a, t, v⟩) (hv : ∀ x ∈ l, 0 ≤ x.v ∧ x.v < 18446744073709551616) (hr : ¬ a < 0) (hr2 : ¬ 64 ≤ a) (hb : seenS l i a 1 = true) (k1 : k = 1) : Runs Tryd.prog cfg 50 [.slice (some ⟨0, 0, none⟩) n c, .int .i64 i] (AH.of [some (.ro (evs l))])
    fun r H' => r = .ret (.bool (fitX l i ⟨k, a, t, v⟩)) ∧ H' = AH.of [some (.ro (evs l))] := by
  refine Runs.ends ?_
  refine runs_by (tbl := tblFi) tblFi_ok 0 0 (af := a50) rfl ?_
  rw [a50, b50, run_eq]
  refine ⟨by simp, ?_⟩
  have hi' : (i : Int) < n := by omega
  have hsi : (i : Int) ≤ 1000 := by omega
  have hil : i ≤ l.length := by omega
  have hin : i ≤ n := by omega
  have hroom := evs_room (show i < l.length by omega)
  have hmany : ((evs l).drop (i * 4)).take 4 = [.int .u8 k, .int .i64 a, .int .i64 t, .int .u64 v] := many_evs' hx
  have hxv : 0 ≤ v ∧ v < 18446744073709551616 := hv _ (List.mem_of_getElem? hx)
  have hgo := own_good l i a
  have hst : ∀ k, seenS (l.take n) i a k = seenS l i a k := fun k => seen_take hin a k
  have hln : (l.take n).length = n := by rw [List.length_take]; omega
  have hone : asEvs [.int .u8 k, .int .i64 a, .int .i64 t, .int .u64 v] = some [⟨k, a, t, v⟩] := rfl
  have hdl : (ownS l i a).length ≤ 1000 := by have : (ownS l i a).length ≤ 5 := hgo.1.2.1; omega
  subst k1
  by_cases ht : t = 0
  · subst ht
    by_cases h0 : v = 0
    · subst h0
      cases h7 : seenS l i a 7 <;> cases h8 : seenS l i a 8 <;> cases h9 : seenS l i a 9 <;> (
        simp (implicitDefEqProofs := false) [tblFi, rdSt, r51, st63, dataSt, d65, d66, st64, asU, hone, hst, hln, hi, hi', hil, hin, hs, hsi, hn, hroom, hmany, hr, hr2, hxv, hgo, hdl, hb, h7, h8, h9]
        refine ends_plan [] [0] ?_ ?_ ?_ <;> simp [fitX, bareB, hr, hr2, hb, hb, h7, h8, h9])
    · cases h7 : seenS l i a 7 <;> cases h8 : seenS l i a 8 <;> cases h9 : seenS l i a 9 <;> (
        simp (implicitDefEqProofs := false) [tblFi, rdSt, r51, st63, dataSt, d65, d66, st64, asU, hone, hst, hln, hi, hi', hil, hin, hs, hsi, hn, hroom, hmany, hr, hr2, hxv, hgo, hdl, h0, hb, h7, h8, h9]
        refine ends_plan [] [0] ?_ ?_ ?_ <;> simp [fitX, bareB, hr, hr2, hb, h0, hb, h7, h8, h9])
  · cases h7 : seenS l i a 7 <;> cases h8 : seenS l i a 8 <;> cases h9 : seenS l i a 9 <;> (
      simp (implicitDefEqProofs := false) [tblFi, rdSt, r51, st63, dataSt, d65, d66, st64, asU, hone, hst, hln, hi, hi', hil, hin, hs, hsi, hn, hroom, hmany, hr, hr2, hxv, hgo, hdl, ht, hb, h7, h8, h9]
      refine ends_plan [] [0] ?_ ?_ ?_ <;> simp [fitX, bareB, hr, hr2, hb, ht, hb, h7, h8, h9])
set_option maxRecDepth 20000 in
set_option maxHeartbeats 32000000 in
theorem fits_ended (l : List Ev) (n c i : Nat) (k a t v : Int) (hn : n ≤ l.length) (hi : i < n) (hs : i ≤ 1000) (hx : l[i]? = some ⟨k, a, t, v⟩) (hv : ∀ x ∈ l, 0 ≤ x.v ∧ x.v < 18446744073709551616) (hr : ¬ a < 0) (hr2 : ¬ 64 ≤ a) (hb : seenS l i a 1 = true) (k1 : ¬ k = 1) (he : seenS l i a 8 = true ∨ seenS l i a 9 = true) : Runs Tryd.prog cfg 50 [.slice (some ⟨0, 0, none⟩) n c, .int .i64 i] (AH.of [some (.ro (evs l))])
    fun r H' => r = .ret (.bool (fitX l i ⟨k, a, t, v⟩)) ∧ H' = AH.of [some (.ro (evs l))] := by
  refine Runs.ends ?_
  refine runs_by (tbl := tblFi) tblFi_ok 0 0 (af := a50) rfl ?_
  rw [a50, b50, run_eq]
  refine ⟨by simp, ?_⟩
  have hi' : (i : Int) < n := by omega
  have hsi : (i : Int) ≤ 1000 := by omega
  have hil : i ≤ l.length := by omega
  have hin : i ≤ n := by omega
  have hroom := evs_room (show i < l.length by omega)
  have hmany : ((evs l).drop (i * 4)).take 4 = [.int .u8 k, .int .i64 a, .int .i64 t, .int .u64 v] := many_evs' hx
  have hxv : 0 ≤ v ∧ v < 18446744073709551616 := hv _ (List.mem_of_getElem? hx)
  have hgo := own_good l i a
  have hst : ∀ k, seenS (l.take n) i a k = seenS l i a k := fun k => seen_take hin a k
  have hln : (l.take n).length = n := by rw [List.length_take]; omega
  have hone : asEvs [.int .u8 k, .int .i64 a, .int .i64 t, .int .u64 v] = some [⟨k, a, t, v⟩] := rfl
  have hdl : (ownS l i a).length ≤ 1000 := by have : (ownS l i a).length ≤ 5 := hgo.1.2.1; omega
  by_cases ht : t = 0
  · subst ht
    by_cases h0 : v = 0
    · subst h0
      cases h7 : seenS l i a 7 <;> cases h8 : seenS l i a 8 <;> cases h9 : seenS l i a 9 <;> (
        first
          | (exfalso; simp [h8, h9] at he; done)
          | (simp (implicitDefEqProofs := false) [tblFi, rdSt, r51, st63, dataSt, d65, d66, st64, asU, hone, hst, hln, hi, hi', hil, hin, hs, hsi, hn, hroom, hmany, hr, hr2, hxv, hgo, hdl, hb, h7, h8, h9, k1]
             refine ends_plan [] [0] ?_ ?_ ?_ <;> simp [fitX, bareB, hr, hr2, hb, hb, h7, h8, h9, k1]))
    · cases h7 : seenS l i a 7 <;> cases h8 : seenS l i a 8 <;> cases h9 : seenS l i a 9 <;> (
        first
          | (exfalso; simp [h8, h9] at he; done)
          | (simp (implicitDefEqProofs := false) [tblFi, rdSt, r51, st63, dataSt, d65, d66, st64, asU, hone, hst, hln, hi, hi', hil, hin, hs, hsi, hn, hroom, hmany, hr, hr2, hxv, hgo, hdl, h0, hb, h7, h8, h9, k1]
             refine ends_plan [] [0] ?_ ?_ ?_ <;> simp [fitX, bareB, hr, hr2, hb, h0, hb, h7, h8, h9, k1]))
  · cases h7 : seenS l i a 7 <;> cases h8 : seenS l i a 8 <;> cases h9 : seenS l i a 9 <;> (
      first
        | (exfalso; simp [h8, h9] at he; done)
        | (simp (implicitDefEqProofs := false) [tblFi, rdSt, r51, st63, dataSt, d65, d66, st64, asU, hone, hst, hln, hi, hi', hil, hin, hs, hsi, hn, hroom, hmany, hr, hr2, hxv, hgo, hdl, ht, hb, h7, h8, h9, k1]
           refine ends_plan [] [0] ?_ ?_ ?_ <;> simp [fitX, bareB, hr, hr2, hb, ht, hb, h7, h8, h9, k1]))
set_option maxRecDepth 20000 in
set_option maxHeartbeats 32000000 in
theorem fits_8 (l : List Ev) (n c i : Nat) (k a t v : Int) (hn : n ≤ l.length) (hi : i < n) (hs : i ≤ 1000) (hx : l[i]? = some ⟨k, a, t, v⟩) (hv : ∀ x ∈ l, 0 ≤ x.v ∧ x.v < 18446744073709551616) (hr : ¬ a < 0) (hr2 : ¬ 64 ≤ a) (hb : seenS l i a 1 = true) (h8 : seenS l i a 8 = false) (h9 : seenS l i a 9 = false) (kk : k = 8) : Runs Tryd.prog cfg 50 [.slice (some ⟨0, 0, none⟩) n c, .int .i64 i] (AH.of [some (.ro (evs l))])
    fun r H' => r = .ret (.bool (fitX l i ⟨k, a, t, v⟩)) ∧ H' = AH.of [some (.ro (evs l))] := by
  refine Runs.ends ?_
  refine runs_by (tbl := tblFi) tblFi_ok 0 0 (af := a50) rfl ?_
  rw [a50, b50, run_eq]
  refine ⟨by simp, ?_⟩
  have hi' : (i : Int) < n := by omega
  have hsi : (i : Int) ≤ 1000 := by omega
  have hil : i ≤ l.length := by omega
  have hin : i ≤ n := by omega
  have hroom := evs_room (show i < l.length by omega)
  have hmany : ((evs l).drop (i * 4)).take 4 = [.int .u8 k, .int .i64 a, .int .i64 t, .int .u64 v] := many_evs' hx
  have hxv : 0 ≤ v ∧ v < 18446744073709551616 := hv _ (List.mem_of_getElem? hx)
  have hgo := own_good l i a
  have hst : ∀ k, seenS (l.take n) i a k = seenS l i a k := fun k => seen_take hin a k
  have hln : (l.take n).length = n := by rw [List.length_take]; omega
  have hone : asEvs [.int .u8 k, .int .i64 a, .int .i64 t, .int .u64 v] = some [⟨k, a, t, v⟩] := rfl
  have hdl : (ownS l i a).length ≤ 1000 := by have : (ownS l i a).length ≤ 5 := hgo.1.2.1; omega
  subst kk
  by_cases ht : t = 0
  · subst ht
    by_cases h0 : v = 0
    · subst h0
      cases h7 : seenS l i a 7 <;> (
        simp (implicitDefEqProofs := false) [tblFi, rdSt, r51, st63, dataSt, d65, d66, st64, asU, hone, hst, hln, hi, hi', hil, hin, hs, hsi, hn, hroom, hmany, hr, hr2, hxv, hgo, hdl, hb, h7, h8, h9]
        refine ⟨hv, ?_⟩
        refine ends_plan [] [0] ?_ ?_ ?_ <;> simp [fitX, bareB, hr, hr2, hb, hb, h7, h8, h9])
    · cases h7 : seenS l i a 7 <;> (
        simp (implicitDefEqProofs := false) [tblFi, rdSt, r51, st63, dataSt, d65, d66, st64, asU, hone, hst, hln, hi, hi', hil, hin, hs, hsi, hn, hroom, hmany, hr, hr2, hxv, hgo, hdl, h0, hb, h7, h8, h9]
        refine ⟨hv, ?_⟩
        refine ends_plan [] [0] ?_ ?_ ?_ <;> simp [fitX, bareB, hr, hr2, hb, h0, hb, h7, h8, h9])
  · cases h7 : seenS l i a 7 <;> (
      simp (implicitDefEqProofs := false) [tblFi, rdSt, r51, st63, dataSt, d65, d66, st64, asU, hone, hst, hln, hi, hi', hil, hin, hs, hsi, hn, hroom, hmany, hr, hr2, hxv, hgo, hdl, ht, hb, h7, h8, h9]
      refine ⟨hv, ?_⟩
      refine ends_plan [] [0] ?_ ?_ ?_ <;> simp [fitX, bareB, hr, hr2, hb, ht, hb, h7, h8, h9])
set_option maxRecDepth 20000 in
set_option maxHeartbeats 32000000 in
theorem fits_9 (l : List Ev) (n c i : Nat) (k a t v : Int) (hn : n ≤ l.length) (hi : i < n) (hs : i ≤ 1000) (hx : l[i]? = some ⟨k, a, t, v⟩) (hv : ∀ x ∈ l, 0 ≤ x.v ∧ x.v < 18446744073709551616) (hr : ¬ a < 0) (hr2 : ¬ 64 ≤ a) (hb : seenS l i a 1 = true) (h8 : seenS l i a 8 = false) (h9 : seenS l i a 9 = false) (kk : k = 9) : Runs Tryd.prog cfg 50 [.slice (some ⟨0, 0, none⟩) n c, .int .i64 i] (AH.of [some (.ro (evs l))])
    fun r H' => r = .ret (.bool (fitX l i ⟨k, a, t, v⟩)) ∧ H' = AH.of [some (.ro (evs l))] := by
  refine Runs.ends ?_
  refine runs_by (tbl := tblFi) tblFi_ok 0 0 (af := a50) rfl ?_
  rw [a50, b50, run_eq]
  refine ⟨by simp, ?_⟩
  have hi' : (i : Int) < n := by omega
  have hsi : (i : Int) ≤ 1000 := by omega
  have hil : i ≤ l.length := by omega
  have hin : i ≤ n := by omega
  have hroom := evs_room (show i < l.length by omega)
  have hmany : ((evs l).drop (i * 4)).take 4 = [.int .u8 k, .int .i64 a, .int .i64 t, .int .u64 v] := many_evs' hx
  have hxv : 0 ≤ v ∧ v < 18446744073709551616 := hv _ (List.mem_of_getElem? hx)
  have hgo := own_good l i a
  have hst : ∀ k, seenS (l.take n) i a k = seenS l i a k := fun k => seen_take hin a k
  have hln : (l.take n).length = n := by rw [List.length_take]; omega
  have hone : asEvs [.int .u8 k, .int .i64 a, .int .i64 t, .int .u64 v] = some [⟨k, a, t, v⟩] := rfl
  have hdl : (ownS l i a).length ≤ 1000 := by have : (ownS l i a).length ≤ 5 := hgo.1.2.1; omega
  subst kk
  by_cases ht : t = 0
  · subst ht
    by_cases h0 : v = 0
    · subst h0
      cases h7 : seenS l i a 7 <;> (
        simp (implicitDefEqProofs := false) [tblFi, rdSt, r51, st63, dataSt, d65, d66, st64, asU, hone, hst, hln, hi, hi', hil, hin, hs, hsi, hn, hroom, hmany, hr, hr2, hxv, hgo, hdl, hb, h7, h8, h9]
        refine ⟨hv, ?_⟩
        refine ends_plan [] [0] ?_ ?_ ?_ <;> simp [fitX, bareB, hr, hr2, hb, hb, h7, h8, h9])
    · cases h7 : seenS l i a 7 <;> (
        simp (implicitDefEqProofs := false) [tblFi, rdSt, r51, st63, dataSt, d65, d66, st64, asU, hone, hst, hln, hi, hi', hil, hin, hs, hsi, hn, hroom, hmany, hr, hr2, hxv, hgo, hdl, h0, hb, h7, h8, h9]
        refine ⟨hv, ?_⟩
        refine ends_plan [] [0] ?_ ?_ ?_ <;> simp [fitX, bareB, hr, hr2, hb, h0, hb, h7, h8, h9])
  · cases h7 : seenS l i a 7 <;> (
      simp (implicitDefEqProofs := false) [tblFi, rdSt, r51, st63, dataSt, d65, d66, st64, asU, hone, hst, hln, hi, hi', hil, hin, hs, hsi, hn, hroom, hmany, hr, hr2, hxv, hgo, hdl, ht, hb, h7, h8, h9]
      refine ⟨hv, ?_⟩
      refine ends_plan [] [0] ?_ ?_ ?_ <;> simp [fitX, bareB, hr, hr2, hb, ht, hb, h7, h8, h9])
set_option maxRecDepth 20000 in
set_option maxHeartbeats 32000000 in
theorem fits_2 (l : List Ev) (n c i : Nat) (k a t v : Int) (hn : n ≤ l.length) (hi : i < n) (hs : i ≤ 1000) (hx : l[i]? = some ⟨k, a, t, v⟩) (hv : ∀ x ∈ l, 0 ≤ x.v ∧ x.v < 18446744073709551616) (hr : ¬ a < 0) (hr2 : ¬ 64 ≤ a) (hb : seenS l i a 1 = true) (h8 : seenS l i a 8 = false) (h9 : seenS l i a 9 = false) (kk : k = 2) : Runs Tryd.prog cfg 50 [.slice (some ⟨0, 0, none⟩) n c, .int .i64 i] (AH.of [some (.ro (evs l))])
    fun r H' => r = .ret (.bool (fitX l i ⟨k, a, t, v⟩)) ∧ H' = AH.of [some (.ro (evs l))] := by
  refine Runs.ends ?_
  refine runs_by (tbl := tblFi) tblFi_ok 0 0 (af := a50) rfl ?_
  rw [a50, b50, run_eq]
  refine ⟨by simp, ?_⟩
  have hi' : (i : Int) < n := by omega
  have hsi : (i : Int) ≤ 1000 := by omega
  have hil : i ≤ l.length := by omega
  have hin : i ≤ n := by omega
  have hroom := evs_room (show i < l.length by omega)
  have hmany : ((evs l).drop (i * 4)).take 4 = [.int .u8 k, .int .i64 a, .int .i64 t, .int .u64 v] := many_evs' hx
  have hxv : 0 ≤ v ∧ v < 18446744073709551616 := hv _ (List.mem_of_getElem? hx)
  have hgo := own_good l i a
  have hst : ∀ k, seenS (l.take n) i a k = seenS l i a k := fun k => seen_take hin a k
  have hln : (l.take n).length = n := by rw [List.length_take]; omega
  have hone : asEvs [.int .u8 k, .int .i64 a, .int .i64 t, .int .u64 v] = some [⟨k, a, t, v⟩] := rfl
  have hdl : (ownS l i a).length ≤ 1000 := by have : (ownS l i a).length ≤ 5 := hgo.1.2.1; omega
  subst kk
  by_cases ht : t = 0
  · subst ht
    by_cases h0 : v = 0
    · subst h0
      cases h7 : seenS l i a 7 <;> cases g3 : rightB 0 <;> (
        simp (implicitDefEqProofs := false) [tblFi, rdSt, r51, st63, dataSt, d65, d66, st64, asU, hone, hst, hln, hi, hi', hil, hin, hs, hsi, hn, hroom, hmany, hr, hr2, hxv, hgo, hdl, hb, h7, h8, h9, g3]
        refine ⟨hv, ?_⟩
        refine ends_plan [] [0] ?_ ?_ ?_ <;> simp [fitX, bareB, hr, hr2, hb, hb, h7, h8, h9, g3])
    · cases h7 : seenS l i a 7 <;> cases g3 : rightB v <;> (
        simp (implicitDefEqProofs := false) [tblFi, rdSt, r51, st63, dataSt, d65, d66, st64, asU, hone, hst, hln, hi, hi', hil, hin, hs, hsi, hn, hroom, hmany, hr, hr2, hxv, hgo, hdl, h0, hb, h7, h8, h9, g3]
        refine ⟨hv, ?_⟩
        refine ends_plan [] [0] ?_ ?_ ?_ <;> simp [fitX, bareB, hr, hr2, hb, h0, hb, h7, h8, h9, g3])
  · cases h7 : seenS l i a 7 <;> by_cases g1 : 0 ≤ t <;> by_cases g2 : t < 12 <;> cases g3 : rightB v <;> (
      simp (implicitDefEqProofs := false) [tblFi, rdSt, r51, st63, dataSt, d65, d66, st64, asU, hone, hst, hln, hi, hi', hil, hin, hs, hsi, hn, hroom, hmany, hr, hr2, hxv, hgo, hdl, ht, hb, h7, h8, h9, g1, g2, g3]
      refine ⟨hv, ?_⟩
      refine ends_plan [] [0] ?_ ?_ ?_ <;> simp [fitX, bareB, hr, hr2, hb, ht, hb, h7, h8, h9, g1, g2, g3])
set_option maxRecDepth 20000 in
set_option maxHeartbeats 32000000 in
theorem fits_3 (l : List Ev) (n c i : Nat) (k a t v : Int) (hn : n ≤ l.length) (hi : i < n) (hs : i ≤ 1000) (hx : l[i]? = some ⟨k, a, t, v⟩) (hv : ∀ x ∈ l, 0 ≤ x.v ∧ x.v < 18446744073709551616) (hr : ¬ a < 0) (hr2 : ¬ 64 ≤ a) (hb : seenS l i a 1 = true) (h8 : seenS l i a 8 = false) (h9 : seenS l i a 9 = false) (kk : k = 3) : Runs Tryd.prog cfg 50 [.slice (some ⟨0, 0, none⟩) n c, .int .i64 i] (AH.of [some (.ro (evs l))])
    fun r H' => r = .ret (.bool (fitX l i ⟨k, a, t, v⟩)) ∧ H' = AH.of [some (.ro (evs l))] := by
  refine Runs.ends ?_
  refine runs_by (tbl := tblFi) tblFi_ok 0 0 (af := a50) rfl ?_
  rw [a50, b50, run_eq]
  refine ⟨by simp, ?_⟩
  have hi' : (i : Int) < n := by omega
  have hsi : (i : Int) ≤ 1000 := by omega
  have hil : i ≤ l.length := by omega
  have hin : i ≤ n := by omega
  have hroom := evs_room (show i < l.length by omega)
  have hmany : ((evs l).drop (i * 4)).take 4 = [.int .u8 k, .int .i64 a, .int .i64 t, .int .u64 v] := many_evs' hx
  have hxv : 0 ≤ v ∧ v < 18446744073709551616 := hv _ (List.mem_of_getElem? hx)
  have hgo := own_good l i a
  have hst : ∀ k, seenS (l.take n) i a k = seenS l i a k := fun k => seen_take hin a k
  have hln : (l.take n).length = n := by rw [List.length_take]; omega
  have hone : asEvs [.int .u8 k, .int .i64 a, .int .i64 t, .int .u64 v] = some [⟨k, a, t, v⟩] := rfl
  have hdl : (ownS l i a).length ≤ 1000 := by have : (ownS l i a).length ≤ 5 := hgo.1.2.1; omega
  subst kk
  by_cases ht : t = 0
  · subst ht
    by_cases h0 : v = 0
    · subst h0
      cases h7 : seenS l i a 7 <;> by_cases ga : (actS (ownS l i a) ⟨3, a, 0, 0⟩).1 = 0 <;> (
        simp (implicitDefEqProofs := false) [tblFi, rdSt, r51, st63, dataSt, d65, d66, st64, asU, hone, hst, hln, hi, hi', hil, hin, hs, hsi, hn, hroom, hmany, hr, hr2, hxv, hgo, hdl, hb, h7, h8, h9, ga]
        refine ⟨hv, ?_⟩
        refine ends_plan [] [0] ?_ ?_ ?_ <;> simp [fitX, bareB, hr, hr2, hb, hb, h7, h8, h9, ga])
    · cases h7 : seenS l i a 7 <;> by_cases ga : (actS (ownS l i a) ⟨3, a, 0, v⟩).1 = 0 <;> (
        simp (implicitDefEqProofs := false) [tblFi, rdSt, r51, st63, dataSt, d65, d66, st64, asU, hone, hst, hln, hi, hi', hil, hin, hs, hsi, hn, hroom, hmany, hr, hr2, hxv, hgo, hdl, h0, hb, h7, h8, h9, ga]
        refine ⟨hv, ?_⟩
        refine ends_plan [] [0] ?_ ?_ ?_ <;> simp [fitX, bareB, hr, hr2, hb, h0, hb, h7, h8, h9, ga])
  · cases h7 : seenS l i a 7 <;> by_cases ga : (actS (ownS l i a) ⟨3, a, t, v⟩).1 = 0 <;> (
      simp (implicitDefEqProofs := false) [tblFi, rdSt, r51, st63, dataSt, d65, d66, st64, asU, hone, hst, hln, hi, hi', hil, hin, hs, hsi, hn, hroom, hmany, hr, hr2, hxv, hgo, hdl, ht, hb, h7, h8, h9, ga]
      refine ⟨hv, ?_⟩
      refine ends_plan [] [0] ?_ ?_ ?_ <;> simp [fitX, bareB, hr, hr2, hb, ht, hb, h7, h8, h9, ga])
set_option maxRecDepth 20000 in
set_option maxHeartbeats 32000000 in
theorem fits_4 (l : List Ev) (n c i : Nat) (k a t v : Int) (hn : n ≤ l.length) (hi : i < n) (hs : i ≤ 1000) (hx : l[i]? = some ⟨k, a, t, v⟩) (hv : ∀ x ∈ l, 0 ≤ x.v ∧ x.v < 18446744073709551616) (hr : ¬ a < 0) (hr2 : ¬ 64 ≤ a) (hb : seenS l i a 1 = true) (h8 : seenS l i a 8 = false) (h9 : seenS l i a 9 = false) (kk : k = 4) : Runs Tryd.prog cfg 50 [.slice (some ⟨0, 0, none⟩) n c, .int .i64 i] (AH.of [some (.ro (evs l))])
    fun r H' => r = .ret (.bool (fitX l i ⟨k, a, t, v⟩)) ∧ H' = AH.of [some (.ro (evs l))] := by
  refine Runs.ends ?_
  refine runs_by (tbl := tblFi) tblFi_ok 0 0 (af := a50) rfl ?_
  rw [a50, b50, run_eq]
  refine ⟨by simp, ?_⟩
  have hi' : (i : Int) < n := by omega
  have hsi : (i : Int) ≤ 1000 := by omega
  have hil : i ≤ l.length := by omega
  have hin : i ≤ n := by omega
  have hroom := evs_room (show i < l.length by omega)
  have hmany : ((evs l).drop (i * 4)).take 4 = [.int .u8 k, .int .i64 a, .int .i64 t, .int .u64 v] := many_evs' hx
  have hxv : 0 ≤ v ∧ v < 18446744073709551616 := hv _ (List.mem_of_getElem? hx)
  have hgo := own_good l i a
  have hst : ∀ k, seenS (l.take n) i a k = seenS l i a k := fun k => seen_take hin a k
  have hln : (l.take n).length = n := by rw [List.length_take]; omega
  have hone : asEvs [.int .u8 k, .int .i64 a, .int .i64 t, .int .u64 v] = some [⟨k, a, t, v⟩] := rfl
  have hdl : (ownS l i a).length ≤ 1000 := by have : (ownS l i a).length ≤ 5 := hgo.1.2.1; omega
  subst kk
  by_cases ht : t = 0
  · subst ht
    by_cases h0 : v = 0
    · subst h0
      cases h7 : seenS l i a 7 <;> by_cases ga : (actS (ownS l i a) ⟨4, a, 0, 0⟩).1 = 0 <;> (
        simp (implicitDefEqProofs := false) [tblFi, rdSt, r51, st63, dataSt, d65, d66, st64, asU, hone, hst, hln, hi, hi', hil, hin, hs, hsi, hn, hroom, hmany, hr, hr2, hxv, hgo, hdl, hb, h7, h8, h9, ga]
        refine ⟨hv, ?_⟩
        refine ends_plan [] [0] ?_ ?_ ?_ <;> simp [fitX, bareB, hr, hr2, hb, hb, h7, h8, h9, ga])
    · cases h7 : seenS l i a 7 <;> by_cases ga : (actS (ownS l i a) ⟨4, a, 0, v⟩).1 = 0 <;> (
        simp (implicitDefEqProofs := false) [tblFi, rdSt, r51, st63, dataSt, d65, d66, st64, asU, hone, hst, hln, hi, hi', hil, hin, hs, hsi, hn, hroom, hmany, hr, hr2, hxv, hgo, hdl, h0, hb, h7, h8, h9, ga]
        refine ⟨hv, ?_⟩
        refine ends_plan [] [0] ?_ ?_ ?_ <;> simp [fitX, bareB, hr, hr2, hb, h0, hb, h7, h8, h9, ga])
  · cases h7 : seenS l i a 7 <;> by_cases ga : (actS (ownS l i a) ⟨4, a, t, v⟩).1 = 0 <;> (
      simp (implicitDefEqProofs := false) [tblFi, rdSt, r51, st63, dataSt, d65, d66, st64, asU, hone, hst, hln, hi, hi', hil, hin, hs, hsi, hn, hroom, hmany, hr, hr2, hxv, hgo, hdl, ht, hb, h7, h8, h9, ga]
      refine ⟨hv, ?_⟩
      refine ends_plan [] [0] ?_ ?_ ?_ <;> simp [fitX, bareB, hr, hr2, hb, ht, hb, h7, h8, h9, ga])
set_option maxRecDepth 20000 in
set_option maxHeartbeats 32000000 in
theorem fits_5 (l : List Ev) (n c i : Nat) (k a t v : Int) (hn : n ≤ l.length) (hi : i < n) (hs : i ≤ 1000) (hx : l[i]? = some ⟨k, a, t, v⟩) (hv : ∀ x ∈ l, 0 ≤ x.v ∧ x.v < 18446744073709551616) (hr : ¬ a < 0) (hr2 : ¬ 64 ≤ a) (hb : seenS l i a 1 = true) (h8 : seenS l i a 8 = false) (h9 : seenS l i a 9 = false) (kk : k = 5) : Runs Tryd.prog cfg 50 [.slice (some ⟨0, 0, none⟩) n c, .int .i64 i] (AH.of [some (.ro (evs l))])
    fun r H' => r = .ret (.bool (fitX l i ⟨k, a, t, v⟩)) ∧ H' = AH.of [some (.ro (evs l))] := by
  refine Runs.ends ?_
  refine runs_by (tbl := tblFi) tblFi_ok 0 0 (af := a50) rfl ?_
  rw [a50, b50, run_eq]
  refine ⟨by simp, ?_⟩
  have hi' : (i : Int) < n := by omega
  have hsi : (i : Int) ≤ 1000 := by omega
  have hil : i ≤ l.length := by omega
  have hin : i ≤ n := by omega
  have hroom := evs_room (show i < l.length by omega)
  have hmany : ((evs l).drop (i * 4)).take 4 = [.int .u8 k, .int .i64 a, .int .i64 t, .int .u64 v] := many_evs' hx
  have hxv : 0 ≤ v ∧ v < 18446744073709551616 := hv _ (List.mem_of_getElem? hx)
  have hgo := own_good l i a
  have hst : ∀ k, seenS (l.take n) i a k = seenS l i a k := fun k => seen_take hin a k
  have hln : (l.take n).length = n := by rw [List.length_take]; omega
  have hone : asEvs [.int .u8 k, .int .i64 a, .int .i64 t, .int .u64 v] = some [⟨k, a, t, v⟩] := rfl
  have hdl : (ownS l i a).length ≤ 1000 := by have : (ownS l i a).length ≤ 5 := hgo.1.2.1; omega
  subst kk
  by_cases ht : t = 0
  · subst ht
    by_cases h0 : v = 0
    · subst h0
      cases h7 : seenS l i a 7 <;> by_cases ga : (actS (ownS l i a) ⟨5, a, 0, 0⟩).1 = 0 <;> (
        simp (implicitDefEqProofs := false) [tblFi, rdSt, r51, st63, dataSt, d65, d66, st64, asU, hone, hst, hln, hi, hi', hil, hin, hs, hsi, hn, hroom, hmany, hr, hr2, hxv, hgo, hdl, hb, h7, h8, h9, ga]
        refine ⟨hv, ?_⟩
        refine ends_plan [] [0] ?_ ?_ ?_ <;> simp [fitX, bareB, hr, hr2, hb, hb, h7, h8, h9, ga])
    · cases h7 : seenS l i a 7 <;> by_cases ga : (actS (ownS l i a) ⟨5, a, 0, v⟩).1 = 0 <;> (
        simp (implicitDefEqProofs := false) [tblFi, rdSt, r51, st63, dataSt, d65, d66, st64, asU, hone, hst, hln, hi, hi', hil, hin, hs, hsi, hn, hroom, hmany, hr, hr2, hxv, hgo, hdl, h0, hb, h7, h8, h9, ga]
        refine ⟨hv, ?_⟩
        refine ends_plan [] [0] ?_ ?_ ?_ <;> simp [fitX, bareB, hr, hr2, hb, h0, hb, h7, h8, h9, ga])
  · cases h7 : seenS l i a 7 <;> by_cases ga : (actS (ownS l i a) ⟨5, a, t, v⟩).1 = 0 <;> (
      simp (implicitDefEqProofs := false) [tblFi, rdSt, r51, st63, dataSt, d65, d66, st64, asU, hone, hst, hln, hi, hi', hil, hin, hs, hsi, hn, hroom, hmany, hr, hr2, hxv, hgo, hdl, ht, hb, h7, h8, h9, ga]
      refine ⟨hv, ?_⟩
      refine ends_plan [] [0] ?_ ?_ ?_ <;> simp [fitX, bareB, hr, hr2, hb, ht, hb, h7, h8, h9, ga])
set_option maxRecDepth 20000 in
set_option maxHeartbeats 32000000 in
theorem fits_6 (l : List Ev) (n c i : Nat) (k a t v : Int) (hn : n ≤ l.length) (hi : i < n) (hs : i ≤ 1000) (hx : l[i]? = some ⟨k, a, t, v⟩) (hv : ∀ x ∈ l, 0 ≤ x.v ∧ x.v < 18446744073709551616) (hr : ¬ a < 0) (hr2 : ¬ 64 ≤ a) (hb : seenS l i a 1 = true) (h8 : seenS l i a 8 = false) (h9 : seenS l i a 9 = false) (kk : k = 6) : Runs Tryd.prog cfg 50 [.slice (some ⟨0, 0, none⟩) n c, .int .i64 i] (AH.of [some (.ro (evs l))])
    fun r H' => r = .ret (.bool (fitX l i ⟨k, a, t, v⟩)) ∧ H' = AH.of [some (.ro (evs l))] := by
  refine Runs.ends ?_
  refine runs_by (tbl := tblFi) tblFi_ok 0 0 (af := a50) rfl ?_
  rw [a50, b50, run_eq]
  refine ⟨by simp, ?_⟩
  have hi' : (i : Int) < n := by omega
  have hsi : (i : Int) ≤ 1000 := by omega
  have hil : i ≤ l.length := by omega
  have hin : i ≤ n := by omega
  have hroom := evs_room (show i < l.length by omega)
  have hmany : ((evs l).drop (i * 4)).take 4 = [.int .u8 k, .int .i64 a, .int .i64 t, .int .u64 v] := many_evs' hx
  have hxv : 0 ≤ v ∧ v < 18446744073709551616 := hv _ (List.mem_of_getElem? hx)
  have hgo := own_good l i a
  have hst : ∀ k, seenS (l.take n) i a k = seenS l i a k := fun k => seen_take hin a k
  have hln : (l.take n).length = n := by rw [List.length_take]; omega
  have hone : asEvs [.int .u8 k, .int .i64 a, .int .i64 t, .int .u64 v] = some [⟨k, a, t, v⟩] := rfl
  have hdl : (ownS l i a).length ≤ 1000 := by have : (ownS l i a).length ≤ 5 := hgo.1.2.1; omega
  subst kk
  by_cases ht : t = 0
  · subst ht
    by_cases h0 : v = 0
    · subst h0
      cases h7 : seenS l i a 7 <;> by_cases ga : (actS (ownS l i a) ⟨6, a, 0, 0⟩).1 = 0 <;> (
        simp (implicitDefEqProofs := false) [tblFi, rdSt, r51, st63, dataSt, d65, d66, st64, asU, hone, hst, hln, hi, hi', hil, hin, hs, hsi, hn, hroom, hmany, hr, hr2, hxv, hgo, hdl, hb, h7, h8, h9, ga]
        refine ⟨hv, ?_⟩
        refine ends_plan [] [0] ?_ ?_ ?_ <;> simp [fitX, bareB, hr, hr2, hb, hb, h7, h8, h9, ga])
    · cases h7 : seenS l i a 7 <;> by_cases ga : (actS (ownS l i a) ⟨6, a, 0, v⟩).1 = 0 <;> (
        simp (implicitDefEqProofs := false) [tblFi, rdSt, r51, st63, dataSt, d65, d66, st64, asU, hone, hst, hln, hi, hi', hil, hin, hs, hsi, hn, hroom, hmany, hr, hr2, hxv, hgo, hdl, h0, hb, h7, h8, h9, ga]
        refine ⟨hv, ?_⟩
        refine ends_plan [] [0] ?_ ?_ ?_ <;> simp [fitX, bareB, hr, hr2, hb, h0, hb, h7, h8, h9, ga])
  · cases h7 : seenS l i a 7 <;> by_cases ga : (actS (ownS l i a) ⟨6, a, t, v⟩).1 = 0 <;> (
      simp (implicitDefEqProofs := false) [tblFi, rdSt, r51, st63, dataSt, d65, d66, st64, asU, hone, hst, hln, hi, hi', hil, hin, hs, hsi, hn, hroom, hmany, hr, hr2, hxv, hgo, hdl, ht, hb, h7, h8, h9, ga]
      refine ⟨hv, ?_⟩
      refine ends_plan [] [0] ?_ ?_ ?_ <;> simp [fitX, bareB, hr, hr2, hb, ht, hb, h7, h8, h9, ga])
set_option maxRecDepth 20000 in
set_option maxHeartbeats 32000000 in
theorem fits_7 (l : List Ev) (n c i : Nat) (k a t v : Int) (hn : n ≤ l.length) (hi : i < n) (hs : i ≤ 1000) (hx : l[i]? = some ⟨k, a, t, v⟩) (hv : ∀ x ∈ l, 0 ≤ x.v ∧ x.v < 18446744073709551616) (hr : ¬ a < 0) (hr2 : ¬ 64 ≤ a) (hb : seenS l i a 1 = true) (h8 : seenS l i a 8 = false) (h9 : seenS l i a 9 = false) (kk : k = 7) : Runs Tryd.prog cfg 50 [.slice (some ⟨0, 0, none⟩) n c, .int .i64 i] (AH.of [some (.ro (evs l))])
    fun r H' => r = .ret (.bool (fitX l i ⟨k, a, t, v⟩)) ∧ H' = AH.of [some (.ro (evs l))] := by
  refine Runs.ends ?_
  refine runs_by (tbl := tblFi) tblFi_ok 0 0 (af := a50) rfl ?_
  rw [a50, b50, run_eq]
  refine ⟨by simp, ?_⟩
  have hi' : (i : Int) < n := by omega
  have hsi : (i : Int) ≤ 1000 := by omega
  have hil : i ≤ l.length := by omega
  have hin : i ≤ n := by omega
  have hroom := evs_room (show i < l.length by omega)
  have hmany : ((evs l).drop (i * 4)).take 4 = [.int .u8 k, .int .i64 a, .int .i64 t, .int .u64 v] := many_evs' hx
  have hxv : 0 ≤ v ∧ v < 18446744073709551616 := hv _ (List.mem_of_getElem? hx)
  have hgo := own_good l i a
  have hst : ∀ k, seenS (l.take n) i a k = seenS l i a k := fun k => seen_take hin a k
  have hln : (l.take n).length = n := by rw [List.length_take]; omega
  have hone : asEvs [.int .u8 k, .int .i64 a, .int .i64 t, .int .u64 v] = some [⟨k, a, t, v⟩] := rfl
  have hdl : (ownS l i a).length ≤ 1000 := by have : (ownS l i a).length ≤ 5 := hgo.1.2.1; omega
  subst kk
  by_cases ht : t = 0
  · subst ht
    by_cases h0 : v = 0
    · subst h0
      cases h7 : seenS l i a 7 <;> by_cases gd : (ownS l i a).length = 1 <;> (
        have gd' : ((ownS l i a).length : Int) - 1 = 0 ↔ (ownS l i a).length = 1 := by omega
        simp (implicitDefEqProofs := false) [tblFi, rdSt, r51, st63, dataSt, d65, d66, st64, asU, hone, hst, hln, hi, hi', hil, hin, hs, hsi, hn, hroom, hmany, hr, hr2, hxv, hgo, hdl, hb, h7, h8, h9, gd, gd']
        refine ⟨hv, ?_⟩
        refine ends_plan [] [0] ?_ ?_ ?_ <;> simp [fitX, bareB, hr, hr2, hb, hb, h7, h8, h9, gd, gd'])
    · cases h7 : seenS l i a 7 <;> by_cases gd : (ownS l i a).length = 1 <;> (
        have gd' : ((ownS l i a).length : Int) - 1 = 0 ↔ (ownS l i a).length = 1 := by omega
        simp (implicitDefEqProofs := false) [tblFi, rdSt, r51, st63, dataSt, d65, d66, st64, asU, hone, hst, hln, hi, hi', hil, hin, hs, hsi, hn, hroom, hmany, hr, hr2, hxv, hgo, hdl, h0, hb, h7, h8, h9, gd, gd']
        refine ⟨hv, ?_⟩
        refine ends_plan [] [0] ?_ ?_ ?_ <;> simp [fitX, bareB, hr, hr2, hb, h0, hb, h7, h8, h9, gd, gd'])
  · cases h7 : seenS l i a 7 <;> by_cases gd : (ownS l i a).length = 1 <;> (
      have gd' : ((ownS l i a).length : Int) - 1 = 0 ↔ (ownS l i a).length = 1 := by omega
      simp (implicitDefEqProofs := false) [tblFi, rdSt, r51, st63, dataSt, d65, d66, st64, asU, hone, hst, hln, hi, hi', hil, hin, hs, hsi, hn, hroom, hmany, hr, hr2, hxv, hgo, hdl, ht, hb, h7, h8, h9, gd, gd']
      refine ⟨hv, ?_⟩
      refine ends_plan [] [0] ?_ ?_ ?_ <;> simp [fitX, bareB, hr, hr2, hb, ht, hb, h7, h8, h9, gd, gd'])
set_option maxRecDepth 20000 in
set_option maxHeartbeats 32000000 in
theorem fits_else (l : List Ev) (n c i : Nat) (k a t v : Int) (hn : n ≤ l.length) (hi : i < n) (hs : i ≤ 1000) (hx : l[i]? = some ⟨k, a, t, v⟩) (hv : ∀ x ∈ l, 0 ≤ x.v ∧ x.v < 18446744073709551616) (hr : ¬ a < 0) (hr2 : ¬ 64 ≤ a) (hb : seenS l i a 1 = true) (h8 : seenS l i a 8 = false) (h9 : seenS l i a 9 = false) (hk : ¬ k = 1 ∧ ¬ k = 2 ∧ ¬ k = 3 ∧ ¬ k = 4 ∧ ¬ k = 5 ∧ ¬ k = 6 ∧ ¬ k = 7 ∧ ¬ k = 8 ∧ ¬ k = 9) : Runs Tryd.prog cfg 50 [.slice (some ⟨0, 0, none⟩) n c, .int .i64 i] (AH.of [some (.ro (evs l))])
    fun r H' => r = .ret (.bool (fitX l i ⟨k, a, t, v⟩)) ∧ H' = AH.of [some (.ro (evs l))] := by
  refine Runs.ends ?_
  refine runs_by (tbl := tblFi) tblFi_ok 0 0 (af := a50) rfl ?_
  rw [a50, b50, run_eq]
  refine ⟨by simp, ?_⟩
  have hi' : (i : Int) < n := by omega
  have hsi : (i : Int) ≤ 1000 := by omega
  have hil : i ≤ l.length := by omega
  have hin : i ≤ n := by omega
  have hroom := evs_room (show i < l.length by omega)
  have hmany : ((evs l).drop (i * 4)).take 4 = [.int .u8 k, .int .i64 a, .int .i64 t, .int .u64 v] := many_evs' hx
  have hxv : 0 ≤ v ∧ v < 18446744073709551616 := hv _ (List.mem_of_getElem? hx)
  have hgo := own_good l i a
  have hst : ∀ k, seenS (l.take n) i a k = seenS l i a k := fun k => seen_take hin a k
  have hln : (l.take n).length = n := by rw [List.length_take]; omega
  have hone : asEvs [.int .u8 k, .int .i64 a, .int .i64 t, .int .u64 v] = some [⟨k, a, t, v⟩] := rfl
  have hdl : (ownS l i a).length ≤ 1000 := by have : (ownS l i a).length ≤ 5 := hgo.1.2.1; omega
  obtain ⟨q1, q2, q3, q4, q5, q6, q7, q8, q9⟩ := hk
  by_cases ht : t = 0
  · subst ht
    by_cases h0 : v = 0
    · subst h0
      cases h7 : seenS l i a 7 <;> (
        simp (implicitDefEqProofs := false) [tblFi, rdSt, r51, st63, dataSt, d65, d66, st64, asU, hone, hst, hln, hi, hi', hil, hin, hs, hsi, hn, hroom, hmany, hr, hr2, hxv, hgo, hdl, hb, h7, h8, h9, q1, q2, q3, q4, q5, q6, q7, q8, q9]
        refine ⟨hv, ?_⟩
        refine ends_plan [] [0] ?_ ?_ ?_ <;> simp [fitX, bareB, hr, hr2, hb, hb, h7, h8, h9, q1, q2, q3, q4, q5, q6, q7, q8, q9])
    · cases h7 : seenS l i a 7 <;> (
        simp (implicitDefEqProofs := false) [tblFi, rdSt, r51, st63, dataSt, d65, d66, st64, asU, hone, hst, hln, hi, hi', hil, hin, hs, hsi, hn, hroom, hmany, hr, hr2, hxv, hgo, hdl, h0, hb, h7, h8, h9, q1, q2, q3, q4, q5, q6, q7, q8, q9]
        refine ⟨hv, ?_⟩
        refine ends_plan [] [0] ?_ ?_ ?_ <;> simp [fitX, bareB, hr, hr2, hb, h0, hb, h7, h8, h9, q1, q2, q3, q4, q5, q6, q7, q8, q9])
  · cases h7 : seenS l i a 7 <;> (
      simp (implicitDefEqProofs := false) [tblFi, rdSt, r51, st63, dataSt, d65, d66, st64, asU, hone, hst, hln, hi, hi', hil, hin, hs, hsi, hn, hroom, hmany, hr, hr2, hxv, hgo, hdl, ht, hb, h7, h8, h9, q1, q2, q3, q4, q5, q6, q7, q8, q9]
      refine ⟨hv, ?_⟩
      refine ends_plan [] [0] ?_ ?_ ?_ <;> simp [fitX, bareB, hr, hr2, hb, ht, hb, h7, h8, h9, q1, q2, q3, q4, q5, q6, q7, q8, q9])
theorem runs50 (l : List Ev) (n c i : Nat) (x : Ev) (hn : n ≤ l.length) (hi : i < n) (hs : i ≤ 1000) (hx : l[i]? = some x) (hv : ∀ x ∈ l, 0 ≤ x.v ∧ x.v < 18446744073709551616) : Runs Tryd.prog cfg 50 [.slice (some ⟨0, 0, none⟩) n c, .int .i64 i] (AH.of [some (.ro (evs l))])
    fun r H' => r = .ret (.bool (fitX l i x)) ∧ H' = AH.of [some (.ro (evs l))] := by
  obtain ⟨k, a, t, v⟩ := x
  by_cases hr : a < 0 ∨ 64 ≤ a
  · exact fits_out l n c i k a t v hn hi hs hx hv hr
  have hr1 : ¬ a < 0 := by omega
  have hr2 : ¬ 64 ≤ a := by omega
  cases hb : seenS l i a 1 with
  | false => exact fits_no l n c i k a t v hn hi hs hx hv hr1 hr2 hb
  | true =>
    by_cases k1 : k = 1
    · exact fits_first l n c i k a t v hn hi hs hx hv hr1 hr2 hb k1
    by_cases he : seenS l i a 8 = true ∨ seenS l i a 9 = true
    · exact fits_ended l n c i k a t v hn hi hs hx hv hr1 hr2 hb k1 he
    have h8 : seenS l i a 8 = false := by
      cases h : seenS l i a 8 with
      | false => rfl
      | true => exact absurd (.inl h) he
    have h9 : seenS l i a 9 = false := by
      cases h : seenS l i a 9 with
      | false => rfl
      | true => exact absurd (.inr h) he
    by_cases k2 : k = 2
    · exact fits_2 l n c i k a t v hn hi hs hx hv hr1 hr2 hb h8 h9 k2
    by_cases k3 : k = 3
    · exact fits_3 l n c i k a t v hn hi hs hx hv hr1 hr2 hb h8 h9 k3
    by_cases k4 : k = 4
    · exact fits_4 l n c i k a t v hn hi hs hx hv hr1 hr2 hb h8 h9 k4
    by_cases k5 : k = 5
    · exact fits_5 l n c i k a t v hn hi hs hx hv hr1 hr2 hb h8 h9 k5
    by_cases k6 : k = 6
    · exact fits_6 l n c i k a t v hn hi hs hx hv hr1 hr2 hb h8 h9 k6
    by_cases k7 : k = 7
    · exact fits_7 l n c i k a t v hn hi hs hx hv hr1 hr2 hb h8 h9 k7
    by_cases k8 : k = 8
    · exact fits_8 l n c i k a t v hn hi hs hx hv hr1 hr2 hb h8 h9 k8
    by_cases k9 : k = 9
    · exact fits_9 l n c i k a t v hn hi hs hx hv hr1 hr2 hb h8 h9 k9
    exact fits_else l n c i k a t v hn hi hs hx hv hr1 hr2 hb h8 h9 ⟨k1, k2, k3, k4, k5, k6, k7, k8, k9⟩
end YtmhkpababjdnbaaDoor
end Go.Proofs
/-
  TRACE: Merge.
-/
set_option linter.unusedSimpArgs false
set_option linter.unusedVariables false
set_option linter.unnecessarySimpa false
set_option linter.unusedSectionVars false
namespace Go.Proofs
namespace YtmhkpababjdnbaaDoor
open Go.Abs
set_option linter.unusedSimpArgs false

section
variable (l m : List Ev) (n1 n2 c1 c2 : Nat) (h1 : n1 ≤ l.length) (h2 : n2 ≤ m.length) (s1 : n1 ≤ 1000) (s2 : n2 ≤ 1000) (v1 : ∀ x ∈ l.take n1, 0 ≤ x.v ∧ x.v < 18446744073709551616) (v2 : ∀ x ∈ m.take n2, 0 ≤ x.v ∧ x.v < 18446744073709551616)
include h1 h2 s1 s2 v1 v2
end
end YtmhkpababjdnbaaDoor
end Go.Proofs
/-
  The document's history: Right; its trace: above.
-/
set_option linter.unusedSimpArgs false
set_option linter.unusedVariables false
set_option linter.unnecessarySimpa false
set_option linter.unusedSectionVars false
namespace Go.Proofs
namespace YtmhkpababjdnbaaDoor
open Go.Abs
set_option linter.unusedSimpArgs false

theorem fit_pre (l : List Ev) {n j : Nat} (x : Ev) (h : j ≤ n) : fitX (l.take n) j x = fitX l j x := by
  have h1 : ∀ a k, seenS (l.take n) j a k = seenS l j a k := fun a k => seen_take h a k
  have h2 : ∀ a, ownS (l.take n) j a = ownS l j a := fun a => by unfold ownS; rw [List.take_take, Nat.min_eq_left h]
  unfold fitX
  simp only [h1, h2]
def st50 : CStep GD := fun args H => match args with
  | [.slice (some ⟨k, 0, none⟩) n _, .int .i64 i] => match H.get k with
    | some (.ro cs) => (asEvs cs).bind fun l => (l[i.toNat]?).map fun x => (n ≤ l.length ∧ 0 ≤ i ∧ i < n ∧ i ≤ 1000 ∧ ∀ x ∈ l, 0 ≤ x.v ∧ x.v < 18446744073709551616, .ret (.bool (fitX l i.toNat x)), H)
    | _ => none
  | _ => none
theorem st50_ok : CStepOk Tryd.prog cfg 50 st50 := by
  intro args H p r H' h hp
  unfold st50 at h
  split at h
  case h_2 => cases h
  split at h
  case h_2 => cases h
  simp only [Option.bind_eq_some_iff, Option.map_eq_some_iff] at h
  obtain ⟨l, hl, x, hx, h⟩ := h
  rename_i k n c i x1 cs hk
  cases h
  rw [asEvs_inv hl] at hk
  obtain ⟨j, rfl⟩ : ∃ j : Nat, i = j := ⟨i.toNat, by omega⟩
  rw [Int.toNat_natCast] at hx ⊢
  exact (runs50 l n c j x hp.1 (by omega) (by omega) hx hp.2.2.2.2).atK (ro_same fun i cs hi => by rcases i with _ | _ | i <;> simp at hi ⊢; exact hi) [k] (by simp) (by simp) (by simp [hk]) (by simp) (by simp) (by simp [upd_get hk])
def tblRh : List (FuncId × CStep GD) := [(50, st50)]
theorem tblRh_ok : ∀ x ∈ tblRh, CStepOk Tryd.prog cfg x.1 x.2 := by simp [tblRh, st50_ok]
set_option maxHeartbeats 4000000 in
theorem runs30 (l : List Ev) (n c : Nat) (hn : n ≤ l.length) (hs : n ≤ 1000) (hv : ∀ x ∈ l, 0 ≤ x.v ∧ x.v < 18446744073709551616) : Runs Tryd.prog cfg 30 [.slice (some ⟨0, 0, none⟩) n c] (AH.of [some (.ro (evs l))])
    fun r H' => r = .ret (.bool (rightS (l.take n))) ∧ H' = AH.of [some (.ro (evs l))] := by
  have hln : (l.take n).length = n := by rw [List.length_take]; omega
  refine runs_by (tbl := tblRh) tblRh_ok 1001 0 (af := a30) rfl ?_
  rw [a30, b30, run_eq]
  refine ⟨by simp, ?_⟩
  by_cases h4 : 400 < n
  · have h4' : (400 : Int) < n := by omega
    have hf : rightS (l.take n) = false := by
      cases h : rightS (l.take n) with
      | false => rfl
      | true => have := ((right_fit _).1 h).1; omega
    simp (implicitDefEqProofs := false) [h4', hf]
  · have h4' : ¬ (400 : Int) < n := by omega
    simp (implicitDefEqProofs := false) [h4']
    refine loop_inv (sg_mono gX_ok (tabS_ok tblRh_ok) _ _ noY noY_mono) (fun m tm H => ∃ i : Nat, m + i = n ∧ (∀ j x, j < i → l[j]? = some x → fitX l j x = true) ∧ tm 0 = .slice (some ⟨0, 0, none⟩) n c ∧ tm 3 = .int .i64 i ∧ H = AH.of [some (.ro (evs l))]) (m := n) ⟨0, by simp⟩ (by omega) ?_
    rintro m tm H ⟨i, hm, hall, t0, t3, rfl⟩
    by_cases hi : i < n
    · obtain ⟨x, hx⟩ : ∃ x, l[i]? = some x := ⟨l[i]'(by omega), List.getElem?_eq_getElem (by omega)⟩
      have hi' : (i : Int) < n := by omega
      have hsi : (i : Int) ≤ 1000 := by omega
      have hwr := inc_i64 hi (by omega)
      cases hf : fitX l i x with
      | false =>
        have hno : rightS (l.take n) = false := by
          cases h : rightS (l.take n) with
          | false => rfl
          | true =>
            have := ((right_fit _).1 h).2 i x (by rw [List.getElem?_take, if_pos hi, hx])
            rw [fit_pre l x (by omega), hf] at this
            cases this
        simp (implicitDefEqProofs := false) [tblRh, st50, hx, t0, t3, hi', hsi, hn, hf, hno]
        exact hv
      | true =>
        simp (implicitDefEqProofs := false) [tblRh, st50, hx, t0, t3, hi', hsi, hn, hf, hwr]
        refine ⟨hv, m - 1, by omega, i + 1, by omega, fun j y hj hy => ?_, by simp [t0]⟩
        by_cases e : j = i
        · subst e; rw [hx] at hy; cases hy; exact hf
        · exact hall j y (by omega) hy
    · have hie : i = n := by omega
      subst hie
      have hyes : rightS (l.take i) = true := by
        refine (right_fit _).2 ⟨by omega, fun j x hx => ?_⟩
        have hj : j < i := by
          have := (List.getElem?_eq_some_iff.1 hx).1
          omega
        rw [List.getElem?_take, if_pos hj] at hx
        rw [fit_pre l x (by omega)]
        exact hall j x hj hx
      simp (implicitDefEqProofs := false) [t0, t3, hyes]
def st30 : CStep GD := fun args H => match args with
  | [.slice (some ⟨k, 0, none⟩) n _] => match H.get k with
    | some (.ro cs) => (asEvs cs).map fun l => (n ≤ l.length ∧ n ≤ 1000 ∧ ∀ x ∈ l, 0 ≤ x.v ∧ x.v < 18446744073709551616, .ret (.bool (rightS (l.take n))), H)
    | _ => none
  | _ => none
theorem st30_ok : CStepOk Tryd.prog cfg 30 st30 := by
  intro args H p r H' h hp
  unfold st30 at h
  split at h
  case h_2 => cases h
  split at h
  case h_2 => cases h
  simp only [Option.map_eq_some_iff] at h
  obtain ⟨l, hl, h⟩ := h
  rename_i k n c x1 cs hk
  cases h
  rw [asEvs_inv hl] at hk
  exact (runs30 l n c hp.1 hp.2.1 hp.2.2).atK (ro_same fun i cs hi => by rcases i with _ | _ | i <;> simp at hi ⊢; exact hi) [k] (by simp) (by simp) (by simp [hk]) (by simp) (by simp) (by simp [upd_get hk])

end YtmhkpababjdnbaaDoor
end Go.Proofs
/-
  The document's history: Attempts, StateOf, Before.
-/
set_option linter.unusedSimpArgs false
set_option linter.unusedVariables false
set_option linter.unnecessarySimpa false
set_option linter.unusedSectionVars false
namespace Go.Proofs
namespace YtmhkpababjdnbaaDoor
open Go.Abs
set_option linter.unusedSimpArgs false

theorem big_in {k : Nat} (h : k ≤ 1000) : (k + 1) * 8 ≤ 140737488355328 ∧ k ≤ 9223372036854775806 := by omega
def tblSe : List (FuncId × CStep GD) := [(51, rdSt r51)]
theorem tblSe_ok : ∀ x ∈ tblSe, CStepOk Tryd.prog cfg x.1 x.2 := by simp [tblSe, st51_ok]
theorem atts_seen_succ {l : List Ev} {i : Nat} {x : Ev} (h : l[i]? = some x) : attsS (l.take (i + 1)) = if x.k = 1 ∧ seenS l i x.a 1 = false then attsS (l.take i) ++ [x.a] else attsS (l.take i) := by
  rw [← att_seen, take_snoc h]
  unfold attsS
  rw [List.foldl_append]; rfl
set_option maxHeartbeats 8000000 in
theorem runs35 (l : List Ev) (n c : Nat) (hn : n ≤ l.length) (hs : n ≤ 1000) : Runs Tryd.prog cfg 35 [.slice (some ⟨0, 0, none⟩) n c] (AH.of [some (.ro (evs l))])
    fun r H' => r = .ret (.slice (some ⟨1, 0, none⟩) (attsS (l.take n)).length 1) ∧ H' = AH.of [some (.ro (evs l)), some (.arr 3 (ints (attsS (l.take n))))] := by
  refine Runs.ends ?_
  have hln : (l.take n).length = n := by rw [List.length_take]; omega
  refine runs_by (tbl := tblSe) tblSe_ok 1001 0 (af := a35) rfl ?_
  rw [a35, b35, run_eq]
  refine ⟨by simp, ?_⟩
  simp (implicitDefEqProofs := false)
  refine loop_view (sg_mono gX_ok (tabS_ok tblSe_ok) _ _ noY noY_mono) (fun m tm H => ∃ i : Nat, m + i = n ∧ tm 0 = .slice (some ⟨0, 0, none⟩) n c ∧ tm 4 = .int .i64 i ∧ tm 3 = .slice (some ⟨1, 0, none⟩) (attsS (l.take i)).length 1 ∧ H = AH.of [some (.ro (evs l)), some (.arr 3 (ints (attsS (l.take i))))]) (m := n) ?_ (by omega) ?_
  · refine round_wk [.nil 3] [0, 1] [some (.ro (evs l)), some (.arr 3 (ints []))] [(3, .slice (some ⟨1, 0, none⟩) 0 1)] n (by omega) ?_ ?_ ?_ ⟨0, ?_⟩ <;> simp [attsS, show ints [] = [] from rfl]
  rintro m tm H ⟨i, hm, t0, t4, t3, rfl⟩
  by_cases hi : i < n
  · obtain ⟨x, hx⟩ : ∃ x, l[i]? = some x := ⟨l[i]'(by omega), List.getElem?_eq_getElem (by omega)⟩
    have hi' : (i : Int) < n := by omega
    have hin : i ≤ n := by omega
    have hsi : (i : Int) ≤ 1000 := by omega
    have hwr := inc_i64 hi (by omega)
    have hsuc := atts_seen_succ hx
    have hst : ∀ k, seenS (l.take n) i x.a k = seenS l i x.a k := fun k => seen_take hin x.a k
    have hroom := evs_room (show i < l.length by omega)
    have hat := evs_at hx
    have hle := atts_le (l.take i)
    rw [List.length_take] at hle
    generalize attsS (l.take i) = out at *
    have hr3 := big_in (k := out.length) (by omega)
    have htk := take_ints out
    by_cases hk : x.k = 1
    · cases hsn : seenS l i x.a 1 with
      | false =>
        rw [if_pos ⟨hk, hsn⟩] at hsuc
        simp (implicitDefEqProofs := false) [tblSe, rdSt, r51, hst, hln, hn, hsi, hin, t0, t4, t3, hi, hi', hwr, hroom, hat, hk, hsn, hr3, htk]
        refine round_plan [] [0, 3] [some (.ro (evs l)), some (.arr 3 (ints (out ++ [x.a])))] (m - 1) (by omega) ?_ ?_ ⟨i + 1, by omega, ?_, ?_, ?_, ?_⟩ <;> simp [t0, t4, hsuc, ints_append, ints_single]
      | true =>
        rw [if_neg (by rintro ⟨_, h⟩; rw [hsn] at h; cases h)] at hsuc
        simp (implicitDefEqProofs := false) [tblSe, rdSt, r51, hst, hln, hn, hsi, hin, t0, t4, t3, hi, hi', hwr, hroom, hat, hk, hsn]
        refine round_plan [] [0, 1] [some (.ro (evs l)), some (.arr 3 (ints out))] (m - 1) (by omega) ?_ ?_ ⟨i + 1, by omega, ?_, ?_, ?_, ?_⟩ <;> simp [t0, t3, t4, hsuc]
    · rw [if_neg (by rintro ⟨h, _⟩; exact hk h)] at hsuc
      simp (implicitDefEqProofs := false) [t0, t4, t3, hi, hi', hwr, hroom, hat, hk]
      refine round_plan [] [0, 1] [some (.ro (evs l)), some (.arr 3 (ints out))] (m - 1) (by omega) ?_ ?_ ⟨i + 1, by omega, ?_, ?_, ?_, ?_⟩ <;> simp [t0, t3, t4, hsuc]
  · have hie : i = n := by omega
    subst hie
    simp (implicitDefEqProofs := false) [t0, t4, t3]
    refine ends_plan [] [0, 1] ?_ ?_ ?_ <;> simp
def r35 : RNStep
  | l, [] => some (l.length ≤ 1000, (attsS l).length, 3, ints (attsS l))
  | _, _ => none
theorem st35_ok : CStepOk Tryd.prog cfg 35 (rnSt r35) := rn_ok fun l n c rest p m t cs hn h hp => by
  unfold r35 at h
  split at h
  · cases h
    rw [List.length_take] at hp
    exact ⟨rfl, ints_ground _, runs35 l n c hn (by omega)⟩
  · cases h

theorem st_succ {l : List Ev} {i : Nat} {x : Ev} (h : l[i]? = some x) (a : Int) : (cutS (l.take (i + 1)) a).foldl stG 1 = if x.a = a then stG ((cutS (l.take i) a).foldl stG 1) x else (cutS (l.take i) a).foldl stG 1 := by
  rw [cut_succ h]
  split
  · rw [List.foldl_append]; rfl
  · rfl
set_option maxHeartbeats 8000000 in
theorem runs52 (l : List Ev) (n c : Nat) (a : Int) (hn : n ≤ l.length) (hs : n ≤ 1000) : Runs Tryd.prog cfg 52 [.slice (some ⟨0, 0, none⟩) n c, .int .i64 a] (AH.of [some (.ro (evs l))])
    fun r H' => r = .ret (.int .u8 (stateS (l.take n) a)) ∧ H' = AH.of [some (.ro (evs l))] := by
  have hln : (l.take n).length = n := by rw [List.length_take]; omega
  have hst : seenS (l.take n) n a 1 = seenS l n a 1 := seen_take (Nat.le_refl n) a 1
  have hsn : (n : Int) ≤ 1000 := by omega
  rw [state_ref, hln, hst]
  refine runs_by (tbl := tblSe) tblSe_ok 1001 0 (af := a52) rfl ?_
  rw [a52, b52, run_eq]
  refine ⟨by simp, ?_⟩
  cases hb : seenS l n a 1 with
  | false => simp (implicitDefEqProofs := false) [tblSe, rdSt, r51, hst, hln, hn, hsn, hb]
  | true =>
    simp (implicitDefEqProofs := false) [tblSe, rdSt, r51, hst, hln, hn, hsn, hb]
    refine loop_inv (sg_mono gX_ok (tabS_ok tblSe_ok) _ _ noY noY_mono) (fun m tm H => ∃ i : Nat, m + i = n ∧ tm 0 = .slice (some ⟨0, 0, none⟩) n c ∧ tm 1 = .int .i64 a ∧ tm 6 = .int .i64 i ∧ tm 5 = .int .u8 ((cutS (l.take i) a).foldl stG 1) ∧ H = AH.of [some (.ro (evs l))]) (m := n) ⟨0, by simp [cutS]⟩ (by omega) ?_
    rintro m tm H ⟨i, hm, t0, t1, t6, t5, rfl⟩
    by_cases hi : i < n
    · obtain ⟨x, hx⟩ : ∃ x, l[i]? = some x := ⟨l[i]'(by omega), List.getElem?_eq_getElem (by omega)⟩
      have hi' : (i : Int) < n := by omega
      have hwr := inc_i64 hi (by omega)
      have hsuc := st_succ hx a
      have hroom := evs_room (show i < l.length by omega)
      have hat := evs_at hx
      generalize (cutS (l.take i) a).foldl stG 1 = q at *
      by_cases ha : x.a = a
      · rw [if_pos ha] at hsuc
        by_cases k7 : x.k = 7
        · simp (implicitDefEqProofs := false) [t0, t1, t6, t5, hi, hi', hwr, hroom, hat, ha, k7]
          exact ⟨m - 1, by omega, i + 1, by omega, by simp [t0, t1, hsuc, stG, k7]⟩
        by_cases k8 : x.k = 8
        · simp (implicitDefEqProofs := false) [t0, t1, t6, t5, hi, hi', hwr, hroom, hat, ha, k8]
          exact ⟨m - 1, by omega, i + 1, by omega, by simp [t0, t1, hsuc, stG, k8]⟩
        by_cases k9 : x.k = 9
        · simp (implicitDefEqProofs := false) [t0, t1, t6, t5, hi, hi', hwr, hroom, hat, ha, k9]
          exact ⟨m - 1, by omega, i + 1, by omega, by simp [t0, t1, hsuc, stG, k9]⟩
        simp (implicitDefEqProofs := false) [t0, t1, t6, t5, hi, hi', hwr, hroom, hat, ha, k7, k8, k9]
        exact ⟨m - 1, by omega, i + 1, by omega, by simp [t0, t1, t5, hsuc, stG, k7, k8, k9]⟩
      · rw [if_neg ha] at hsuc
        simp (implicitDefEqProofs := false) [t0, t1, t6, t5, hi, hi', hwr, hroom, hat, ha]
        exact ⟨m - 1, by omega, i + 1, by omega, by simp [t0, t1, t5, hsuc]⟩
    · have hie : i = n := by omega
      subst hie
      simp (implicitDefEqProofs := false) [t0, t1, t6, t5]
def r52 : RStep
  | l, [.int .i64 a] => some (l.length ≤ 1000, .int .u8 (stateS l a))
  | _, _ => none
theorem st52_ok : CStepOk Tryd.prog cfg 52 (rdSt r52) := rd_ok fun l n c rest p v hn h hp => by
  unfold r52 at h
  split at h
  · cases h
    rw [List.length_take] at hp
    exact ⟨rfl, rfl, runs52 l n c _ hn (by omega)⟩
  · cases h

set_option maxHeartbeats 8000000 in
theorem runs36 (l : List Ev) (n c : Nat) (a b : Int) (hn : n ≤ l.length) (hs : n ≤ 1000) : Runs Tryd.prog cfg 36 [.slice (some ⟨0, 0, none⟩) n c, .int .i64 a, .int .i64 b] (AH.of [some (.ro (evs l))])
    fun r H' => r = .ret (.bool (beforeS (l.take n) a b)) ∧ H' = AH.of [some (.ro (evs l))] := by
  have hln : (l.take n).length = n := by rw [List.length_take]; omega
  refine runs_by (tbl := tblSe) tblSe_ok 1001 0 (af := a36) rfl ?_
  rw [a36, b36, run_eq]
  refine ⟨by simp, ?_⟩
  simp (implicitDefEqProofs := false)
  refine loop_inv (sg_mono gX_ok (tabS_ok tblSe_ok) _ _ noY noY_mono) (fun m tm H => ∃ i : Nat, m + i = n ∧ (∀ j x, j < i → (l.take n)[j]? = some x → ¬ (x.a = b ∧ x.k = 1)) ∧ tm 0 = .slice (some ⟨0, 0, none⟩) n c ∧ tm 1 = .int .i64 a ∧ tm 2 = .int .i64 b ∧ tm 7 = .int .i64 i ∧ H = AH.of [some (.ro (evs l))]) (m := n) ⟨0, by simp⟩ (by omega) ?_
  rintro m tm H ⟨i, hm, hno, t0, t1, t2, t7, rfl⟩
  by_cases hi : i < n
  · obtain ⟨x, hx⟩ : ∃ x, l[i]? = some x := ⟨l[i]'(by omega), List.getElem?_eq_getElem (by omega)⟩
    have hxn : (l.take n)[i]? = some x := by rw [List.getElem?_take, if_pos hi, hx]
    have hi' : (i : Int) < n := by omega
    have hin : i ≤ n := by omega
    have hsi : (i : Int) ≤ 1000 := by omega
    have hwr := inc_i64 hi (by omega)
    have hroom := evs_room (show i < l.length by omega)
    have hat := evs_at hx
    have hst : ∀ k, seenS (l.take n) i a k = seenS l i a k := fun k => seen_take hin a k
    by_cases hk : x.k = 1
    · by_cases hb : x.a = b
      · have hbe := before_ref (l.take n) a b _ i rfl hno
        have hd : (l.take n).drop i = x :: (l.take n).drop (i + 1) := by
          rw [List.drop_eq_getElem_cons (by omega)]
          congr 1
          rw [List.getElem?_eq_getElem (by omega)] at hxn
          exact Option.some.inj hxn
        rw [hd, beforeG, if_pos ⟨hb, hk⟩, hst, hst] at hbe
        cases h8 : seenS l i a 8 <;> cases h9 : seenS l i a 9 <;> (
          rw [h8, h9] at hbe
          simp (implicitDefEqProofs := false) [tblSe, rdSt, r51, hst, hln, hn, hsi, hin, t0, t1, t2, t7, hi, hi', hwr, hroom, hat, hk, hb, h8, h9, hbe])
      · simp (implicitDefEqProofs := false) [t0, t1, t2, t7, hi, hi', hwr, hroom, hat, hk, hb]
        refine ⟨m - 1, by omega, i + 1, by omega, fun j y hj hy => ?_, by simp [t0, t1, t2]⟩
        by_cases e : j = i
        · subst e; rw [hxn] at hy; cases hy; exact fun h1 h2 => hb h1
        · have := hno j y (by omega) hy
          simpa using this
    · simp (implicitDefEqProofs := false) [t0, t1, t2, t7, hi, hi', hwr, hroom, hat, hk]
      refine ⟨m - 1, by omega, i + 1, by omega, fun j y hj hy => ?_, by simp [t0, t1, t2]⟩
      by_cases e : j = i
      · subst e; rw [hxn] at hy; cases hy; exact fun h1 h2 => hk h2
      · have := hno j y (by omega) hy
        simpa using this
  · have hie : i = n := by omega
    subst hie
    have hbe := before_ref (l.take i) a b [] i (List.drop_eq_nil_of_le (by omega)) hno
    rw [beforeG] at hbe
    simp (implicitDefEqProofs := false) [t0, t1, t2, t7, hbe]
def r36 : RStep
  | l, [.int .i64 a, .int .i64 b] => some (l.length ≤ 1000, .bool (beforeS l a b))
  | _, _ => none
theorem st36_ok : CStepOk Tryd.prog cfg 36 (rdSt r36) := rd_ok fun l n c rest p v hn h hp => by
  unfold r36 at h
  split at h
  · cases h
    rw [List.length_take] at hp
    exact ⟨rfl, rfl, runs36 l n c _ _ hn (by omega)⟩
  · cases h
end YtmhkpababjdnbaaDoor
end Go.Proofs
/-
  The document's history: In.
-/
set_option linter.unusedSimpArgs false
set_option linter.unusedVariables false
set_option linter.unnecessarySimpa false
set_option linter.unusedSectionVars false
namespace Go.Proofs
namespace YtmhkpababjdnbaaDoor
open Go.Abs
set_option linter.unusedSimpArgs false

def inF (f : Int → Int) (s : Int) (A : List Int) (i : Nat) : List Int := (A.take i).filter fun a => decide (f a = s)
theorem inF_succ {f : Int → Int} {s : Int} {A : List Int} {i : Nat} {x : Int} (h : A[i]? = some x) : inF f s A (i + 1) = if f x = s then inF f s A i ++ [x] else inF f s A i := by
  unfold inF
  rw [List.take_add_one, h, List.filter_append]
  by_cases hx : f x = s <;> simp [hx]
theorem inF_le (f : Int → Int) (s : Int) (A : List Int) (i : Nat) : (inF f s A i).length ≤ A.length := by
  unfold inF
  have h1 := List.length_filter_le (fun a => decide (f a = s)) (A.take i)
  rw [List.length_take] at h1
  omega
def tblIn : List (FuncId × CStep GD) := [(35, rnSt r35), (52, rdSt r52)]
theorem tblIn_ok : ∀ x ∈ tblIn, CStepOk Tryd.prog cfg x.1 x.2 := by simp [tblIn, st35_ok, st52_ok]
set_option maxHeartbeats 8000000 in
theorem runs38 (l : List Ev) (n c : Nat) (s : Int) (hn : n ≤ l.length) (hs : n ≤ 1000) : Runs Tryd.prog cfg 38 [.slice (some ⟨0, 0, none⟩) n c, .int .u8 s] (AH.of [some (.ro (evs l))])
    fun r H' => r = .ret (.slice (some ⟨1, 0, none⟩) ((attsS (l.take n)).filter fun a => decide (stateS (l.take n) a = s)).length 1) ∧ H' = AH.of [some (.ro (evs l)), some (.arr 3 (ints ((attsS (l.take n)).filter fun a => decide (stateS (l.take n) a = s))))] := by
  refine Runs.ends ?_
  have hlen : (l.take n).length ≤ 1000 := by rw [List.length_take]; omega
  have hle := atts_le (l.take n)
  obtain ⟨A, hA⟩ : ∃ A, attsS (l.take n) = A := ⟨_, rfl⟩
  obtain ⟨f, hf⟩ : ∃ f : Int → Int, (fun a => stateS (l.take n) a) = f := ⟨_, rfl⟩
  have hf' : ∀ a, stateS (l.take n) a = f a := fun a => congrFun hf a
  simp only [hf']
  rw [hA] at hle ⊢
  have hAl : A.length ≤ 1000 := by omega
  have hend : A.filter (fun a => decide (f a = s)) = inF f s A A.length := by unfold inF; rw [List.take_length]
  rw [hend]
  obtain ⟨N, hN⟩ : ∃ N, A.length = N := ⟨_, rfl⟩
  rw [hN] at hAl ⊢
  refine runs_by (tbl := tblIn) tblIn_ok 1001 0 (af := a38) rfl ?_
  rw [a38, b38, run_eq]
  refine ⟨by simp, ?_⟩
  simp (implicitDefEqProofs := false) [tblIn, rnSt, r35, hn, hs, hA, hN, hlen]
  refine loop_view (sg_mono gX_ok (tabS_ok tblIn_ok) _ _ noY noY_mono) (fun m tm H => ∃ i : Nat, m + i = N ∧ tm 0 = .slice (some ⟨0, 0, none⟩) n c ∧ tm 1 = .int .u8 s ∧ tm 6 = .slice (some ⟨1, 0, none⟩) N 1 ∧ tm 7 = .int .i64 i ∧ tm 5 = .slice (some ⟨2, 0, none⟩) (inF f s A i).length 1 ∧ H = AH.of [some (.ro (evs l)), some (.arr 3 (ints A)), some (.arr 3 (ints (inF f s A i)))]) (m := N) ?_ (by omega) ?_
  · refine round_wk [.nil 3] [0, 1, 2] [some (.ro (evs l)), some (.arr 3 (ints A)), some (.arr 3 (ints []))] [(5, .slice (some ⟨2, 0, none⟩) 0 1)] N (by omega) ?_ ?_ ?_ ⟨0, ?_⟩ <;> simp [inF, show ints [] = [] from rfl]
  rintro m tm H ⟨i, hm, t0, t1, t6, t7, t5, rfl⟩
  by_cases hi : i < N
  · obtain ⟨x, hx⟩ : ∃ x, A[i]? = some x := ⟨A[i]'(by omega), List.getElem?_eq_getElem (by omega)⟩
    have hi' : (i : Int) < N := by omega
    have hwr := inc_i64 hi (by omega)
    have ux := ints_at hx
    have gx := ints_get hx
    have hsuc := inF_succ (f := f) (s := s) hx
    have hil := inF_le f s A i
    generalize inF f s A i = out at *
    have hz := big_in (k := out.length) (by omega)
    have htk := take_ints out
    by_cases hx3 : f x = s
    · rw [if_pos hx3] at hsuc
      simp (implicitDefEqProofs := false) [tblIn, rdSt, r52, t0, t1, t6, t7, t5, hi, hi', hwr, ux, gx, hn, hlen, hs, hf', hx3, hz, htk]
      refine round_plan [] [0, 1, 4] [some (.ro (evs l)), some (.arr 3 (ints A)), some (.arr 3 (ints (out ++ [x])))] (m - 1) (by omega) ?_ ?_ ⟨i + 1, by omega, ?_⟩ <;> simp [t0, t1, t6, t7, hsuc, ints_append, ints_single]
    · rw [if_neg hx3] at hsuc
      simp (implicitDefEqProofs := false) [tblIn, rdSt, r52, t0, t1, t6, t7, t5, hi, hi', hwr, ux, gx, hn, hlen, hs, hf', hx3]
      refine round_plan [] [0, 1, 2] [some (.ro (evs l)), some (.arr 3 (ints A)), some (.arr 3 (ints out))] (m - 1) (by omega) ?_ ?_ ⟨i + 1, by omega, ?_⟩ <;> simp [t0, t1, t6, t7, t5, hsuc]
  · have hie : i = N := by omega
    have hi' : ¬ (i : Int) < N := by omega
    rw [hie] at t5 ⊢
    rw [hie] at t7 hi'
    simp (implicitDefEqProofs := false) [t0, t1, t6, t7, t5, hi']
    refine ends_plan [] [0, 2] ?_ ?_ ?_ <;> simp
def r38 : RNStep
  | l, [.int .u8 s] => some (l.length ≤ 1000, ((attsS l).filter fun a => decide (stateS l a = s)).length, 3, ints ((attsS l).filter fun a => decide (stateS l a = s)))
  | _, _ => none
theorem st38_ok : CStepOk Tryd.prog cfg 38 (rnSt r38) := rn_ok fun l n c rest p m t cs hn h hp => by
  unfold r38 at h
  split at h
  · cases h
    rw [List.length_take] at hp
    exact ⟨rfl, ints_ground _, runs38 l n c _ hn (by omega)⟩
  · cases h
end YtmhkpababjdnbaaDoor
end Go.Proofs
/-
  The document's trace: CountsOf, Busiest, meet.
-/
set_option linter.unusedSimpArgs false
set_option linter.unusedVariables false
set_option linter.unnecessarySimpa false
set_option linter.unusedSectionVars false
namespace Go.Proofs
namespace YtmhkpababjdnbaaDoor
open Go.Abs
set_option linter.unusedSimpArgs false

def tblRc : List (FuncId × CStep GD) := [(35, rnSt r35), (38, rnSt r38)]
theorem tblRc_ok : ∀ x ∈ tblRc, CStepOk Tryd.prog cfg x.1 x.2 := by simp [tblRc, st35_ok, st38_ok]
set_option maxHeartbeats 8000000 in
theorem runs23 (l : List Ev) (n c : Nat) (hn : n ≤ l.length) (hs : n ≤ 1000) : Runs Tryd.prog cfg 23 [.slice (some ⟨0, 0, none⟩) n c] (AH.of [some (.ro (evs l))])
    fun r H' => r = .ret (ctsV (countsS (l.take n))) ∧ H' = AH.of [some (.ro (evs l))] := by
  refine Runs.ends ?_
  have hlen : (l.take n).length ≤ 1000 := by rw [List.length_take]; omega
  have hle := atts_le (l.take n)
  unfold countsS
  obtain ⟨A, hA⟩ : ∃ A, attsS (l.take n) = A := ⟨_, rfl⟩
  obtain ⟨f, hf⟩ : ∃ f : Int → Int, (fun a => stateS (l.take n) a) = f := ⟨_, rfl⟩
  have hf' : ∀ a, stateS (l.take n) a = f a := fun a => congrFun hf a
  simp only [hf']
  rw [hA] at hle ⊢
  have hop := open_count f A
  obtain ⟨C, hC⟩ : ∃ C, A.filter (fun a => decide (f a = 3)) = C := ⟨_, rfl⟩
  obtain ⟨B, hB⟩ : ∃ B, A.filter (fun a => decide (f a = 4)) = B := ⟨_, rfl⟩
  have hc : A.countP (fun a => decide (f a = 3)) = C.length := by rw [List.countP_eq_length_filter, hC]
  have hb : A.countP (fun a => decide (f a = 4)) = B.length := by rw [List.countP_eq_length_filter, hB]
  rw [hc, hb] at hop ⊢
  generalize A.countP (fun a => openN (f a)) = qo at *
  obtain ⟨N, hN⟩ : ∃ N, A.length = N := ⟨_, rfl⟩
  rw [hN] at hle hop ⊢
  obtain ⟨qc, hqc⟩ : ∃ qc, C.length = qc := ⟨_, rfl⟩
  obtain ⟨qb, hqb⟩ : ∃ qb, B.length = qb := ⟨_, rfl⟩
  rw [hqc, hqb] at hop ⊢
  have w1 : IntKind.i64.wrap ((N : Int) - qc) = (N : Int) - qc := wrap_i64 (by omega) (by omega)
  have w2 : IntKind.i64.wrap ((N : Int) - qc - qb) = (qo : Int) := by rw [wrap_i64 (by omega) (by omega)]; omega
  refine runs_by (tbl := tblRc) tblRc_ok 1001 0 (af := a23) rfl ?_
  rw [a23, b23, run_eq]
  refine ⟨by simp, ?_⟩
  simp (implicitDefEqProofs := false) [tblRc, rnSt, r35, r38, hn, hs, hA, hN, hlen, hf', hC, hB, hqc, hqb, w1, w2]
  refine loop_view (sg_mono gX_ok (tabS_ok tblRc_ok) _ _ noY noY_mono) (fun m tm H => ∃ j : Nat, m + j = n ∧ tm 0 = .slice (some ⟨0, 0, none⟩) n c ∧ tm 2 = .pointer (some ⟨1, 0, none⟩) ∧ tm 3 = .pointer (some ⟨5, 0, none⟩) ∧ tm 4 = .int .i64 j ∧
      H = AH.of [some (.ro (evs l)), some (.arr 29 [.int .i64 0, .int .i64 0, .int .i64 0, .int .i64 0, .int .i64 0, .int .i64 0]), none, none, none, some (.arr 29 [.int .i64 N, .int .i64 qc, .int .i64 qb, .int .i64 qo, .int .i64 ((l.take j).countP (isK 2)), .int .i64 ((l.take j).countP (isK 3))])]) (m := n) ?_ (by omega) ?_
  · refine round_plan [] [0, 1, 2, 3, 4, 5] [some (.ro (evs l)), some (.arr 29 [.int .i64 0, .int .i64 0, .int .i64 0, .int .i64 0, .int .i64 0, .int .i64 0]), none, none, none, some (.arr 29 [.int .i64 N, .int .i64 qc, .int .i64 qb, .int .i64 qo, .int .i64 0, .int .i64 0])] n (by omega) ?_ ?_ ⟨0, ?_⟩ <;> simp
  rintro m2 tm H ⟨j, hm2, t0, t2, t3, t4, rfl⟩
  by_cases hj : j < n
  · obtain ⟨x, hx⟩ : ∃ x, l[j]? = some x := ⟨l[j]'(by omega), List.getElem?_eq_getElem (by omega)⟩
    have hj' : (j : Int) < n := by omega
    have hwr := inc_i64 hj (by omega)
    have hroom := evs_room (show j < l.length by omega)
    have hat := evs_at hx
    have h2 := countP_succ hx (isK 2)
    have h3 := countP_succ hx (isK 3)
    have u2 := inc_i64 (i := (l.take j).countP (isK 2)) (n := 1001) (by have := countP_le_i l j (isK 2); omega) (by omega)
    have u3 := inc_i64 (i := (l.take j).countP (isK 3)) (n := 1001) (by have := countP_le_i l j (isK 3); omega) (by omega)
    generalize (l.take j).countP (isK 2) = q2 at *
    generalize (l.take j).countP (isK 3) = q3 at *
    by_cases k2 : x.k = 2
    · simp [isK, k2] at h2 h3
      simp (implicitDefEqProofs := false) [t0, t2, t3, t4, hj, hj', hwr, hroom, hat, k2, u2]
      refine round_plan [] [0, 1, 2, 3, 4, 5] [some (.ro (evs l)), some (.arr 29 [.int .i64 0, .int .i64 0, .int .i64 0, .int .i64 0, .int .i64 0, .int .i64 0]), none, none, none, some (.arr 29 [.int .i64 N, .int .i64 qc, .int .i64 qb, .int .i64 qo, .int .i64 ((q2 + 1 : Nat) : Int), .int .i64 q3])] (m2 - 1) (by omega) ?_ ?_ ⟨j + 1, by omega, ?_, ?_, ?_, ?_, ?_⟩ <;> simp [t0, t2, t3, h2, h3]
    · by_cases k3 : x.k = 3
      · simp [isK, k3] at h2 h3
        simp (implicitDefEqProofs := false) [t0, t2, t3, t4, hj, hj', hwr, hroom, hat, k3, u3]
        refine round_plan [] [0, 1, 2, 3, 4, 5] [some (.ro (evs l)), some (.arr 29 [.int .i64 0, .int .i64 0, .int .i64 0, .int .i64 0, .int .i64 0, .int .i64 0]), none, none, none, some (.arr 29 [.int .i64 N, .int .i64 qc, .int .i64 qb, .int .i64 qo, .int .i64 q2, .int .i64 ((q3 + 1 : Nat) : Int)])] (m2 - 1) (by omega) ?_ ?_ ⟨j + 1, by omega, ?_, ?_, ?_, ?_, ?_⟩ <;> simp [t0, t2, t3, h2, h3]
      · simp [isK, k2, k3] at h2 h3
        simp (implicitDefEqProofs := false) [t0, t2, t3, t4, hj, hj', hwr, hroom, hat, k2, k3]
        refine round_plan [] [0, 1, 2, 3, 4, 5] [some (.ro (evs l)), some (.arr 29 [.int .i64 0, .int .i64 0, .int .i64 0, .int .i64 0, .int .i64 0, .int .i64 0]), none, none, none, some (.arr 29 [.int .i64 N, .int .i64 qc, .int .i64 qb, .int .i64 qo, .int .i64 q2, .int .i64 q3])] (m2 - 1) (by omega) ?_ ?_ ⟨j + 1, by omega, ?_, ?_, ?_, ?_, ?_⟩ <;> simp [t0, t2, t3, h2, h3]
  · have hje : j = n := by omega
    have hj' : ¬ (j : Int) < n := by omega
    rw [hje] at t4 hj'
    simp (implicitDefEqProofs := false) [t0, t2, t3, t4, hj', hje]
    refine ends_plan [] [0] ?_ ?_ ?_ <;> simp [ctsV]
def r23 : RStep
  | l, [] => some (l.length ≤ 1000, ctsV (countsS l))
  | _, _ => none
theorem st23_ok : CStepOk Tryd.prog cfg 23 (rdSt r23) := rd_ok fun l n c rest p v hn h hp => by
  unfold r23 at h
  split at h
  · cases h
    rw [List.length_take] at hp
    exact ⟨rfl, rfl, runs23 l n c hn (by omega)⟩
  · cases h

/-- How many the one that is first has, of the first t. -/
def mostS (c : List Int) (t : Nat) : Int := if t = 0 then 0 else c.getD (atS c t) 0
theorem atS_one (c : List Int) : atS c 1 = 0 := by
  have h := atS_succ c 0
  have h0 : atS c 0 = 0 := by have := atS_lt c 0; omega
  rw [h, h0]; simp
theorem mostS_succ {c : List Int} (hp : ∀ t, 0 ≤ c.getD t 0) (t : Nat) :
    (if c.getD t 0 > mostS c t then t else atS c t) = atS c (t + 1) ∧ (if c.getD t 0 > mostS c t then c.getD t 0 else mostS c t) = mostS c (t + 1) := by
  unfold mostS
  by_cases h0 : t = 0
  · subst h0
    have h00 : atS c 0 = 0 := by have := atS_lt c 0; omega
    have hg := hp 0
    rw [atS_one, h00]
    simp only [if_true, Nat.add_eq_zero_iff, Nat.one_ne_zero, and_false, if_false]
    refine ⟨by split <;> rfl, ?_⟩
    generalize c.getD 0 0 = g at *
    split <;> omega
  · have h1 : ¬ t + 1 = 0 := by omega
    simp only [h0, h1, if_false]
    rw [atS_succ]
    by_cases h : c.getD t 0 > c.getD (atS c t) 0
    · simp only [h, if_true]; exact ⟨trivial, trivial⟩
    · simp only [h, if_false]; exact ⟨trivial, trivial⟩
theorem cntL_get (l : List Ev) {t : Nat} (h : t < 12) : (cntL l).getD t 0 = ((l.countP (cntP t) : Nat) : Int) := by
  rw [List.getD_eq_getElem?_getD, cntL_at l h]; rfl
theorem cntL_pos (l : List Ev) (t : Nat) : 0 ≤ (cntL l).getD t 0 := by
  by_cases h : t < 12
  · rw [cntL_get l h]; omega
  · rw [List.getD_eq_getElem?_getD, List.getElem?_eq_none (by rw [cntL_len]; omega)]; simp
set_option maxHeartbeats 8000000 in
theorem runs21 (l : List Ev) (n c : Nat) (hn : n ≤ l.length) (hs : n ≤ 1000) : Runs Tryd.prog cfg 21 [.slice (some ⟨0, 0, none⟩) n c] (AH.of [some (.ro (evs l))])
    fun r H' => r = .ret (busyV (l.take n)) ∧ H' = AH.of [some (.ro (evs l))] := by
  refine Runs.ends ?_
  unfold busyV
  have hpos := cntL_pos (l.take n)
  have hgt : ∀ t, t < 12 → (cntL (l.take n)).getD t 0 = (((l.take n).countP (cntP t) : Nat) : Int) := fun t ht => cntL_get _ ht
  generalize cntL (l.take n) = cl at *
  refine runs_by (tbl := []) (by simp) 1001 0 (af := a21) rfl ?_
  rw [a21, b21, run_eq]
  refine ⟨by simp, ?_⟩
  simp (implicitDefEqProofs := false)
  refine loop_inv (sg_mono gX_ok (tabS_ok (by simp)) _ _ noY noY_mono) (fun m tm H => ∃ t : Nat, m + t = 12 ∧ tm 0 = .slice (some ⟨0, 0, none⟩) n c ∧ tm 4 = .int .i64 (atS cl t) ∧ tm 5 = .int .i64 (mostS cl t) ∧ tm 6 = .int .i64 t ∧ H = AH.of [some (.ro (evs l))]) (m := 12) ⟨0, by simp [mostS, atS]⟩ (by omega) ?_
  rintro m tm H ⟨t, hm, t0, t4, t5, t6, rfl⟩
  by_cases ht : t < 12
  · have ht' : (t : Int) < 12 := by omega
    have hwt := inc_i64 ht (by omega)
    obtain ⟨s1, s2⟩ := mostS_succ hpos t
    rw [hgt t ht] at s1 s2
    simp (implicitDefEqProofs := false) [t0, t4, t5, t6, ht, ht']
    refine loop_inv (sg_mono gX_ok (tabS_ok (by simp)) _ _ noY noY_mono) (fun m2 tm H => ∃ i : Nat, m2 + i = n ∧ tm 0 = .slice (some ⟨0, 0, none⟩) n c ∧ tm 4 = .int .i64 (atS cl t) ∧ tm 5 = .int .i64 (mostS cl t) ∧ tm 6 = .int .i64 t ∧ tm 7 = .int .i64 ((l.take i).countP (cntP t)) ∧ tm 8 = .int .i64 i ∧ H = AH.of [some (.ro (evs l))]) (m := n) ⟨0, by simp [t0, t4, t5, t6]⟩ (by omega) ?_
    rintro m2 tm H ⟨i, hm2, t0, t4, t5, t6, t7, t8, rfl⟩
    by_cases hi : i < n
    · obtain ⟨x, hx⟩ : ∃ x, l[i]? = some x := ⟨l[i]'(by omega), List.getElem?_eq_getElem (by omega)⟩
      have hi' : (i : Int) < n := by omega
      have hwr := inc_i64 hi (by omega)
      have hroom := evs_room (show i < l.length by omega)
      have hat := evs_at hx
      have hc := countP_succ hx (cntP t)
      have wc := inc_i64 (i := (l.take i).countP (cntP t)) (n := 1001) (by have := countP_le_i l i (cntP t); omega) (by omega)
      generalize (l.take i).countP (cntP t) = q at *
      by_cases hr : x.k = 2
      · by_cases hxt : x.t = t
        · simp [cntP, rw, isK, hr, hxt] at hc
          simp (implicitDefEqProofs := false) [t0, t4, t5, t6, t7, t8, hi, hi', hwr, hroom, hat, hr, hxt, wc]
          exact ⟨m2 - 1, by omega, i + 1, by omega, by simp [t0, t4, t5, t6, hc]⟩
        · simp [cntP, rw, isK, hr, hxt] at hc
          simp (implicitDefEqProofs := false) [t0, t4, t5, t6, t7, t8, hi, hi', hwr, hroom, hat, hr, hxt]
          exact ⟨m2 - 1, by omega, i + 1, by omega, by simp [t0, t4, t5, t6, t7, hc]⟩
      · by_cases hr3 : x.k = 3
        · by_cases hxt : x.t = t
          · simp [cntP, rw, isK, hr3, hxt] at hc
            simp (implicitDefEqProofs := false) [t0, t4, t5, t6, t7, t8, hi, hi', hwr, hroom, hat, hr3, hxt, wc]
            exact ⟨m2 - 1, by omega, i + 1, by omega, by simp [t0, t4, t5, t6, hc]⟩
          · simp [cntP, rw, isK, hr3, hxt] at hc
            simp (implicitDefEqProofs := false) [t0, t4, t5, t6, t7, t8, hi, hi', hwr, hroom, hat, hr3, hxt]
            exact ⟨m2 - 1, by omega, i + 1, by omega, by simp [t0, t4, t5, t6, t7, hc]⟩
        · simp [cntP, rw, isK, hr, hr3] at hc
          simp (implicitDefEqProofs := false) [t0, t4, t5, t6, t7, t8, hi, hi', hwr, hroom, hat, hr, hr3]
          exact ⟨m2 - 1, by omega, i + 1, by omega, by simp [t0, t4, t5, t6, t7, hc]⟩
    · have hie : i = n := by omega
      subst hie
      generalize (l.take i).countP (cntP t) = q at *
      by_cases hg : (q : Int) > mostS cl t
      · rw [if_pos hg] at s1 s2
        have hg' : mostS cl t < q := hg
        simp (implicitDefEqProofs := false) [t0, t4, t5, t6, t7, t8, hg', hwt]
        exact ⟨m - 1, by omega, t + 1, by omega, by simp [t0, ← s1, ← s2]⟩
      · rw [if_neg hg] at s1 s2
        have hg' : ¬ mostS cl t < q := hg
        simp (implicitDefEqProofs := false) [t0, t4, t5, t6, t7, t8, hg', hwt]
        exact ⟨m - 1, by omega, t + 1, by omega, by simp [t0, t4, t5, ← s1, ← s2]⟩
  · have hte : t = 12 := by omega
    subst hte
    have hmo : mostS cl 12 = cl.getD (atS cl 12) 0 := rfl
    rw [hmo] at t5
    simp (implicitDefEqProofs := false) [t0, t4, t5, t6]
    refine ends_plan [] [0] ?_ ?_ ?_ <;> simp
def r21 : RStep
  | l, [] => some (l.length ≤ 1000, busyV l)
  | _, _ => none
theorem st21_ok : CStepOk Tryd.prog cfg 21 (rdSt r21) := rd_ok fun l n c rest p v hn h hp => by
  unfold r21 at h
  split at h
  · cases h
    rw [List.length_take] at hp
    exact ⟨rfl, rfl, runs21 l n c hn (by omega)⟩
  · cases h

def metE (a b : Int) (x y : Ev) : Bool := decide (x.a = a) && (decide (y.a = b) && meetE x y)
def metN (L : List Ev) (a b : Int) (i : Nat) : Bool := (L.take i).any fun x => L.any fun y => metE a b x y
theorem met_all (L : List Ev) (a b : Int) : metN L a b L.length = meetS L a b := by
  rw [Bool.eq_iff_iff, meet_ref]
  unfold metN
  rw [List.take_length, List.any_eq_true]
  constructor
  · rintro ⟨x, hx, h⟩
    obtain ⟨y, hy, h⟩ := List.any_eq_true.1 h
    simp only [metE, Bool.and_eq_true, decide_eq_true_eq] at h
    exact ⟨x, hx, y, hy, h.1, h.2.1, h.2.2⟩
  · rintro ⟨x, hx, y, hy, h1, h2, h3⟩
    exact ⟨x, hx, List.any_eq_true.2 ⟨y, hy, by simp [metE, h1, h2, h3]⟩⟩
theorem any_succ {α : Type} {A : List α} {i : Nat} {x : α} (h : A[i]? = some x) (p : α → Bool) : (A.take (i + 1)).any p = ((A.take i).any p || p x) := by
  rw [List.take_add_one, h, List.any_append]; simp
def anyN (p : Ev → Bool) (L : List Ev) (k : Nat) : Bool := (L.take k).any p
set_option maxHeartbeats 8000000 in
theorem runs37 (l : List Ev) (n c : Nat) (a b : Int) (hn : n ≤ l.length) (hs : n ≤ 1000) : Runs Tryd.prog cfg 37 [.slice (some ⟨0, 0, none⟩) n c, .int .i64 a, .int .i64 b] (AH.of [some (.ro (evs l))])
    fun r H' => r = .ret (.bool (meetS (l.take n) a b)) ∧ H' = AH.of [some (.ro (evs l))] := by
  refine Runs.ends ?_
  have hln : (l.take n).length = n := by rw [List.length_take]; omega
  rw [← met_all]
  obtain ⟨L, hL⟩ : ∃ L, l.take n = L := ⟨_, rfl⟩
  rw [hL] at hln ⊢
  refine runs_by (tbl := []) (by simp) 1001 0 (af := a37) rfl ?_
  rw [a37, b37, run_eq]
  refine ⟨by simp, ?_⟩
  simp (implicitDefEqProofs := false)
  refine loop_view (sg_mono gX_ok (tabS_ok (by simp)) _ _ noY noY_mono) (fun m tm H => ∃ i : Nat, m + i = n ∧ metN L a b i = false ∧ tm 0 = .slice (some ⟨0, 0, none⟩) n c ∧ tm 1 = .int .i64 a ∧ tm 2 = .int .i64 b ∧ tm 7 = .int .i64 i ∧ H = AH.of [some (.ro (evs l))]) (m := n) ?_ (by omega) ?_
  · refine round_plan [] [0] [some (.ro (evs l))] n (by omega) ?_ ?_ ⟨0, ?_⟩ <;> simp [metN]
  rintro m tm H ⟨i, hm, hno, t0, t1, t2, t7, rfl⟩
  by_cases hi : i < n
  · obtain ⟨x, hx⟩ : ∃ x, l[i]? = some x := ⟨l[i]'(by omega), List.getElem?_eq_getElem (by omega)⟩
    have hxL : L[i]? = some x := by rw [← hL, List.getElem?_take, if_pos hi, hx]
    have hi' : (i : Int) < n := by omega
    have hwr := inc_i64 hi (by omega)
    have hroom := evs_room (show i < l.length by omega)
    have hmany := many_evs' hx
    have hat := evs_at hx
    have hsuc : metN L a b (i + 1) = (metN L a b i || L.any (metE a b x)) := any_succ hxL _
    have hyes : L.any (metE a b x) = true → metN L a b L.length = true := fun h => by
      unfold metN
      rw [List.take_length, List.any_eq_true]
      exact ⟨x, List.mem_of_getElem? hxL, h⟩
    rw [hno, Bool.false_or] at hsuc
    simp (implicitDefEqProofs := false) [t0, t1, t2, t7, hi, hi']
    refine loop_view (sg_mono gX_ok (tabS_ok (by simp)) _ _ noY noY_mono) (fun m2 tm H => ∃ k : Nat, m2 + k = n ∧ anyN (metE a b x) L k = false ∧ tm 0 = .slice (some ⟨0, 0, none⟩) n c ∧ tm 1 = .int .i64 a ∧ tm 2 = .int .i64 b ∧ tm 7 = .int .i64 i ∧ tm 8 = .int .i64 k ∧ H = AH.of [some (.ro (evs l))]) (m := n) ?_ (by omega) ?_
    · refine round_plan [] [0] [some (.ro (evs l))] n (by omega) ?_ ?_ ⟨0, ?_⟩ <;> simp [t0, t1, t2, t7, anyN]
    rintro m2 tm H ⟨k, hm2, hnk, t0, t1, t2, t7, t8, rfl⟩
    by_cases hk : k < n
    · obtain ⟨y, hy⟩ : ∃ y, l[k]? = some y := ⟨l[k]'(by omega), List.getElem?_eq_getElem (by omega)⟩
      have hyL : L[k]? = some y := by rw [← hL, List.getElem?_take, if_pos hk, hy]
      have hk' : (k : Int) < n := by omega
      have hwk := inc_i64 hk (by omega)
      have hroomk := evs_room (show k < l.length by omega)
      have hmanyk := many_evs' hy
      have hsk : anyN (metE a b x) L (k + 1) = (anyN (metE a b x) L k || metE a b x y) := any_succ hyL (metE a b x)
      rw [hnk, Bool.false_or] at hsk
      have hyk : metE a b x y = true → metN L a b L.length = true := fun h => hyes (List.any_eq_true.2 ⟨y, List.mem_of_getElem? hyL, h⟩)
      by_cases xa : x.a = a
      · by_cases ya : y.a = b
        · by_cases xt : x.t = y.t
          · by_cases x3 : x.k = 3
            · by_cases y3 : y.k = 3
              · have h1 := hyk (by simp [metE, meetE, isK, rw, xa, ya, xt, x3, y3])
                simp (implicitDefEqProofs := false) [t0, t1, t2, t7, t8, hi, hi', hk, hk', hwk, hroom, hmany, hroomk, hmanyk, xa, ya, xt, x3, y3, h1]
                refine ⟨?_, ?_⟩ <;> (refine ends_plan [] [0] ?_ ?_ ?_ <;> simp)
              · by_cases y2 : y.k = 2
                · have h1 := hyk (by simp [metE, meetE, isK, rw, xa, ya, xt, x3, y2])
                  simp (implicitDefEqProofs := false) [t0, t1, t2, t7, t8, hi, hi', hk, hk', hwk, hroom, hmany, hroomk, hmanyk, xa, ya, xt, x3, y2, h1]
                  refine ⟨?_, ?_⟩ <;> (refine ends_plan [] [0] ?_ ?_ ?_ <;> simp)
                · have h1 : metE a b x y = false := by simp [metE, meetE, isK, rw, xa, ya, xt, x3, y2, y3]
                  simp (implicitDefEqProofs := false) [t0, t1, t2, t7, t8, hi, hi', hk, hk', hwk, hroom, hmany, hroomk, hmanyk, xa, ya, xt, x3, y2, y3]
                  refine ⟨?_, ?_⟩ <;> (refine round_plan [] [0] [some (.ro (evs l))] (m2 - 1) (by omega) ?_ ?_ ⟨k + 1, by omega, by rw [hsk, h1], ?_⟩ <;> simp [t0, t1, t2, t7])
            · by_cases x2 : x.k = 2
              · by_cases y3 : y.k = 3
                · have h1 := hyk (by simp [metE, meetE, isK, rw, xa, ya, xt, x2, y3])
                  simp (implicitDefEqProofs := false) [t0, t1, t2, t7, t8, hi, hi', hk, hk', hwk, hroom, hmany, hroomk, hmanyk, xa, ya, xt, x2, y3, h1]
                  refine ⟨?_, ?_⟩ <;> (refine ends_plan [] [0] ?_ ?_ ?_ <;> simp)
                · have h1 : metE a b x y = false := by simp [metE, meetE, isK, rw, xa, ya, xt, x2, y3]
                  simp (implicitDefEqProofs := false) [t0, t1, t2, t7, t8, hi, hi', hk, hk', hwk, hroom, hmany, hroomk, hmanyk, xa, ya, xt, x2, y3]
                  refine ⟨?_, ?_⟩ <;> (refine round_plan [] [0] [some (.ro (evs l))] (m2 - 1) (by omega) ?_ ?_ ⟨k + 1, by omega, by rw [hsk, h1], ?_⟩ <;> simp [t0, t1, t2, t7])
              · have h1 : metE a b x y = false := by simp [metE, meetE, isK, rw, xa, ya, xt, x2, x3]
                simp (implicitDefEqProofs := false) [t0, t1, t2, t7, t8, hi, hi', hk, hk', hwk, hroom, hmany, hroomk, hmanyk, xa, ya, xt, x2, x3]
                refine ⟨?_, ?_⟩ <;> (refine round_plan [] [0] [some (.ro (evs l))] (m2 - 1) (by omega) ?_ ?_ ⟨k + 1, by omega, by rw [hsk, h1], ?_⟩ <;> simp [t0, t1, t2, t7])
          · have h1 : metE a b x y = false := by simp [metE, meetE, xt]
            simp (implicitDefEqProofs := false) [t0, t1, t2, t7, t8, hi, hi', hk, hk', hwk, hroom, hmany, hroomk, hmanyk, xa, ya, xt]
            refine ⟨?_, ?_⟩ <;> (refine round_plan [] [0] [some (.ro (evs l))] (m2 - 1) (by omega) ?_ ?_ ⟨k + 1, by omega, by rw [hsk, h1], ?_⟩ <;> simp [t0, t1, t2, t7])
        · have h1 : metE a b x y = false := by simp [metE, ya]
          simp (implicitDefEqProofs := false) [t0, t1, t2, t7, t8, hi, hi', hk, hk', hwk, hroom, hmany, hroomk, hmanyk, xa, ya]
          refine ⟨?_, ?_⟩ <;> (refine round_plan [] [0] [some (.ro (evs l))] (m2 - 1) (by omega) ?_ ?_ ⟨k + 1, by omega, by rw [hsk, h1], ?_⟩ <;> simp [t0, t1, t2, t7])
      · have h1 : metE a b x y = false := by simp [metE, xa]
        simp (implicitDefEqProofs := false) [t0, t1, t2, t7, t8, hi, hi', hk, hk', hwk, hroom, hmany, hroomk, hmanyk, xa]
        refine ⟨?_, ?_⟩ <;> (refine round_plan [] [0] [some (.ro (evs l))] (m2 - 1) (by omega) ?_ ?_ ⟨k + 1, by omega, by rw [hsk, h1], ?_⟩ <;> simp [t0, t1, t2, t7])
    · have hke : k = n := by omega
      have hk' : ¬ (k : Int) < n := by omega
      have hall : L.any (metE a b x) = false := by rw [← hnk, hke, ← hln, anyN, List.take_length]
      simp (implicitDefEqProofs := false) [t0, t1, t2, t7, t8, hk', hwr]
      refine round_plan [] [0] [some (.ro (evs l))] (m - 1) (by omega) ?_ ?_ ⟨i + 1, by omega, by rw [hsuc, hall], ?_⟩ <;> simp [t0, t1, t2]
  · have hie : i = n := by omega
    have hi' : ¬ (i : Int) < n := by omega
    have hf : metN L a b L.length = false := by rw [hln, ← hie]; exact hno
    simp (implicitDefEqProofs := false) [t0, t1, t2, t7, hi', hf]
    refine ends_plan [] [0] ?_ ?_ ?_ <;> simp
def r37 : RStep
  | l, [.int .i64 a, .int .i64 b] => some (l.length ≤ 1000, .bool (meetS l a b))
  | _, _ => none
theorem st37_ok : CStepOk Tryd.prog cfg 37 (rdSt r37) := rd_ok fun l n c rest p v hn h hp => by
  unfold r37 at h
  split at h
  · cases h
    rw [List.length_take] at hp
    exact ⟨rfl, rfl, runs37 l n c _ _ hn (by omega)⟩
  · cases h
end YtmhkpababjdnbaaDoor
end Go.Proofs
/-
  TRACE: touched, meet, Conflicts.
-/
set_option linter.unusedSimpArgs false
set_option linter.unusedVariables false
set_option linter.unnecessarySimpa false
set_option linter.unusedSectionVars false
namespace Go.Proofs
namespace YtmhkpababjdnbaaDoor
open Go.Abs
set_option linter.unusedSimpArgs false

def entT : Nat → List (Int × Bool) → List MapEntry
  | _, [] => []
  | i, p :: m => ⟨.int .i64 p.1, .bool p.2, i⟩ :: entT (i + 1) m
theorem sameK_i (a b : Int) : sameK false (.int .i64 a) (.int .i64 b) = some (decide (a = b)) := by
  show some (a == b) = _
  by_cases h : a = b <;> simp [h]
theorem entT_find (t : Int) : ∀ (m : List (Int × Bool)) (i : Nat), findIn false (.int .i64 t) (entT i m) = some ((getT m t).map Value.bool)
  | [], i => rfl
  | p :: m, i => by
    rw [entT, findIn, sameK_i]
    by_cases h : t = p.1
    · simp [h, getT]
    · have h2 : ¬ p.1 = t := fun e => h e.symm
      have e : getT (p :: m) t = getT m t := by simp [getT, h2]
      simp only [h, decide_false]
      rw [entT_find t m (i + 1), e]
theorem entT_put (t : Int) (b : Bool) (cl : Nat) : ∀ (m : List (Int × Bool)) (i : Nat), cl = i + m.length → putIn false (.int .i64 t) (.bool b) cl (entT i m) = some (entT i (putT m t b), i + (putT m t b).length)
  | [], i, h => by
    simp at h; subst h
    simp [entT, putIn, putT]
  | p :: m, i, h => by
    rw [entT, putIn, sameK_i]
    by_cases ht : t = p.1
    · subst ht
      simp [putT, entT, h]
    · have h2 : ¬ p.1 = t := fun e => ht e.symm
      have := entT_put t b cl m (i + 1) (by simp at h; omega)
      simp only [ht, decide_false, this, Option.map_some, putT, h2, if_false, entT, List.length_cons]
      congr 2; omega
theorem entT_mem : ∀ (m : List (Int × Bool)) (i : Nat) {e : MapEntry}, e ∈ entT i m → (∃ p ∈ m, e.key = .int .i64 p.1 ∧ e.val = .bool p.2) ∧ i ≤ e.born ∧ e.born < i + m.length
  | p :: m, i, e, h => by
    rw [entT] at h
    rcases List.mem_cons.1 h with rfl | h
    · exact ⟨⟨p, by simp, rfl, rfl⟩, Nat.le_refl _, by simp⟩
    · obtain ⟨⟨q, h1, h2⟩, h3, h4⟩ := entT_mem m (i + 1) h
      exact ⟨⟨q, List.mem_cons_of_mem _ h1, h2⟩, by omega, by simp; omega⟩
theorem entT_all : ∀ (m : List (Int × Bool)) (i : Nat) {p : Int × Bool}, p ∈ m → ∃ e ∈ entT i m, e.key = .int .i64 p.1 ∧ e.val = .bool p.2
  | q :: m, i, p, h => by
    rcases List.mem_cons.1 h with rfl | h
    · exact ⟨_, List.mem_cons_self, rfl, rfl⟩
    · obtain ⟨e, h1, h2⟩ := entT_all m (i + 1) h
      exact ⟨e, List.mem_cons_of_mem _ h1, h2⟩
theorem entT_found : ∀ (m : List (Int × Bool)) (i : Nat) {e : MapEntry}, e ∈ entT i m → (entT i m).find? (·.born == e.born) = some e
  | p :: m, i, e, h => by
    rw [entT] at h ⊢
    rcases List.mem_cons.1 h with rfl | h
    · simp
    · have h2 := (entT_mem m (i + 1) h).2.1
      have : (i == e.born) = false := by simp; omega
      rw [List.find?_cons]
      simp only [this]
      exact entT_found m (i + 1) h
theorem entT_ren (θ : Nat → Nat) : ∀ (m : List (Int × Bool)) (i : Nat), (entT i m).map (fun e => (⟨ren θ e.key, ren θ e.val, e.born⟩ : MapEntry)) = entT i m
  | [], _ => rfl
  | p :: m, i => by
    rw [entT, List.map_cons, entT_ren θ m]
    simp
/-- How many are not seen yet. -/
def leftE (es : List MapEntry) (seen : List Nat) : Nat := es.countP fun e => !seen.contains e.born
theorem leftE_le (es : List MapEntry) (seen : List Nat) : leftE es seen ≤ es.length := List.countP_le_length
theorem leftE_add {es : List MapEntry} {seen : List Nat} {e : MapEntry} (h : e ∈ es) (hn : e.born ∉ seen) : leftE es (seen ++ [e.born]) < leftE es seen := by
  have mono : ∀ es : List MapEntry, leftE es (seen ++ [e.born]) ≤ leftE es seen := by
    intro es
    refine List.countP_mono_left fun x _ hx => ?_
    simp only [Bool.not_eq_true', List.contains_eq_mem, List.mem_append, decide_eq_false_iff_not, not_or] at hx ⊢
    exact hx.1
  induction es with
  | nil => cases h
  | cons x es ih =>
    unfold leftE at ih mono ⊢
    rw [List.countP_cons, List.countP_cons]
    rcases List.mem_cons.1 h with rfl | h
    · have h1 := mono es
      have e1 : (!(seen ++ [e.born]).contains e.born) = false := by simp
      have e2 : (!seen.contains e.born) = true := by simpa using hn
      rw [e1, e2]
      simp only [Bool.false_eq_true, if_false, if_true]
      omega
    · have h1 := ih h
      have h2 := mono [x]
      simp only [List.countP_cons, List.countP_nil] at h2
      omega

def tblTc : List (FuncId × CStep GD) := [(17, rnSt r17)]
theorem tblTc_ok : ∀ x ∈ tblTc, CStepOk Tryd.prog cfg x.1 x.2 := by simp [tblTc, st17_ok]
theorem putT_len (m : List (Int × Bool)) (t : Int) (b : Bool) : (putT m t b).length ≤ m.length + 1 := by
  induction m with
  | nil => simp [putT]
  | cons p m ih =>
    rw [putT]
    split <;> simp; omega
theorem tch_len : ∀ (c : List Ev) (m : List (Int × Bool)), (c.foldl tchF m).length ≤ m.length + c.length
  | [], m => by simp
  | x :: c, m => by
    have h1 := tch_len c (tchF m x)
    have h2 : (tchF m x).length ≤ m.length + 1 := by
      unfold tchF
      split
      · exact putT_len _ _ _
      · omega
    rw [List.foldl_cons, List.length_cons]
    omega
set_option maxHeartbeats 8000000 in
theorem runs32 (l : List Ev) (n c : Nat) (a : Int) (hn : n ≤ l.length) (hs : n ≤ 1000) : Runs Tryd.prog cfg 32 [.slice (some ⟨0, 0, none⟩) n c, .int .i64 a] (AH.of [some (.ro (evs l))])
    fun r H' => r = .ret (.map (some 1)) ∧ H' = AH.of [some (.ro (evs l)), some (.map (entT 0 (tchS (l.take n) a)) (tchS (l.take n) a).length)] := by
  refine Runs.ends ?_
  have hlen : (l.take n).length ≤ 1000 := by rw [List.length_take]; omega
  have hle := cut_le (l.take n) a
  obtain ⟨q, hq⟩ : ∃ q, cutS (l.take n) a = q := ⟨_, rfl⟩
  unfold tchS
  rw [hq] at hle ⊢
  obtain ⟨N, hN⟩ : ∃ N, q.length = N := ⟨_, rfl⟩
  rw [hN] at hle
  refine runs_by (tbl := tblTc) tblTc_ok 1001 0 (af := a32) rfl ?_
  rw [a32, b32, run_eq]
  refine ⟨by simp, ?_⟩
  simp (implicitDefEqProofs := false) [tblTc, rnSt, r17, hn, hs, hq, hN, hlen]
  refine loop_view (sg_mono gX_ok (tabS_ok tblTc_ok) _ _ noY noY_mono) (fun m tm H => ∃ i : Nat, m + i = N ∧ tm 5 = .map (some 1) ∧ tm 11 = .slice (some ⟨2, 0, none⟩) N 1 ∧ tm 12 = .int .i64 N ∧ tm 13 = .int .i64 i ∧ H = AH.of [some (.ro (evs l)), some (.map (entT 0 ((q.take i).foldl tchF [])) ((q.take i).foldl tchF []).length), some (.arr 43 (evs q))]) (m := N) ?_ (by omega) ?_
  · refine round_plan [] [0, 1, 2] [some (.ro (evs l)), some (.map [] 0), some (.arr 43 (evs q))] N (by omega) ?_ ?_ ⟨0, ?_⟩ <;> simp [entT]
  rintro m tm H ⟨i, hm, t5, t11, t12, t13, rfl⟩
  by_cases hi : i < N
  · obtain ⟨x, hx⟩ : ∃ x, q[i]? = some x := ⟨q[i]'(by omega), List.getElem?_eq_getElem (by omega)⟩
    have hi' : (i : Int) < N := by omega
    have hwr := inc_i64 hi (by omega)
    have hsuc : (q.take (i + 1)).foldl tchF [] = tchF ((q.take i).foldl tchF []) x := by rw [take_snoc hx]; simp
    have hroom := evs_room (show i < q.length by omega)
    have hmany := many_evs' hx
    generalize (q.take i).foldl tchF [] = M at *
    have hf := entT_find x.t M 0
    have hput := fun b => entT_put x.t b M.length M 0 (by omega)
    simp only [Nat.zero_add] at hput
    have fin : ∀ M', (q.take (i + 1)).foldl tchF [] = M' → (AH.of [some (.ro (evs l)), some (.map (entT 0 M') M'.length), some (.arr 43 (evs q))] : AH GD) = AH.of [some (.ro (evs l)), some (.map (entT 0 ((q.take (i + 1)).foldl tchF [])) ((q.take (i + 1)).foldl tchF []).length), some (.arr 43 (evs q))] := fun M' h => by rw [h]
    by_cases k2 : x.k = 2
    · have hsuc' : (q.take (i + 1)).foldl tchF [] = putT M x.t ((getT M x.t).getD false) := by rw [hsuc]; simp [tchF, rw, isK, k2]
      cases hg : getT M x.t with
      | none =>
        rw [hg] at hf hsuc'
        simp only [Option.map_none] at hf
        simp (implicitDefEqProofs := false) [t5, t11, t12, t13, hi, hi', hwr, hroom, hmany, k2, hf, hput]
        refine round_plan [] [0, 1, 2] [some (.ro (evs l)), some (.map (entT 0 (putT M x.t false)) (putT M x.t false).length), some (.arr 43 (evs q))] (m - 1) (by omega) ?_ ?_ ⟨i + 1, by omega, ?_, ?_, ?_, ?_, fin _ hsuc'⟩ <;> simp [t5, t11, t12, entT_ren]
      | some b =>
        rw [hg] at hf hsuc'
        simp only [Option.map_some] at hf
        cases b with
        | true =>
          simp (implicitDefEqProofs := false) [t5, t11, t12, t13, hi, hi', hwr, hroom, hmany, k2, hf, hput]
          refine round_plan [] [0, 1, 2] [some (.ro (evs l)), some (.map (entT 0 (putT M x.t true)) (putT M x.t true).length), some (.arr 43 (evs q))] (m - 1) (by omega) ?_ ?_ ⟨i + 1, by omega, ?_, ?_, ?_, ?_, fin _ hsuc'⟩ <;> simp [t5, t11, t12, entT_ren]
        | false =>
          simp (implicitDefEqProofs := false) [t5, t11, t12, t13, hi, hi', hwr, hroom, hmany, k2, hf, hput]
          refine round_plan [] [0, 1, 2] [some (.ro (evs l)), some (.map (entT 0 (putT M x.t false)) (putT M x.t false).length), some (.arr 43 (evs q))] (m - 1) (by omega) ?_ ?_ ⟨i + 1, by omega, ?_, ?_, ?_, ?_, fin _ hsuc'⟩ <;> simp [t5, t11, t12, entT_ren]
    · by_cases k3 : x.k = 3
      · have hsuc' : (q.take (i + 1)).foldl tchF [] = putT M x.t true := by rw [hsuc]; simp [tchF, rw, isK, k3]
        cases hg : getT M x.t with
        | none =>
          rw [hg] at hf
          simp only [Option.map_none] at hf
          simp (implicitDefEqProofs := false) [t5, t11, t12, t13, hi, hi', hwr, hroom, hmany, k3, hf, hput]
          refine round_plan [] [0, 1, 2] [some (.ro (evs l)), some (.map (entT 0 (putT M x.t true)) (putT M x.t true).length), some (.arr 43 (evs q))] (m - 1) (by omega) ?_ ?_ ⟨i + 1, by omega, ?_, ?_, ?_, ?_, fin _ hsuc'⟩ <;> simp [t5, t11, t12, entT_ren]
        | some b =>
          rw [hg] at hf
          simp only [Option.map_some] at hf
          cases b with
          | true =>
            simp (implicitDefEqProofs := false) [t5, t11, t12, t13, hi, hi', hwr, hroom, hmany, k3, hf, hput]
            refine round_plan [] [0, 1, 2] [some (.ro (evs l)), some (.map (entT 0 (putT M x.t true)) (putT M x.t true).length), some (.arr 43 (evs q))] (m - 1) (by omega) ?_ ?_ ⟨i + 1, by omega, ?_, ?_, ?_, ?_, fin _ hsuc'⟩ <;> simp [t5, t11, t12, entT_ren]
          | false =>
            simp (implicitDefEqProofs := false) [t5, t11, t12, t13, hi, hi', hwr, hroom, hmany, k3, hf, hput]
            refine round_plan [] [0, 1, 2] [some (.ro (evs l)), some (.map (entT 0 (putT M x.t true)) (putT M x.t true).length), some (.arr 43 (evs q))] (m - 1) (by omega) ?_ ?_ ⟨i + 1, by omega, ?_, ?_, ?_, ?_, fin _ hsuc'⟩ <;> simp [t5, t11, t12, entT_ren]
      · have hsuc' : (q.take (i + 1)).foldl tchF [] = M := by rw [hsuc]; simp [tchF, rw, isK, k2, k3]
        simp (implicitDefEqProofs := false) [t5, t11, t12, t13, hi, hi', hwr, hroom, hmany, k2, k3]
        refine round_plan [] [0, 1, 2] [some (.ro (evs l)), some (.map (entT 0 M) M.length), some (.arr 43 (evs q))] (m - 1) (by omega) ?_ ?_ ⟨i + 1, by omega, ?_, ?_, ?_, ?_, fin _ hsuc'⟩ <;> simp [t5, t11, t12, entT_ren]
  · have hie : i = N := by omega
    have hi' : ¬ (i : Int) < N := by omega
    have htq : q.take i = q := by rw [hie, ← hN]; exact List.take_length
    rw [htq]
    simp (implicitDefEqProofs := false) [t5, t11, t12, t13, hi']
    refine ends_plan [] [0, 1] ?_ ?_ ?_ <;> simp [entT_ren]
def st32 : CStep GD := fun args H => match args with
  | [.slice (some ⟨k, 0, none⟩) n _, .int .i64 a] => match getEvs H k with
    | some l => some (k < H.next ∧ n ≤ l.length ∧ n ≤ 1000, .ret (.map (some H.next)), H.add (.map (entT 0 (tchS (l.take n) a)) (tchS (l.take n) a).length))
    | none => none
  | _ => none
theorem st32_ok : CStepOk Tryd.prog cfg 32 st32 := by
  intro args H p r H' h hp
  unfold st32 at h
  split at h
  case h_2 => cases h
  split at h
  case h_2 => cases h
  rename_i k n c a _ l hl
  cases h
  obtain ⟨hkl, hn, hs⟩ := hp
  have hkl := Nat.ne_of_lt hkl
  rcases getEvs_inv hl with hk | ⟨e, hk⟩
  · exact (runs32 l n c a hn hs).atK (ro_same fun i cs hi => by rcases i with _ | _ | i <;> simp at hi ⊢; exact hi) [k] (by simp) (by simp) (by simp [hk]) (by simp) (by simp) (by simp [upd_get hk, entT_ren])
  · refine Runs.borrow k hk ?_
    have hk2 : (H.upd k (.ro (evs l))).get k = some (.ro (evs l)) := by rw [AH.get_upd, if_pos rfl]
    have hr2 := (runs32 l n c a hn hs).atK (H := H.upd k (.ro (evs l))) (args := [.slice (some ⟨k, 0, none⟩) n c, .int .i64 a]) (r' := .ret (.map (some H.next))) (H' := (H.upd k (.ro (evs l))).add (.map (entT 0 (tchS (l.take n) a)) (tchS (l.take n) a).length)) (ro_same fun i cs hi => by rcases i with _ | _ | i <;> simp at hi ⊢; exact hi) [k] (by simp) (by simp) (by simp [hk2]) (by simp) (by simp) (by simp [upd_get hk2, entT_ren])
    refine hr2.mono ?_
    rintro r H' ⟨e1, rfl⟩
    refine ⟨by rw [AH.get_add, AH.next_upd, if_neg hkl, hk2], fun j cs2 hj hcs hne => ⟨cs2, ?_, hne⟩, e1, ?_⟩
    · rw [AH.get_add, AH.next_upd] at hcs
      split at hcs
      · cases hcs
      · rw [AH.get_upd, if_neg hj] at hcs; exact hcs
    · refine AH.ext' (by simp) fun j => ?_
      rw [AH.get_upd, AH.get_add, AH.get_add, AH.next_upd, AH.get_upd]
      by_cases hj : j = k
      · subst hj; rw [if_pos rfl, if_neg hkl, hk]
      · rw [if_neg hj, if_neg hj]

def meetP (b : List (Int × Bool)) (p : Int × Bool) : Bool := match getT b p.1 with
  | none => false
  | some also => p.2 || also
/-- None that was seen meets. -/
def NoMeet (b : List (Int × Bool)) (es : List MapEntry) (seen : List Nat) : Prop := ∀ e ∈ es, e.born ∈ seen → ∀ p : Int × Bool, e.key = .int .i64 p.1 → e.val = .bool p.2 → meetP b p = false
theorem meetT_eq (a b : List (Int × Bool)) : meetT a b = a.any (meetP b) := rfl
set_option maxHeartbeats 8000000 in
theorem runs33 (a b : List (Int × Bool)) (ha : a.length ≤ 1000) : Runs Tryd.prog cfg 33 [.map (some 0), .map (some 1)] (AH.of [some (.map (entT 0 a) a.length), some (.map (entT 0 b) b.length)])
    fun r H' => r = .ret (.bool (meetT a b)) ∧ H' = AH.of [some (.map (entT 0 a) a.length), some (.map (entT 0 b) b.length)] := by
  refine Runs.ends ?_
  have hla : (entT 0 a).length = a.length := by
    have : ∀ (m : List (Int × Bool)) (i : Nat), (entT i m).length = m.length := by
      intro m
      induction m with
      | nil => intro i; rfl
      | cons p m ih => intro i; rw [entT, List.length_cons, ih, List.length_cons]
    exact this a 0
  refine runs_by (tbl := []) (by simp) 1001 0 (af := a33) rfl ?_
  rw [a33, b33, run_eq]
  refine ⟨by simp, ?_⟩
  simp (implicitDefEqProofs := false)
  refine loop_view (sg_mono gX_ok (tabS_ok (by simp)) _ _ noY noY_mono) (fun m tm H => ∃ seen, m = leftE (entT 0 a) seen ∧ NoMeet b (entT 0 a) seen ∧ tm 1 = .map (some 1) ∧ tm 10 = .pointer (some ⟨2, 0, none⟩) ∧
    H = AH.of [some (.map (entT 0 a) a.length), some (.map (entT 0 b) b.length), some (.miter 0 a.length seen a.length)]) (m := leftE (entT 0 a) []) ?_ (by have := leftE_le (entT 0 a) []; omega) ?_
  · refine round_plan [] [0, 1, 2] [some (.map (entT 0 a) a.length), some (.map (entT 0 b) b.length), some (.miter 0 a.length [] a.length)] (leftE (entT 0 a) []) (by omega) ?_ ?_ ⟨[], rfl, fun _ _ h => absurd h (by simp), ?_⟩ <;> simp [entT_ren]
  rintro m tm H ⟨seen, hm, hno, t1, t10, rfl⟩
  have hold : ∀ e ∈ entT 0 a, e.born < a.length := fun e he => by have := (entT_mem a 0 he).2.2; omega
  simp (implicitDefEqProofs := false) [t1, t10]
  refine ⟨hold, fun hall => ?_, fun e he hn => ?_⟩
  · have hf : meetT a b = false := by
      rw [meetT_eq, List.any_eq_false]
      intro p hp
      obtain ⟨e, he, h1, h2⟩ := entT_all a 0 hp
      rw [hno e he (hall e he) p h1 h2]
      simp
    rw [hf]
    refine ends_plan [] [0, 1] ?_ ?_ ?_ <;> simp [entT_ren]
  · have hfound := entT_found a 0 he
    obtain ⟨p, hp, hk, hv⟩ := (entT_mem a 0 he).1
    have hf := entT_find p.1 b 0
    have hlt := leftE_add he hn
    have fin : meetP b p = false → NoMeet b (entT 0 a) (seen ++ [e.born]) := fun hmp e' he' hb p' h1 h2 => by
      rcases List.mem_append.1 hb with hb | hb
      · exact hno e' he' hb p' h1 h2
      · have hb : e'.born = e.born := by simpa using hb
        have h3 := entT_found a 0 he'
        rw [hb, hfound] at h3
        cases h3
        rw [hk] at h1; rw [hv] at h2
        cases p; cases p'
        simp at h1 h2
        subst h1 h2
        exact hmp
    have tru : meetP b p = true → meetT a b = true := fun h => by rw [meetT_eq, List.any_eq_true]; exact ⟨p, hp, h⟩
    cases hg : getT b p.1 with
    | none =>
      rw [hg] at hf
      simp only [Option.map_none] at hf
      have hmp : meetP b p = false := by simp [meetP, hg]
      simp (implicitDefEqProofs := false) [hfound, hk, hv, hf, t1, t10]
      refine round_plan [] [0, 1, 2] [some (.map (entT 0 a) a.length), some (.map (entT 0 b) b.length), some (.miter 0 a.length (seen ++ [e.born]) a.length)] (leftE (entT 0 a) (seen ++ [e.born])) (by omega) ?_ ?_ ⟨seen ++ [e.born], rfl, fin hmp, ?_⟩ <;> simp [entT_ren, t1, t10]
    | some also =>
      rw [hg] at hf
      simp only [Option.map_some] at hf
      cases hw : p.2 with
      | true =>
        have hmp : meetP b p = true := by simp [meetP, hg, hw]
        have ht := tru hmp
        rw [hw] at hv
        simp (implicitDefEqProofs := false) [hfound, hk, hv, hf, t1, t10, ht]
        refine ends_plan [] [0, 1] ?_ ?_ ?_ <;> simp [entT_ren]
      | false =>
        cases also with
        | true =>
          have hmp : meetP b p = true := by simp [meetP, hg, hw]
          have ht := tru hmp
          rw [hw] at hv
          simp (implicitDefEqProofs := false) [hfound, hk, hv, hf, t1, t10, ht]
          refine ends_plan [] [0, 1] ?_ ?_ ?_ <;> simp [entT_ren]
        | false =>
          have hmp : meetP b p = false := by simp [meetP, hg, hw]
          have hfin := fin hmp
          rw [hw] at hv
          simp (implicitDefEqProofs := false) [hfound, hk, hv, hf, t1, t10]
          refine round_plan [] [0, 1, 2] [some (.map (entT 0 a) a.length), some (.map (entT 0 b) b.length), some (.miter 0 a.length (seen ++ [e.born]) a.length)] (leftE (entT 0 a) (seen ++ [e.born])) (by omega) ?_ ?_ ⟨seen ++ [e.born], rfl, hfin, ?_⟩ <;> simp [entT_ren, t1, t10]
end YtmhkpababjdnbaaDoor
end Go.Proofs
/-
  TRACE: Conflicts.
-/
set_option linter.unusedSimpArgs false
set_option linter.unusedVariables false
set_option linter.unnecessarySimpa false
set_option linter.unusedSectionVars false
namespace Go.Proofs
namespace YtmhkpababjdnbaaDoor
open Go.Abs
set_option linter.unusedSimpArgs false

def unT : List MapEntry → List (Int × Bool)
  | [] => []
  | ⟨.int _ t, .bool b, _⟩ :: es => (t, b) :: unT es
  | _ :: es => unT es
theorem unT_ent : ∀ (m : List (Int × Bool)) (i : Nat), unT (entT i m) = m
  | [], _ => rfl
  | p :: m, i => by
    show (p.1, p.2) :: unT (entT (i + 1) m) = _
    rw [unT_ent m]
def st33 : CStep GD := fun args H => match args with
  | [.map (some j), .map (some k)] => match H.get j, H.get k with
    | some (.map ea ca), some (.map eb cb) => some (j ≠ k ∧ ea = entT 0 (unT ea) ∧ ca = (unT ea).length ∧ eb = entT 0 (unT eb) ∧ cb = (unT eb).length ∧ (unT ea).length ≤ 1000, .ret (.bool (meetT (unT ea) (unT eb))), H)
    | _, _ => none
  | _ => none
theorem st33_ok : CStepOk Tryd.prog cfg 33 st33 := by
  intro args H p r H' h hp
  unfold st33 at h
  split at h
  case h_2 => cases h
  split at h
  case h_2 => cases h
  rename_i j k _ _ ea ca eb cb hj hk
  cases h
  obtain ⟨p1, p2, p3, p4, p5, p6⟩ := hp
  rw [p2, p3] at hj
  rw [p4, p5] at hk
  exact (runs33 (unT ea) (unT eb) p6).atK (ro_none rfl) [j, k] (by simp [p1]) (by simp) (by simp [hj, hk, entT_ren]) (by simp) (by simp) (by simp [entT_ren, upd_get hj, upd_get hk])
attribute [simp] unT_ent entT_ren

def p2 (l : List (Int × Int)) : List Value := l.flatMap fun p => [.int .i64 p.1, .int .i64 p.2]
theorem p2_nil : p2 [] = [] := rfl
theorem p2_cons (p : Int × Int) (l : List (Int × Int)) : p2 (p :: l) = .int .i64 p.1 :: .int .i64 p.2 :: p2 l := rfl
theorem p2_append (a b : List (Int × Int)) : p2 (a ++ b) = p2 a ++ p2 b := by simp [p2]
theorem p2_single (a b : Int) : p2 [(a, b)] = [.int .i64 a, .int .i64 b] := rfl
theorem p2_length (l : List (Int × Int)) : (p2 l).length = l.length * 2 := by
  induction l with
  | nil => rfl
  | cons p l ih => rw [p2_cons, List.length_cons, List.length_cons, ih, List.length_cons]; omega
theorem p2_ground (l : List (Int × Int)) : grounds (p2 l) = true := by
  induction l with
  | nil => rfl
  | cons p l ih => rw [p2_cons]; simp [grounds, ground, ih]
theorem ren_p2 (θ : Nat → Nat) (l : List (Int × Int)) : rens θ (p2 l) = p2 l := rens_ground θ _ (p2_ground l)
theorem take_p2 (l : List (Int × Int)) : (p2 l).take (l.length * 2) = p2 l := List.take_of_length_le (by simp [p2_length])
attribute [simp] ren_p2
theorem confl_len (l : List Ev) : ∀ A : List Int, (conflS l A).length ≤ A.length * A.length
  | [] => by simp [conflS]
  | a :: A => by
    have h1 := confl_len l A
    have h2 : (confR l a A).length ≤ A.length := by
      unfold confR
      rw [List.length_map]
      exact List.length_filter_le _ _
    rw [conflS, List.length_append, List.length_cons]
    have : (A.length + 1) * (A.length + 1) = A.length * A.length + A.length + A.length + 1 := by rw [Nat.add_mul, Nat.mul_add]; omega
    omega
theorem confR_cons (l : List Ev) (a b : Int) (rest : List Int) : confR l a (b :: rest) = (if (meetS l a b && !apartS l a b) = true then [(a, b)] else []) ++ confR l a rest := by
  unfold confR
  rw [List.filter_cons]
  split <;> simp
theorem drop_int {A : List Int} {i : Nat} {a : Int} (h : A[i]? = some a) : A.drop i = a :: A.drop (i + 1) := by
  have h2 := (List.getElem?_eq_some_iff.1 h).1
  rw [List.drop_eq_getElem_cons h2]
  congr 1
  rw [List.getElem?_eq_getElem h2] at h
  exact Option.some.inj h
def tblCf : List (FuncId × CStep GD) := [(11, rnSt r11), (32, st32), (33, st33), (34, rdSt r34)]
theorem tblCf_ok : ∀ x ∈ tblCf, CStepOk Tryd.prog cfg x.1 x.2 := by simp [tblCf, st11_ok, st32_ok, st33_ok, st34_ok]
theorem tchS_len (l : List Ev) (a : Int) : (tchS l a).length ≤ l.length := by
  have h1 := tch_len (cutS l a) []
  have h2 := cut_le l a
  unfold tchS
  simp only [List.length_nil, Nat.zero_add] at h1
  omega
def confI (l : List Ev) (L : List Ev) (A : List Int) (n c i : Nat) (a : Int) (m : Nat) (tm : Nat → Value) (H : AH GD) : Prop := ∃ (j q : Nat) (out : List (Int × Int)), m + j = A.length - (i + 1) ∧ conflS L A = out ++ (confR L a ((A.drop (i + 1)).drop j) ++ conflS L (A.drop (i + 1))) ∧
  tm 0 = .slice (some ⟨0, 0, none⟩) n c ∧ tm 3 = .slice (some ⟨q, 0, none⟩) out.length 1 ∧ tm 4 = .slice (some ⟨1, 0, none⟩) A.length 1 ∧ tm 6 = .int .i64 a ∧ tm 7 = .map (some 3) ∧ tm 12 = .slice (some ⟨1, 0, none⟩) A.length 1 ∧ tm 13 = .int .i64 A.length ∧ tm 14 = .int .i64 i ∧ tm 25 = .slice (some ⟨1, i + 1, none⟩) (A.length - (i + 1)) 0 ∧ tm 26 = .int .i64 ((A.length - (i + 1) : Nat) : Int) ∧ tm 27 = .int .i64 j ∧
  ((q = 2 ∧ H = AH.of [some (.ro (evs l)), some (.arr 3 (ints A)), some (.arr 49 (p2 out)), some (.map (entT 0 (tchS L a)) (tchS L a).length)]) ∨
   (q = 4 ∧ H = AH.of [some (.ro (evs l)), some (.arr 3 (ints A)), none, some (.map (entT 0 (tchS L a)) (tchS L a).length), some (.arr 49 (p2 out))]))
def confO (l : List Ev) (L : List Ev) (A : List Int) (n c : Nat) (m : Nat) (tm : Nat → Value) (H : AH GD) : Prop := ∃ (i : Nat) (out : List (Int × Int)), m + i = A.length ∧ conflS L A = out ++ conflS L (A.drop i) ∧
  tm 0 = .slice (some ⟨0, 0, none⟩) n c ∧ tm 3 = .slice (some ⟨2, 0, none⟩) out.length 1 ∧ tm 4 = .slice (some ⟨1, 0, none⟩) A.length 1 ∧ tm 12 = .slice (some ⟨1, 0, none⟩) A.length 1 ∧ tm 13 = .int .i64 A.length ∧ tm 14 = .int .i64 i ∧
  H = AH.of [some (.ro (evs l)), some (.arr 3 (ints A)), some (.arr 49 (p2 out))]
set_option maxHeartbeats 32000000 in
theorem runs18 (l : List Ev) (n c : Nat) (hn : n ≤ l.length) (hs : n ≤ 1000) : Runs Tryd.prog cfg 18 [.slice (some ⟨0, 0, none⟩) n c] (AH.of [some (.ro (evs l))])
    fun r H' => r = .ret (.slice (some ⟨1, 0, none⟩) (conflictsS (l.take n)).length 1) ∧ H' = AH.of [some (.ro (evs l)), some (.arr 49 (p2 (conflictsS (l.take n))))] := by
  refine Runs.ends ?_
  have hlen : (l.take n).length ≤ 1000 := by rw [List.length_take]; omega
  have hle := atts_le (l.take n)
  unfold conflictsS
  obtain ⟨L, hL⟩ : ∃ L, l.take n = L := ⟨_, rfl⟩
  rw [hL] at hle hlen ⊢
  obtain ⟨A, hA⟩ : ∃ A, attsS L = A := ⟨_, rfl⟩
  rw [hA] at hle ⊢
  have hcl : (conflS L A).length ≤ 1000000 := by
    have h1 := confl_len L A
    have h2 : A.length * A.length ≤ 1000 * 1000 := Nat.mul_le_mul (by omega) (by omega)
    omega
  refine runs_by (tbl := tblCf) tblCf_ok 1001 0 (af := a18) rfl ?_
  rw [a18, b18, run_eq]
  refine ⟨by simp, ?_⟩
  simp (implicitDefEqProofs := false) [tblCf, rnSt, r11, hn, hL, hA, hlen]
  refine loop_view (sg_mono gX_ok (tabS_ok tblCf_ok) _ _ noY noY_mono) (confO l L A n c) (m := A.length) ?_ (by omega) ?_
  · refine round_wk [.nil 49] [0, 1, 2] [some (.ro (evs l)), some (.arr 3 (ints A)), some (.arr 49 (p2 []))] [(3, .slice (some ⟨2, 0, none⟩) 0 1)] A.length (by omega) ?_ ?_ ?_ ⟨0, [], by omega, ?_⟩ <;> simp [p2_nil]
  rintro m tm H ⟨i, out, hm, hout, t0, t3, t4, t12, t13, t14, rfl⟩
  by_cases hi : i < A.length
  · obtain ⟨a, ha⟩ : ∃ a, A[i]? = some a := ⟨A[i]'(by omega), List.getElem?_eq_getElem (by omega)⟩
    have hi' : (i : Int) < A.length := by omega
    have hwr := inc_i64 hi (by omega)
    have ua := ints_at ha
    have ga := ints_get ha
    have hb1 : (0 : Int) ≤ (i : Int) + 1 := by omega
    have hb2 : (i : Int) + 1 ≤ A.length := by omega
    have hb3 : ((i : Int) + 1).toNat = i + 1 := by omega
    have hb4 : ¬ (i + 1 = 0) := by omega
    have hta := tchS_len L a
    rw [drop_int ha, conflS] at hout
    simp (implicitDefEqProofs := false) [tblCf, st32, t0, t3, t4, t12, t13, t14, hi, hi', hwr, ua, ga, hn, hs, hL, hb1, hb2, hb3, hb4, bound]
    refine loop_view (sg_mono gX_ok (tabS_ok tblCf_ok) _ _ noY noY_mono) (confI l L A n c i a) (m := A.length - (i + 1)) ?_ (by omega) ?_
    · refine round_plan [] [0, 1, 2, 3] [some (.ro (evs l)), some (.arr 3 (ints A)), some (.arr 49 (p2 out)), some (.map (entT 0 (tchS L a)) (tchS L a).length)] (A.length - (i + 1)) (by omega) ?_ ?_ ⟨0, 2, out, by omega, by rw [List.drop_zero]; exact hout, ?_, ?_, ?_, ?_, ?_, ?_, ?_, ?_, ?_, ?_, ?_, .inl ⟨rfl, rfl⟩⟩ <;> simp [t0, t3, t4, t12, t13, t14]
    rintro m2 tm H ⟨j, q, out, hm2, hout, t0, t3, t4, t6, t7, t12, t13, t14, t25, t26, t27, hH⟩
    have hol : out.length ≤ 1000000 := by
      have : (conflS L A).length = out.length + (confR L a ((A.drop (i + 1)).drop j) ++ conflS L (A.drop (i + 1))).length := by rw [hout, List.length_append]
      omega
    have hr3 : (out.length + 1) * 16 ≤ 140737488355328 ∧ out.length ≤ 9223372036854775806 := by omega
    have htk := take_p2 out
    have hol2 : out.length * 2 ≤ (p2 out).length := by rw [p2_length]; omega
    by_cases hj : j < A.length - (i + 1)
    · obtain ⟨b, hb⟩ : ∃ b, A[i + 1 + j]? = some b := ⟨A[i + 1 + j]'(by omega), List.getElem?_eq_getElem (by omega)⟩
      have hj' : (j : Int) < ((A.length - (i + 1) : Nat) : Int) := by omega
      have hwj := inc_i64 (i := j) (n := 1001) (by omega) (by omega)
      have ub := ints_at hb
      have gb := ints_get hb
      have hdj : (A.drop (i + 1)).drop j = b :: (A.drop (i + 1)).drop (j + 1) := drop_int (by rw [List.getElem?_drop]; exact hb)
      rw [hdj, confR_cons] at hout
      have htb := tchS_len L b
      have hl1 : (tchS L a).length ≤ 1000 := by omega
      have hmeq : meetT (tchS L a) (tchS L b) = meetS L a b := rfl
      obtain ⟨R, hR⟩ : ∃ R, A.length - (i + 1) = R := ⟨_, rfl⟩
      rw [hR] at hj hj' t25 t26 hm2
      rcases hH with ⟨rfl, rfl⟩ | ⟨rfl, rfl⟩
      · cases hM : meetS L a b with
        | false =>
          rw [hM] at hout
          simp only [Bool.false_and, Bool.false_eq_true, if_false, List.nil_append] at hout
          simp (implicitDefEqProofs := false) [tblCf, st32, st33, rdSt, r34, t0, t3, t4, t6, t7, t12, t13, t14, t25, t26, t27, hj, hj', hwj, ub, gb, hn, hs, hL, hlen, hl1, hmeq, hM]
          refine round_plan [] [0, 1, 2, 3] [some (.ro (evs l)), some (.arr 3 (ints A)), some (.arr 49 (p2 out)), some (.map (entT 0 (tchS L a)) (tchS L a).length)] (m2 - 1) (by omega) ?_ ?_ ⟨j + 1, 2, out, by omega, hout, ?_, ?_, ?_, ?_, ?_, ?_, ?_, ?_, ?_, ?_, ?_, .inl ⟨rfl, rfl⟩⟩ <;> simp [t0, t3, t4, t6, t7, t12, t13, t14, t25, t26, hR]
        | true =>
          cases hP : apartS L a b with
          | true =>
            rw [hM, hP] at hout
            simp only [Bool.not_true, Bool.and_false, Bool.false_eq_true, if_false, List.nil_append] at hout
            simp (implicitDefEqProofs := false) [tblCf, st32, st33, rdSt, r34, t0, t3, t4, t6, t7, t12, t13, t14, t25, t26, t27, hj, hj', hwj, ub, gb, hn, hs, hL, hlen, hl1, hmeq, hM, hP]
            refine round_plan [] [0, 1, 2, 3] [some (.ro (evs l)), some (.arr 3 (ints A)), some (.arr 49 (p2 out)), some (.map (entT 0 (tchS L a)) (tchS L a).length)] (m2 - 1) (by omega) ?_ ?_ ⟨j + 1, 2, out, by omega, hout, ?_, ?_, ?_, ?_, ?_, ?_, ?_, ?_, ?_, ?_, ?_, .inl ⟨rfl, rfl⟩⟩ <;> simp [t0, t3, t4, t6, t7, t12, t13, t14, t25, t26, hR]
          | false =>
            rw [hM, hP] at hout
            simp only [Bool.not_false, Bool.and_self, if_true] at hout
            have hout2 : conflS L A = (out ++ [(a, b)]) ++ (confR L a ((A.drop (i + 1)).drop (j + 1)) ++ conflS L (A.drop (i + 1))) := by rw [hout]; simp [List.append_assoc]
            simp (implicitDefEqProofs := false) [tblCf, st32, st33, rdSt, r34, t0, t3, t4, t6, t7, t12, t13, t14, t25, t26, t27, hj, hj', hwj, ub, gb, hn, hs, hL, hlen, hl1, hmeq, hM, hP, hr3, htk, hol2]
            refine round_plan [] [0, 1, 2, 3, 6] [some (.ro (evs l)), some (.arr 3 (ints A)), none, some (.map (entT 0 (tchS L a)) (tchS L a).length), some (.arr 49 (p2 (out ++ [(a, b)])))] (m2 - 1) (by omega) ?_ ?_ ⟨j + 1, 4, out ++ [(a, b)], by omega, hout2, ?_, ?_, ?_, ?_, ?_, ?_, ?_, ?_, ?_, ?_, ?_, .inr ⟨rfl, rfl⟩⟩ <;> simp [t0, t4, t6, t7, t12, t13, t14, t25, t26, hR, p2_append, p2_single]
      · cases hM : meetS L a b with
        | false =>
          rw [hM] at hout
          simp only [Bool.false_and, Bool.false_eq_true, if_false, List.nil_append] at hout
          simp (implicitDefEqProofs := false) [tblCf, st32, st33, rdSt, r34, t0, t3, t4, t6, t7, t12, t13, t14, t25, t26, t27, hj, hj', hwj, ub, gb, hn, hs, hL, hlen, hl1, hmeq, hM]
          refine round_plan [] [0, 1, 2, 3, 4] [some (.ro (evs l)), some (.arr 3 (ints A)), none, some (.map (entT 0 (tchS L a)) (tchS L a).length), some (.arr 49 (p2 out))] (m2 - 1) (by omega) ?_ ?_ ⟨j + 1, 4, out, by omega, hout, ?_, ?_, ?_, ?_, ?_, ?_, ?_, ?_, ?_, ?_, ?_, .inr ⟨rfl, rfl⟩⟩ <;> simp [t0, t3, t4, t6, t7, t12, t13, t14, t25, t26, hR]
        | true =>
          cases hP : apartS L a b with
          | true =>
            rw [hM, hP] at hout
            simp only [Bool.not_true, Bool.and_false, Bool.false_eq_true, if_false, List.nil_append] at hout
            simp (implicitDefEqProofs := false) [tblCf, st32, st33, rdSt, r34, t0, t3, t4, t6, t7, t12, t13, t14, t25, t26, t27, hj, hj', hwj, ub, gb, hn, hs, hL, hlen, hl1, hmeq, hM, hP]
            refine round_plan [] [0, 1, 2, 3, 4] [some (.ro (evs l)), some (.arr 3 (ints A)), none, some (.map (entT 0 (tchS L a)) (tchS L a).length), some (.arr 49 (p2 out))] (m2 - 1) (by omega) ?_ ?_ ⟨j + 1, 4, out, by omega, hout, ?_, ?_, ?_, ?_, ?_, ?_, ?_, ?_, ?_, ?_, ?_, .inr ⟨rfl, rfl⟩⟩ <;> simp [t0, t3, t4, t6, t7, t12, t13, t14, t25, t26, hR]
          | false =>
            rw [hM, hP] at hout
            simp only [Bool.not_false, Bool.and_self, if_true] at hout
            have hout2 : conflS L A = (out ++ [(a, b)]) ++ (confR L a ((A.drop (i + 1)).drop (j + 1)) ++ conflS L (A.drop (i + 1))) := by rw [hout]; simp [List.append_assoc]
            simp (implicitDefEqProofs := false) [tblCf, st32, st33, rdSt, r34, t0, t3, t4, t6, t7, t12, t13, t14, t25, t26, t27, hj, hj', hwj, ub, gb, hn, hs, hL, hlen, hl1, hmeq, hM, hP, hr3, htk, hol2]
            refine round_plan [] [0, 1, 2, 3, 7] [some (.ro (evs l)), some (.arr 3 (ints A)), none, some (.map (entT 0 (tchS L a)) (tchS L a).length), some (.arr 49 (p2 (out ++ [(a, b)])))] (m2 - 1) (by omega) ?_ ?_ ⟨j + 1, 4, out ++ [(a, b)], by omega, hout2, ?_, ?_, ?_, ?_, ?_, ?_, ?_, ?_, ?_, ?_, ?_, .inr ⟨rfl, rfl⟩⟩ <;> simp [t0, t4, t6, t7, t12, t13, t14, t25, t26, hR, p2_append, p2_single]
    · have hj' : ¬ (j : Int) < ((A.length - (i + 1) : Nat) : Int) := by omega
      have hdj : (A.drop (i + 1)).drop j = [] := List.drop_eq_nil_of_le (by rw [List.length_drop]; omega)
      rw [hdj] at hout
      have hout2 : conflS L A = out ++ conflS L (A.drop (i + 1)) := by rw [hout]; rfl
      rcases hH with ⟨rfl, rfl⟩ | ⟨rfl, rfl⟩
      · simp (implicitDefEqProofs := false) [t0, t3, t4, t6, t7, t12, t13, t14, t25, t26, t27, hj', hwr]
        refine round_plan [] [0, 1, 2] [some (.ro (evs l)), some (.arr 3 (ints A)), some (.arr 49 (p2 out))] (m - 1) (by omega) ?_ ?_ ⟨i + 1, out, by omega, hout2, ?_, ?_, ?_, ?_, ?_, ?_, rfl⟩ <;> simp [t0, t3, t4, t12, t13]
      · simp (implicitDefEqProofs := false) [t0, t3, t4, t6, t7, t12, t13, t14, t25, t26, t27, hj', hwr]
        refine round_plan [] [0, 1, 4] [some (.ro (evs l)), some (.arr 3 (ints A)), some (.arr 49 (p2 out))] (m - 1) (by omega) ?_ ?_ ⟨i + 1, out, by omega, hout2, ?_, ?_, ?_, ?_, ?_, ?_, rfl⟩ <;> simp [t0, t3, t4, t12, t13]
  · have hie : i = A.length := by omega
    have hi' : ¬ (i : Int) < A.length := by omega
    have hd : A.drop i = [] := List.drop_eq_nil_of_le (by omega)
    rw [hd, conflS, List.append_nil] at hout
    rw [← hout] at t3 ⊢
    simp (implicitDefEqProofs := false) [t0, t3, t4, t12, t13, t14, hi']
    refine ends_plan [] [0, 2] ?_ ?_ ?_ <;> simp
def r18 : RNStep
  | l, [] => some (l.length ≤ 1000, (conflictsS l).length, 49, p2 (conflictsS l))
  | _, _ => none
theorem st18_ok : CStepOk Tryd.prog cfg 18 (rnSt r18) := rn_ok fun l n c rest p m t cs hn h hp => by
  unfold r18 at h
  split at h
  · cases h
    rw [List.length_take] at hp
    exact ⟨rfl, p2_ground _, runs18 l n c hn (by omega)⟩
  · cases h
end YtmhkpababjdnbaaDoor
end Go.Proofs
/-
  TRACE: Chains.
-/
set_option linter.unusedSimpArgs false
set_option linter.unusedVariables false
set_option linter.unnecessarySimpa false
set_option linter.unusedSectionVars false
namespace Go.Proofs
namespace YtmhkpababjdnbaaDoor
open Go.Abs
set_option linter.unusedSimpArgs false

theorem ints_nl : ints [] = [] := rfl
def entD : Nat → List (Int × Int) → List MapEntry
  | _, [] => []
  | i, p :: m => ⟨.int .i64 p.1, .int .i64 p.2, i⟩ :: entD (i + 1) m
def getI (m : List (Int × Int)) (t : Int) : Option Int := (m.find? fun p => decide (p.1 = t)).map (·.2)
def putI : List (Int × Int) → Int → Int → List (Int × Int)
  | [], t, b => [(t, b)]
  | p :: m, t, b => if p.1 = t then (t, b) :: m else p :: putI m t b
theorem entD_find (t : Int) : ∀ (m : List (Int × Int)) (i : Nat), findIn false (.int .i64 t) (entD i m) = some ((getI m t).map (Value.int .i64))
  | [], i => rfl
  | p :: m, i => by
    rw [entD, findIn, sameK_i]
    by_cases h : t = p.1
    · simp [h, getI]
    · have h2 : ¬ p.1 = t := fun e => h e.symm
      have e : getI (p :: m) t = getI m t := by simp [getI, h2]
      simp only [h, decide_false]
      rw [entD_find t m (i + 1), e]
theorem entD_put (t : Int) (b : Int) (cl : Nat) : ∀ (m : List (Int × Int)) (i : Nat), cl = i + m.length → putIn false (.int .i64 t) (.int .i64 b) cl (entD i m) = some (entD i (putI m t b), i + (putI m t b).length)
  | [], i, h => by
    simp at h; subst h
    simp [entD, putIn, putI]
  | p :: m, i, h => by
    rw [entD, putIn, sameK_i]
    by_cases ht : t = p.1
    · subst ht
      simp [putI, entD, h]
    · have h2 : ¬ p.1 = t := fun e => ht e.symm
      have := entD_put t b cl m (i + 1) (by simp at h; omega)
      simp only [ht, decide_false, this, Option.map_some, putI, h2, if_false, entD, List.length_cons]
      congr 2; omega
theorem entD_ren (θ : Nat → Nat) : ∀ (m : List (Int × Int)) (i : Nat), (entD i m).map (fun e => (⟨ren θ e.key, ren θ e.val, e.born⟩ : MapEntry)) = entD i m
  | [], _ => rfl
  | p :: m, i => by
    rw [entD, List.map_cons, entD_ren θ m]
    simp
theorem getI_last {m : List (Int × Int)} {t d : Int} (h : ∀ p ∈ m, p.1 ≠ t) : getI (m ++ [(t, d)]) t = some d := by
  induction m with
  | nil => simp [getI]
  | cons p m ih =>
    have h1 := h p (by simp)
    have := ih fun q hq => h q (List.mem_cons_of_mem _ hq)
    simpa [getI, h1] using this
theorem putI_last {m : List (Int × Int)} {t d b : Int} (h : ∀ p ∈ m, p.1 ≠ t) : putI (m ++ [(t, d)]) t b = m ++ [(t, b)] := by
  induction m with
  | nil => simp [putI]
  | cons p m ih =>
    have h1 := h p (by simp)
    rw [List.cons_append, putI, if_neg h1, ih fun q hq => h q (List.mem_cons_of_mem _ hq)]; rfl
theorem putI_new {m : List (Int × Int)} {t b : Int} (h : ∀ p ∈ m, p.1 ≠ t) : putI m t b = m ++ [(t, b)] := by
  induction m with
  | nil => rfl
  | cons p m ih =>
    have h1 := h p (by simp)
    rw [putI, if_neg h1, ih fun q hq => h q (List.mem_cons_of_mem _ hq)]; rfl
theorem getI_at {m x : List (Int × Int)} {p : Int × Int} : ∀ {j : Nat}, (m.map (·.1)).Nodup → m[j]? = some p → getI (m ++ x) p.1 = some p.2 := by
  induction m with
  | nil => intro j _ h; simp at h
  | cons q m ih =>
    intro j hn h
    simp only [List.map_cons, List.nodup_cons] at hn
    cases j with
    | zero =>
      simp at h; subst h
      simp [getI]
    | succ j =>
      have h2 : m[j]? = some p := by simpa using h
      have h1 : ¬ q.1 = p.1 := fun e => hn.1 (by rw [e]; exact List.mem_map.2 ⟨p, List.mem_of_getElem? h2, rfl⟩)
      have := ih hn.2 h2
      simpa [getI, h1] using this
section
variable (L : List Ev)
theorem dep_le {n : Int} {k : Int} : ∀ (ahead : List (Int × Int)) (d : Int), d ≤ k + 1 → (∀ p ∈ ahead, p.2 ≤ k) → ahead.foldl (depF L n) d ≤ k + 1
  | [], d, h, _ => h
  | p :: ahead, d, h, hp => by
    rw [List.foldl_cons]
    refine dep_le ahead _ ?_ fun q hq => hp q (List.mem_cons_of_mem _ hq)
    have := hp p (by simp)
    unfold depF
    split
    · split <;> omega
    · exact h
theorem dep_ge {n : Int} : ∀ (ahead : List (Int × Int)) (d : Int), d ≤ ahead.foldl (depF L n) d
  | [], d => Int.le_refl _
  | p :: ahead, d => by
    rw [List.foldl_cons]
    refine Int.le_trans ?_ (dep_ge ahead _)
    unfold depF
    split
    · split <;> omega
    · exact Int.le_refl _
theorem chain_inv (A : List Int) : ∀ i, i ≤ A.length → ((A.take i).foldl (chainF L) ([], 0)).1.map (·.1) = A.take i ∧ (∀ p ∈ ((A.take i).foldl (chainF L) ([], 0)).1, 1 ≤ p.2 ∧ p.2 ≤ i) ∧ 0 ≤ ((A.take i).foldl (chainF L) ([], 0)).2 ∧ ((A.take i).foldl (chainF L) ([], 0)).2 ≤ i
  | 0, _ => by simp
  | i + 1, hi => by
    obtain ⟨h1, h2, h3, h4⟩ := chain_inv A i (by omega)
    obtain ⟨x, hx⟩ : ∃ x, A[i]? = some x := ⟨A[i]'(by omega), List.getElem?_eq_getElem (by omega)⟩
    have ht : A.take (i + 1) = A.take i ++ [x] := by rw [List.take_add_one, hx]; rfl
    rw [ht, List.foldl_append]
    generalize (A.take i).foldl (chainF L) ([], 0) = st at *
    have hd1 := dep_ge L (n := x) st.1 1
    have hd2 := dep_le L (n := x) (k := i) st.1 1 (by omega) fun p hp => (h2 p hp).2
    simp only [List.foldl_cons, List.foldl_nil, chainF]
    unfold depthS
    refine ⟨by rw [List.map_append, h1]; rfl, fun p hp => ?_, ?_, ?_⟩
    · rcases List.mem_append.1 hp with hp | hp
      · have := h2 p hp; omega
      · rw [List.mem_singleton.1 hp]
        exact ⟨hd1, by simpa using hd2⟩
    · split <;> omega
    · split <;> omega
end
def tblCh : List (FuncId × CStep GD) := [(14, rdSt r14), (11, rnSt r11), (13, rdSt r13)]
theorem tblCh_ok : ∀ x ∈ tblCh, CStepOk Tryd.prog cfg x.1 x.2 := by simp [tblCh, st14_ok, st11_ok, st13_ok]
def chainO (l L : List Ev) (A : List Int) (n c m : Nat) (tm : Nat → Value) (H : AH GD) : Prop := ∃ (i : Nat) (st : List (Int × Int) × Int), m + i = A.length ∧ (A.take i).foldl (chainF L) ([], 0) = st ∧
  tm 0 = .slice (some ⟨0, 0, none⟩) n c ∧ tm 3 = .int .i64 st.2 ∧ tm 4 = .map (some 1) ∧ tm 5 = .slice (some ⟨3, 0, none⟩) i 1 ∧ tm 15 = .slice (some ⟨2, 0, none⟩) A.length 1 ∧ tm 16 = .int .i64 A.length ∧ tm 17 = .int .i64 i ∧
  H = AH.of [some (.ro (evs l)), some (.map (entD 0 st.1) st.1.length), some (.arr 3 (ints A)), some (.arr 3 (ints (A.take i)))]
def chainI (l L : List Ev) (A : List Int) (n c i : Nat) (a : Int) (st : List (Int × Int) × Int) (m : Nat) (tm : Nat → Value) (H : AH GD) : Prop := ∃ (j : Nat) (d : Int), m + j = i ∧ (st.1.take j).foldl (depF L a) 1 = d ∧
  tm 0 = .slice (some ⟨0, 0, none⟩) n c ∧ tm 3 = .int .i64 st.2 ∧ tm 4 = .map (some 1) ∧ tm 5 = .slice (some ⟨3, 0, none⟩) i 1 ∧ tm 7 = .int .i64 a ∧ tm 15 = .slice (some ⟨2, 0, none⟩) A.length 1 ∧ tm 16 = .int .i64 A.length ∧ tm 17 = .int .i64 i ∧ tm 23 = .slice (some ⟨3, 0, none⟩) i 1 ∧ tm 24 = .int .i64 i ∧ tm 25 = .int .i64 j ∧
  H = AH.of [some (.ro (evs l)), some (.map (entD 0 (st.1 ++ [(a, d)])) (st.1.length + 1)), some (.arr 3 (ints A)), some (.arr 3 (ints (A.take i)))]
set_option maxHeartbeats 32000000 in
theorem runs19 (l : List Ev) (n c : Nat) (hn : n ≤ l.length) (hs : n ≤ 1000) (hv : ∀ x ∈ l.take n, 0 ≤ x.v ∧ x.v < 18446744073709551616) : Runs Tryd.prog cfg 19 [.slice (some ⟨0, 0, none⟩) n c] (AH.of [some (.ro (evs l))])
    fun r H' => r = .ret (.int .i64 (chainsS (l.take n))) ∧ H' = AH.of [some (.ro (evs l))] := by
  refine Runs.ends ?_
  have hlen : (l.take n).length ≤ 1000 := by rw [List.length_take]; omega
  have hle := atts_le (l.take n)
  have hnd := attsS_nodup (l.take n)
  unfold chainsS
  obtain ⟨L, hL⟩ : ∃ L, l.take n = L := ⟨_, rfl⟩
  rw [hL] at hle hlen hv hnd ⊢
  obtain ⟨A, hA⟩ : ∃ A, attsS L = A := ⟨_, rfl⟩
  rw [hA] at hle hnd ⊢
  refine runs_by (tbl := tblCh) tblCh_ok 1001 0 (af := a19) rfl ?_
  rw [a19, b19, run_eq]
  refine ⟨by simp, ?_⟩
  cases hr : rightS L with
  | false =>
    simp (implicitDefEqProofs := false) [tblCh, rdSt, r14, hn, hL, hlen, hr]
    exact ⟨hv, by refine ends_plan [] [0] ?_ ?_ ?_ <;> simp⟩
  | true =>
    rw [if_pos rfl]
    obtain ⟨E, hE⟩ : ∃ E, (A.foldl (chainF L) ([], 0)).2 = E := ⟨_, rfl⟩
    rw [hE]
    simp (implicitDefEqProofs := false) [tblCh, rdSt, rnSt, r14, r11, hn, hL, hA, hlen, hr]
    refine ⟨hv, ?_⟩
    refine loop_view (sg_mono gX_ok (tabS_ok tblCh_ok) _ _ noY noY_mono) (chainO l L A n c) (m := A.length) ?_ (by omega) ?_
    · refine round_wk [.nil 3] [0, 1, 2, 3] [some (.ro (evs l)), some (.map [] 0), some (.arr 3 (ints A)), some (.arr 3 (ints []))] [(5, .slice (some ⟨3, 0, none⟩) 0 1)] A.length (by omega) ?_ ?_ ?_ ⟨0, ([], 0), by omega, rfl, ?_⟩ <;> simp [entD, ints_nl]
    rintro m tm H ⟨i, st, hm, hst, t0, t3, t4, t5, t15, t16, t17, rfl⟩
    have hinv := chain_inv L A i (by omega)
    rw [hst] at hinv
    obtain ⟨v1, v2, v3, v4⟩ := hinv
    have hsl : st.1.length = i := by
      have : (st.1.map (·.1)).length = (A.take i).length := by rw [v1]
      rw [List.length_map, List.length_take] at this; omega
    by_cases hi : i < A.length
    · obtain ⟨a, ha⟩ : ∃ a, A[i]? = some a := ⟨A[i]'(by omega), List.getElem?_eq_getElem (by omega)⟩
      have hi' : (i : Int) < A.length := by omega
      have hwr := inc_i64 hi (by omega)
      have ua := ints_at ha
      have ga := ints_get ha
      have htk : A.take (i + 1) = A.take i ++ [a] := by rw [List.take_add_one, ha]; rfl
      have hna : ∀ p ∈ st.1, p.1 ≠ a := fun p hp e => by
        have h1 : p.1 ∈ A.take i := by rw [← v1]; exact List.mem_map.2 ⟨p, hp, rfl⟩
        have h2 : (A.take (i + 1)).Nodup := hnd.sublist (List.take_sublist _ _)
        rw [htk, List.nodup_append] at h2
        exact h2.2.2 p.1 h1 a (by simp) e
      have hndk : (st.1.map (·.1)).Nodup := by rw [v1]; exact hnd.sublist (List.take_sublist _ _)
      have hput1 : putIn false (.int .i64 a) (.int .i64 1) st.1.length (entD 0 st.1) = some (entD 0 (st.1 ++ [(a, 1)]), st.1.length + 1) := by
        have := entD_put a 1 st.1.length st.1 0 (by omega)
        rw [putI_new hna] at this
        simpa using this
      have hsuc : (A.take (i + 1)).foldl (chainF L) ([], 0) = chainF L st a := by rw [htk, List.foldl_append, hst]; rfl
      simp (implicitDefEqProofs := false) [tblCh, t0, t3, t4, t5, t15, t16, t17, hi, hi', hwr, ua, ga, hput1]
      refine loop_view (sg_mono gX_ok (tabS_ok tblCh_ok) _ _ noY noY_mono) (chainI l L A n c i a st) (m := i) ?_ (by omega) ?_
      · refine round_plan [] [0, 1, 2, 3] [some (.ro (evs l)), some (.map (entD 0 (st.1 ++ [(a, 1)])) (st.1.length + 1)), some (.arr 3 (ints A)), some (.arr 3 (ints (A.take i)))] i (by omega) ?_ ?_ ⟨0, 1, by omega, rfl, ?_⟩ <;> simp [t0, t3, t4, t5, t15, t16, t17, entD_ren]
      rintro m2 tm H ⟨j, d, hm2, hd, t0, t3, t4, t5, t7, t15, t16, t17, t23, t24, t25, rfl⟩
      have hd1 : 1 ≤ d := by rw [← hd]; exact dep_ge L _ 1
      have hd2 : d ≤ i + 1 := by
        rw [← hd]
        exact dep_le L (k := i) _ 1 (by omega) fun p hp => (v2 p (List.mem_of_mem_take hp)).2
      have hfa := entD_find a (st.1 ++ [(a, d)]) 0
      rw [getI_last hna] at hfa
      simp only [Option.map_some] at hfa
      have hputa : ∀ b, putIn false (.int .i64 a) (.int .i64 b) (st.1.length + 1) (entD 0 (st.1 ++ [(a, d)])) = some (entD 0 (st.1 ++ [(a, b)]), st.1.length + 1) := fun b => by
        have := entD_put a b (st.1.length + 1) (st.1 ++ [(a, d)]) 0 (by simp)
        rw [putI_last hna] at this
        simpa using this
      by_cases hj : j < i
      · obtain ⟨p, hp⟩ : ∃ p, st.1[j]? = some p := ⟨st.1[j]'(by omega), List.getElem?_eq_getElem (by omega)⟩
        have hj' : (j : Int) < i := by omega
        have hwj := inc_i64 hj (by omega)
        have hpa : (A.take i)[j]? = some p.1 := by rw [← v1, List.getElem?_map, hp]; rfl
        have up := ints_at hpa
        have gp := ints_get hpa
        have hfp := entD_find p.1 (st.1 ++ [(a, d)]) 0
        rw [getI_at hndk hp] at hfp
        simp only [Option.map_some] at hfp
        have hpb := v2 p (List.mem_of_getElem? hp)
        have wp : IntKind.i64.wrap (p.2 + 1) = p.2 + 1 := wrap_i64 (by omega) (by omega)
        have hsd : (st.1.take (j + 1)).foldl (depF L a) 1 = depF L a d p := by rw [List.take_add_one, hp, List.foldl_append, hd]; rfl
        cases hB : beforeS L p.1 a with
        | false =>
          have hsd' : (st.1.take (j + 1)).foldl (depF L a) 1 = d := by rw [hsd]; simp [depF, hB]
          simp (implicitDefEqProofs := false) [tblCh, rdSt, r13, t0, t3, t4, t5, t7, t15, t16, t17, t23, t24, t25, hj, hj', hwj, up, gp, hn, hL, hlen, hB]
          refine round_plan [] [0, 1, 2, 3] [some (.ro (evs l)), some (.map (entD 0 (st.1 ++ [(a, d)])) (st.1.length + 1)), some (.arr 3 (ints A)), some (.arr 3 (ints (A.take i)))] (m2 - 1) (by omega) ?_ ?_ ⟨j + 1, d, by omega, hsd', ?_⟩ <;> simp [t0, t3, t4, t5, t7, t15, t16, t17, t23, t24, entD_ren]
        | true =>
          have hsd' : (st.1.take (j + 1)).foldl (depF L a) 1 = if p.2 + 1 > d then p.2 + 1 else d := by rw [hsd]; simp [depF, hB]
          simp (implicitDefEqProofs := false) [tblCh, rdSt, r13, t0, t3, t4, t5, t7, t15, t16, t17, t23, t24, t25, hj, hj', hwj, up, gp, hn, hL, hlen, hB, hfa, hfp, wp, hputa]
          refine round_plan [] [0, 1, 2, 3] [some (.ro (evs l)), some (.map (entD 0 (st.1 ++ [(a, if p.2 + 1 > d then p.2 + 1 else d)])) (st.1.length + 1)), some (.arr 3 (ints A)), some (.arr 3 (ints (A.take i)))] (m2 - 1) (by omega) ?_ ?_ ⟨j + 1, _, by omega, hsd', ?_⟩ <;> simp [t0, t3, t4, t5, t7, t15, t16, t17, t23, t24, entD_ren]
      · have hje : j = i := by omega
        have hj' : ¬ (j : Int) < i := by omega
        have hdd : depthS L st.1 a = d := by
          unfold depthS
          rw [← hd, hje, List.take_of_length_le (by omega)]
        have hsuc' : (A.take (i + 1)).foldl (chainF L) ([], 0) = (st.1 ++ [(a, d)], if d > st.2 then d else st.2) := by rw [hsuc, chainF, hdd]
        have hr3 : (i + 1) * 8 ≤ 140737488355328 ∧ i ≤ 9223372036854775806 := by omega
        have hti : (ints (A.take i)).take i = ints (A.take i) := List.take_of_length_le (by simp; omega)
        have hli : i ≤ (ints (A.take i)).length := by simp; omega
        have hmin : min i A.length = i := by omega
        simp (implicitDefEqProofs := false) [t0, t3, t4, t5, t7, t15, t16, t17, t23, t24, t25, hj', hr3, hti, hmin, hfa, hwr]
        refine round_plan [] [0, 1, 2, 5] [some (.ro (evs l)), some (.map (entD 0 (st.1 ++ [(a, d)])) (st.1.length + 1)), some (.arr 3 (ints A)), some (.arr 3 (ints (A.take (i + 1))))] (m - 1) (by omega) ?_ ?_ ⟨i + 1, _, by omega, hsuc', ?_⟩ <;> simp [t0, t3, t4, t5, t7, t15, t16, t17, entD_ren, htk, ints_append, ints_single]
    · have hie : i = A.length := by omega
      have hi' : ¬ (i : Int) < A.length := by omega
      have hE2 : st.2 = E := by rw [← hE, ← hst, hie, List.take_length]
      simp (implicitDefEqProofs := false) [t0, t3, t4, t5, t15, t16, t17, hi']
      refine ends_plan [] [0] ?_ ?_ ?_ <;> simp [hE2]
def r19 : RStep
  | l, [] => some (l.length ≤ 1000 ∧ ∀ x ∈ l, 0 ≤ x.v ∧ x.v < 18446744073709551616, .int .i64 (chainsS l))
  | _, _ => none
theorem st19_ok : CStepOk Tryd.prog cfg 19 (rdSt r19) := rd_ok fun l n c rest p v hn h hp => by
  unfold r19 at h
  split at h
  · cases h
    rw [List.length_take] at hp
    exact ⟨rfl, rfl, runs19 l n c hn (by omega) hp.2⟩
  · cases h
end YtmhkpababjdnbaaDoor
end Go.Proofs
/-
  The document's trace: Conflicts, Chains.
-/
set_option linter.unusedSimpArgs false
set_option linter.unusedVariables false
set_option linter.unnecessarySimpa false
set_option linter.unusedSectionVars false
namespace Go.Proofs
namespace YtmhkpababjdnbaaDoor
open Go.Abs
set_option linter.unusedSimpArgs false

def tblRf : List (FuncId × CStep GD) := [(35, rnSt r35), (36, rdSt r36), (37, rdSt r37)]
theorem tblRf_ok : ∀ x ∈ tblRf, CStepOk Tryd.prog cfg x.1 x.2 := by simp [tblRf, st35_ok, st36_ok, st37_ok]
def rcfI (l : List Ev) (L : List Ev) (A : List Int) (n c i : Nat) (m : Nat) (tm : Nat → Value) (H : AH GD) : Prop := ∃ (j q : Nat) (out : List (Int × Int)) (pre : List (Option (AObj GD))), m + j = A.length - (i + 1) ∧ conflS L A = out ++ (confR L ((A[i]?).getD 0) ((A.drop (i + 1)).drop j) ++ conflS L (A.drop (i + 1))) ∧
  tm 0 = .slice (some ⟨0, 0, none⟩) n c ∧ tm 3 = .slice (some ⟨q, 0, none⟩) out.length 1 ∧ tm 4 = .slice (some ⟨1, 0, none⟩) A.length 1 ∧ tm 5 = .int .i64 i ∧ tm 6 = .int .i64 ((i + 1 + j : Nat) : Int) ∧
  (q = 2 ∧ pre = [] ∨ q = 3 ∧ pre = [none]) ∧ H = AH.of (some (.ro (evs l)) :: some (.arr 3 (ints A)) :: (pre ++ [some (.arr 49 (p2 out))]))
def rcfO (l : List Ev) (L : List Ev) (A : List Int) (n c : Nat) (m : Nat) (tm : Nat → Value) (H : AH GD) : Prop := ∃ (i : Nat) (out : List (Int × Int)), m + i = A.length ∧ conflS L A = out ++ conflS L (A.drop i) ∧
  tm 0 = .slice (some ⟨0, 0, none⟩) n c ∧ tm 3 = .slice (some ⟨2, 0, none⟩) out.length 1 ∧ tm 4 = .slice (some ⟨1, 0, none⟩) A.length 1 ∧ tm 5 = .int .i64 i ∧
  H = AH.of [some (.ro (evs l)), some (.arr 3 (ints A)), some (.arr 49 (p2 out))]
theorem big_p2 {k : Nat} (h : k ≤ 1000000) : (k + 1) * 16 ≤ 140737488355328 ∧ k ≤ 9223372036854775806 := by omega
set_option maxHeartbeats 32000000 in
theorem runs22 (l : List Ev) (n c : Nat) (hn : n ≤ l.length) (hs : n ≤ 1000) : Runs Tryd.prog cfg 22 [.slice (some ⟨0, 0, none⟩) n c] (AH.of [some (.ro (evs l))])
    fun r H' => r = .ret (.slice (some ⟨1, 0, none⟩) (conflictsS (l.take n)).length 1) ∧ H' = AH.of [some (.ro (evs l)), some (.arr 49 (p2 (conflictsS (l.take n))))] := by
  refine Runs.ends ?_
  have hlen : (l.take n).length ≤ 1000 := by rw [List.length_take]; omega
  have hle := atts_le (l.take n)
  unfold conflictsS
  obtain ⟨L, hL⟩ : ∃ L, l.take n = L := ⟨_, rfl⟩
  rw [hL] at hle hlen ⊢
  obtain ⟨A, hA⟩ : ∃ A, attsS L = A := ⟨_, rfl⟩
  rw [hA] at hle ⊢
  have hcl : (conflS L A).length ≤ 1000000 := by
    have h1 := confl_len L A
    have h2 : A.length * A.length ≤ 1000 * 1000 := Nat.mul_le_mul (by omega) (by omega)
    omega
  refine runs_by (tbl := tblRf) tblRf_ok 1001 0 (af := a22) rfl ?_
  rw [a22, b22, run_eq]
  refine ⟨by simp, ?_⟩
  simp (implicitDefEqProofs := false) [tblRf, rnSt, r35, hn, hL, hA, hlen]
  refine loop_view (sg_mono gX_ok (tabS_ok tblRf_ok) _ _ noY noY_mono) (rcfO l L A n c) (m := A.length) ?_ (by omega) ?_
  · refine round_wk [.nil 49] [0, 1, 2] [some (.ro (evs l)), some (.arr 3 (ints A)), some (.arr 49 (p2 []))] [(3, .slice (some ⟨2, 0, none⟩) 0 1)] A.length (by omega) ?_ ?_ ?_ ⟨0, [], by omega, ?_⟩ <;> simp [p2_nil]
  rintro m tm H ⟨i, out, hm, hout, t0, t3, t4, t5, rfl⟩
  by_cases hi : i < A.length
  · obtain ⟨a, ha⟩ : ∃ a, A[i]? = some a := ⟨A[i]'(by omega), List.getElem?_eq_getElem (by omega)⟩
    have hi' : (i : Int) < A.length := by omega
    have hwr := inc_i64 hi (by omega)
    have ua := ints_at ha
    have ga := ints_get ha
    rw [drop_int ha, conflS] at hout
    simp (implicitDefEqProofs := false) [tblRf, t0, t3, t4, t5, hi, hi', hwr]
    refine loop_view (sg_mono gX_ok (tabS_ok tblRf_ok) _ _ noY noY_mono) (rcfI l L A n c i) (m := A.length - (i + 1)) ?_ (by omega) ?_
    · refine round_plan [] [0, 1, 2] [some (.ro (evs l)), some (.arr 3 (ints A)), some (.arr 49 (p2 out))] (A.length - (i + 1)) (by omega) ?_ ?_ ⟨0, 2, out, [], by omega, by rw [List.drop_zero, ha]; exact hout, ?_, ?_, ?_, ?_, ?_, .inl ⟨rfl, rfl⟩, rfl⟩ <;> simp [t0, t3, t4, t5]
    rintro m2 tm H ⟨j, q, out, pre, hm2, hout, t0, t3, t4, t5, t6, hq, rfl⟩
    have hol : out.length ≤ 1000000 := by
      have : (conflS L A).length = out.length + (confR L ((A[i]?).getD 0) ((A.drop (i + 1)).drop j) ++ conflS L (A.drop (i + 1))).length := by rw [hout, List.length_append]
      omega
    have hr3 := big_p2 hol
    have htk := take_p2 out
    have hol2 : out.length * 2 ≤ (p2 out).length := by rw [p2_length]; omega
    obtain ⟨k, hk⟩ : ∃ k, i + 1 + j = k := ⟨_, rfl⟩
    rw [hk] at t6
    rw [ha, Option.getD_some] at hout
    by_cases hj : k < A.length
    · obtain ⟨b, hb⟩ : ∃ b, A[k]? = some b := ⟨A[k]'(by omega), List.getElem?_eq_getElem (by omega)⟩
      have hj' : (k : Int) < A.length := by omega
      have hwj := inc_i64 (i := k) (n := 1001) (by omega) (by omega)
      have ub := ints_at hb
      have gb := ints_get hb
      have hdj : (A.drop (i + 1)).drop j = b :: (A.drop (i + 1)).drop (j + 1) := drop_int (by rw [List.getElem?_drop, hk]; exact hb)
      rw [hdj, confR_cons] at hout
      have hnext : i + 1 + (j + 1) = k + 1 := by omega
      rcases hq with ⟨rfl, rfl⟩ | ⟨rfl, rfl⟩
      · cases hM : meetS L a b with
        | false =>
          rw [hM] at hout
          simp only [Bool.false_and, Bool.false_eq_true, if_false, List.nil_append] at hout
          cases hB1 : beforeS L a b <;> cases hB2 : beforeS L b a <;> (
            simp (implicitDefEqProofs := false) [tblRf, rdSt, r36, r37, t0, t3, t4, t5, t6, hi, hi', hj, hj', hwj, ua, ga, ub, gb, hn, hL, hlen, hM, hB1, hB2]
            refine round_plan [] [0, 1, 2] [some (.ro (evs l)), some (.arr 3 (ints A)), some (.arr 49 (p2 out))] (m2 - 1) (by omega) ?_ ?_ ⟨j + 1, 2, out, [], by omega, by rw [ha]; exact hout, ?_, ?_, ?_, ?_, ?_, .inl ⟨rfl, rfl⟩, rfl⟩ <;> simp [t0, t3, t4, t5, hnext])
        | true =>
          cases hB1 : beforeS L a b with
          | true =>
            rw [hM, apartS, hB1] at hout
            simp only [Bool.true_or, Bool.not_true, Bool.and_false, Bool.false_eq_true, if_false, List.nil_append] at hout
            simp (implicitDefEqProofs := false) [tblRf, rdSt, r36, r37, t0, t3, t4, t5, t6, hi, hi', hj, hj', hwj, ua, ga, ub, gb, hn, hL, hlen, hM, hB1]
            refine round_plan [] [0, 1, 2] [some (.ro (evs l)), some (.arr 3 (ints A)), some (.arr 49 (p2 out))] (m2 - 1) (by omega) ?_ ?_ ⟨j + 1, 2, out, [], by omega, by rw [ha]; exact hout, ?_, ?_, ?_, ?_, ?_, .inl ⟨rfl, rfl⟩, rfl⟩ <;> simp [t0, t3, t4, t5, hnext]
          | false =>
            cases hB2 : beforeS L b a with
            | true =>
              rw [hM, apartS, hB1, hB2] at hout
              simp only [Bool.or_true, Bool.not_true, Bool.and_false, Bool.false_eq_true, if_false, List.nil_append] at hout
              simp (implicitDefEqProofs := false) [tblRf, rdSt, r36, r37, t0, t3, t4, t5, t6, hi, hi', hj, hj', hwj, ua, ga, ub, gb, hn, hL, hlen, hM, hB1, hB2]
              refine round_plan [] [0, 1, 2] [some (.ro (evs l)), some (.arr 3 (ints A)), some (.arr 49 (p2 out))] (m2 - 1) (by omega) ?_ ?_ ⟨j + 1, 2, out, [], by omega, by rw [ha]; exact hout, ?_, ?_, ?_, ?_, ?_, .inl ⟨rfl, rfl⟩, rfl⟩ <;> simp [t0, t3, t4, t5, hnext]
            | false =>
              rw [hM, apartS, hB1, hB2] at hout
              simp only [Bool.or_self, Bool.not_false, Bool.and_self, if_true] at hout
              have hout2 : conflS L A = (out ++ [(a, b)]) ++ (confR L a ((A.drop (i + 1)).drop (j + 1)) ++ conflS L (A.drop (i + 1))) := by rw [hout]; simp [List.append_assoc]
              simp (implicitDefEqProofs := false) [tblRf, rdSt, r36, r37, t0, t3, t4, t5, t6, hi, hi', hj, hj', hwj, ua, ga, ub, gb, hn, hL, hlen, hM, hB1, hB2, hr3, htk, hol2]
              refine round_plan [] [0, 1, 2, 4] [some (.ro (evs l)), some (.arr 3 (ints A)), none, some (.arr 49 (p2 (out ++ [(a, b)])))] (m2 - 1) (by omega) ?_ ?_ ⟨j + 1, 3, out ++ [(a, b)], [none], by omega, by rw [ha]; exact hout2, ?_, ?_, ?_, ?_, ?_, .inr ⟨rfl, rfl⟩, rfl⟩ <;> simp [t0, t3, t4, t5, hnext, p2_append, p2_single]
      · cases hM : meetS L a b with
        | false =>
          rw [hM] at hout
          simp only [Bool.false_and, Bool.false_eq_true, if_false, List.nil_append] at hout
          cases hB1 : beforeS L a b <;> cases hB2 : beforeS L b a <;> (
            simp (implicitDefEqProofs := false) [tblRf, rdSt, r36, r37, t0, t3, t4, t5, t6, hi, hi', hj, hj', hwj, ua, ga, ub, gb, hn, hL, hlen, hM, hB1, hB2]
            refine round_plan [] [0, 1, 2, 3] [some (.ro (evs l)), some (.arr 3 (ints A)), none, some (.arr 49 (p2 out))] (m2 - 1) (by omega) ?_ ?_ ⟨j + 1, 3, out, [none], by omega, by rw [ha]; exact hout, ?_, ?_, ?_, ?_, ?_, .inr ⟨rfl, rfl⟩, rfl⟩ <;> simp [t0, t3, t4, t5, hnext])
        | true =>
          cases hB1 : beforeS L a b with
          | true =>
            rw [hM, apartS, hB1] at hout
            simp only [Bool.true_or, Bool.not_true, Bool.and_false, Bool.false_eq_true, if_false, List.nil_append] at hout
            simp (implicitDefEqProofs := false) [tblRf, rdSt, r36, r37, t0, t3, t4, t5, t6, hi, hi', hj, hj', hwj, ua, ga, ub, gb, hn, hL, hlen, hM, hB1]
            refine round_plan [] [0, 1, 2, 3] [some (.ro (evs l)), some (.arr 3 (ints A)), none, some (.arr 49 (p2 out))] (m2 - 1) (by omega) ?_ ?_ ⟨j + 1, 3, out, [none], by omega, by rw [ha]; exact hout, ?_, ?_, ?_, ?_, ?_, .inr ⟨rfl, rfl⟩, rfl⟩ <;> simp [t0, t3, t4, t5, hnext]
          | false =>
            cases hB2 : beforeS L b a with
            | true =>
              rw [hM, apartS, hB1, hB2] at hout
              simp only [Bool.or_true, Bool.not_true, Bool.and_false, Bool.false_eq_true, if_false, List.nil_append] at hout
              simp (implicitDefEqProofs := false) [tblRf, rdSt, r36, r37, t0, t3, t4, t5, t6, hi, hi', hj, hj', hwj, ua, ga, ub, gb, hn, hL, hlen, hM, hB1, hB2]
              refine round_plan [] [0, 1, 2, 3] [some (.ro (evs l)), some (.arr 3 (ints A)), none, some (.arr 49 (p2 out))] (m2 - 1) (by omega) ?_ ?_ ⟨j + 1, 3, out, [none], by omega, by rw [ha]; exact hout, ?_, ?_, ?_, ?_, ?_, .inr ⟨rfl, rfl⟩, rfl⟩ <;> simp [t0, t3, t4, t5, hnext]
            | false =>
              rw [hM, apartS, hB1, hB2] at hout
              simp only [Bool.or_self, Bool.not_false, Bool.and_self, if_true] at hout
              have hout2 : conflS L A = (out ++ [(a, b)]) ++ (confR L a ((A.drop (i + 1)).drop (j + 1)) ++ conflS L (A.drop (i + 1))) := by rw [hout]; simp [List.append_assoc]
              simp (implicitDefEqProofs := false) [tblRf, rdSt, r36, r37, t0, t3, t4, t5, t6, hi, hi', hj, hj', hwj, ua, ga, ub, gb, hn, hL, hlen, hM, hB1, hB2, hr3, htk, hol2]
              refine round_plan [] [0, 1, 2, 5] [some (.ro (evs l)), some (.arr 3 (ints A)), none, some (.arr 49 (p2 (out ++ [(a, b)])))] (m2 - 1) (by omega) ?_ ?_ ⟨j + 1, 3, out ++ [(a, b)], [none], by omega, by rw [ha]; exact hout2, ?_, ?_, ?_, ?_, ?_, .inr ⟨rfl, rfl⟩, rfl⟩ <;> simp [t0, t3, t4, t5, hnext, p2_append, p2_single]
    · have hj' : ¬ (k : Int) < A.length := by omega
      have hdj : (A.drop (i + 1)).drop j = [] := List.drop_eq_nil_of_le (by rw [List.length_drop]; omega)
      rw [hdj] at hout
      have hout2 : conflS L A = out ++ conflS L (A.drop (i + 1)) := by rw [hout]; rfl
      rcases hq with ⟨rfl, rfl⟩ | ⟨rfl, rfl⟩
      · simp (implicitDefEqProofs := false) [t0, t3, t4, t5, t6, hj', hwr]
        refine round_plan [] [0, 1, 2] [some (.ro (evs l)), some (.arr 3 (ints A)), some (.arr 49 (p2 out))] (m - 1) (by omega) ?_ ?_ ⟨i + 1, out, by omega, hout2, ?_, ?_, ?_, ?_, rfl⟩ <;> simp [t0, t3, t4, t5]
      · simp (implicitDefEqProofs := false) [t0, t3, t4, t5, t6, hj', hwr]
        refine round_plan [] [0, 1, 3] [some (.ro (evs l)), some (.arr 3 (ints A)), some (.arr 49 (p2 out))] (m - 1) (by omega) ?_ ?_ ⟨i + 1, out, by omega, hout2, ?_, ?_, ?_, ?_, rfl⟩ <;> simp [t0, t3, t4, t5]
  · have hie : i = A.length := by omega
    have hi' : ¬ (i : Int) < A.length := by omega
    have hd : A.drop i = [] := List.drop_eq_nil_of_le (by omega)
    rw [hd, conflS, List.append_nil] at hout
    rw [← hout] at t3 ⊢
    simp (implicitDefEqProofs := false) [t0, t3, t4, t5, hi']
    refine ends_plan [] [0, 2] ?_ ?_ ?_ <;> simp
def r22 : RNStep
  | l, [] => some (l.length ≤ 1000, (conflictsS l).length, 49, p2 (conflictsS l))
  | _, _ => none
theorem st22_ok : CStepOk Tryd.prog cfg 22 (rnSt r22) := rn_ok fun l n c rest p m t cs hn h hp => by
  unfold r22 at h
  split at h
  · cases h
    rw [List.length_take] at hp
    exact ⟨rfl, p2_ground _, runs22 l n c hn (by omega)⟩
  · cases h

def tblRg : List (FuncId × CStep GD) := [(30, st30), (35, rnSt r35), (36, rdSt r36)]
theorem tblRg_ok : ∀ x ∈ tblRg, CStepOk Tryd.prog cfg x.1 x.2 := by simp [tblRg, st30_ok, st35_ok, st36_ok]
def snds (l : List (Int × Int)) : List Int := l.map (·.2)
theorem snds_at {l : List (Int × Int)} {j : Nat} {p : Int × Int} (h : l[j]? = some p) : (snds l)[j]? = some p.2 := by simp [snds, h]
theorem snds_len (l : List (Int × Int)) : (snds l).length = l.length := by simp [snds]
theorem snds_append (a b : List (Int × Int)) : snds (a ++ b) = snds a ++ snds b := by simp [snds]
def rchO (l L : List Ev) (A : List Int) (n c m : Nat) (tm : Nat → Value) (H : AH GD) : Prop := ∃ (i : Nat) (st : List (Int × Int) × Int), m + i = A.length ∧ (A.take i).foldl (chainF L) ([], 0) = st ∧
  tm 0 = .slice (some ⟨0, 0, none⟩) n c ∧ tm 3 = .slice (some ⟨1, 0, none⟩) A.length 1 ∧ tm 4 = .int .i64 st.2 ∧ tm 5 = .slice (some ⟨2, 0, none⟩) i 1 ∧ tm 6 = .int .i64 i ∧
  H = AH.of [some (.ro (evs l)), some (.arr 3 (ints A)), some (.arr 3 (ints (snds st.1)))]
def rchI (l L : List Ev) (A : List Int) (n c i : Nat) (a : Int) (st : List (Int × Int) × Int) (m : Nat) (tm : Nat → Value) (H : AH GD) : Prop := ∃ (j : Nat) (d : Int), m + j = i ∧ (st.1.take j).foldl (depF L a) 1 = d ∧
  tm 0 = .slice (some ⟨0, 0, none⟩) n c ∧ tm 3 = .slice (some ⟨1, 0, none⟩) A.length 1 ∧ tm 4 = .int .i64 st.2 ∧ tm 5 = .slice (some ⟨2, 0, none⟩) i 1 ∧ tm 6 = .int .i64 i ∧ tm 7 = .int .i64 d ∧ tm 8 = .int .i64 j ∧
  H = AH.of [some (.ro (evs l)), some (.arr 3 (ints A)), some (.arr 3 (ints (snds st.1)))]
set_option maxHeartbeats 32000000 in
theorem runs24 (l : List Ev) (n c : Nat) (hn : n ≤ l.length) (hs : n ≤ 1000) (hv : ∀ x ∈ l, 0 ≤ x.v ∧ x.v < 18446744073709551616) : Runs Tryd.prog cfg 24 [.slice (some ⟨0, 0, none⟩) n c] (AH.of [some (.ro (evs l))])
    fun r H' => r = .ret (.int .i64 (chainsS (l.take n))) ∧ H' = AH.of [some (.ro (evs l))] := by
  refine Runs.ends ?_
  have hlen : (l.take n).length ≤ 1000 := by rw [List.length_take]; omega
  have hle := atts_le (l.take n)
  have hnd := attsS_nodup (l.take n)
  unfold chainsS
  obtain ⟨L, hL⟩ : ∃ L, l.take n = L := ⟨_, rfl⟩
  rw [hL] at hle hlen hnd ⊢
  obtain ⟨A, hA⟩ : ∃ A, attsS L = A := ⟨_, rfl⟩
  rw [hA] at hle hnd ⊢
  refine runs_by (tbl := tblRg) tblRg_ok 1001 0 (af := a24) rfl ?_
  rw [a24, b24, run_eq]
  refine ⟨by simp, ?_⟩
  cases hr : rightS L with
  | false =>
    simp (implicitDefEqProofs := false) [tblRg, st30, hn, hs, hL, hlen, hr]
    exact ⟨hv, by refine ends_plan [] [0] ?_ ?_ ?_ <;> simp⟩
  | true =>
    rw [if_pos rfl]
    obtain ⟨E, hE⟩ : ∃ E, (A.foldl (chainF L) ([], 0)).2 = E := ⟨_, rfl⟩
    rw [hE]
    simp (implicitDefEqProofs := false) [tblRg, st30, rnSt, r35, hn, hs, hL, hA, hlen, hr]
    refine ⟨hv, ?_⟩
    refine loop_view (sg_mono gX_ok (tabS_ok tblRg_ok) _ _ noY noY_mono) (rchO l L A n c) (m := A.length) ?_ (by omega) ?_
    · refine round_wk [.nil 3] [0, 1, 2] [some (.ro (evs l)), some (.arr 3 (ints A)), some (.arr 3 (ints []))] [(5, .slice (some ⟨2, 0, none⟩) 0 1)] A.length (by omega) ?_ ?_ ?_ ⟨0, ([], 0), by omega, rfl, ?_⟩ <;> simp [ints_nl, snds]
    rintro m tm H ⟨i, st, hm, hst, t0, t3, t4, t5, t6, rfl⟩
    have hinv := chain_inv L A i (by omega)
    rw [hst] at hinv
    obtain ⟨v1, v2, v3, v4⟩ := hinv
    have hsl : st.1.length = i := by
      have : (st.1.map (·.1)).length = (A.take i).length := by rw [v1]
      rw [List.length_map, List.length_take] at this; omega
    by_cases hi : i < A.length
    · obtain ⟨a, ha⟩ : ∃ a, A[i]? = some a := ⟨A[i]'(by omega), List.getElem?_eq_getElem (by omega)⟩
      have hi' : (i : Int) < A.length := by omega
      have hwr := inc_i64 hi (by omega)
      have ua := ints_at ha
      have ga := ints_get ha
      have htk : A.take (i + 1) = A.take i ++ [a] := by rw [List.take_add_one, ha]; rfl
      have hsuc : (A.take (i + 1)).foldl (chainF L) ([], 0) = chainF L st a := by rw [htk, List.foldl_append, hst]; rfl
      simp (implicitDefEqProofs := false) [tblRg, t0, t3, t4, t5, t6, hi, hi']
      refine loop_view (sg_mono gX_ok (tabS_ok tblRg_ok) _ _ noY noY_mono) (rchI l L A n c i a st) (m := i) ?_ (by omega) ?_
      · refine round_plan [] [0, 1, 2] [some (.ro (evs l)), some (.arr 3 (ints A)), some (.arr 3 (ints (snds st.1)))] i (by omega) ?_ ?_ ⟨0, 1, by omega, rfl, ?_⟩ <;> simp [t0, t3, t4, t5, t6]
      rintro m2 tm H ⟨j, d, hm2, hd, t0, t3, t4, t5, t6, t7, t8, rfl⟩
      have hd1 : 1 ≤ d := by rw [← hd]; exact dep_ge L _ 1
      have hd2 : d ≤ i + 1 := by
        rw [← hd]
        exact dep_le L (k := i) _ 1 (by omega) fun p hp => (v2 p (List.mem_of_mem_take hp)).2
      by_cases hj : j < i
      · obtain ⟨p, hp⟩ : ∃ p, st.1[j]? = some p := ⟨st.1[j]'(by omega), List.getElem?_eq_getElem (by omega)⟩
        have hj' : (j : Int) < i := by omega
        have hwj := inc_i64 hj (by omega)
        have hpt : (A.take i)[j]? = some p.1 := by rw [← v1, List.getElem?_map, hp]; rfl
        have hpa : A[j]? = some p.1 := by rw [List.getElem?_take, if_pos hj] at hpt; exact hpt
        have hjA : (j : Int) < A.length := by omega
        have hjA' : j < A.length := by omega
        have up := ints_at hpa
        have gp := ints_get hpa
        have us' := ints_at (snds_at hp)
        have gs' := ints_get (snds_at hp)
        have hpb := v2 p (List.mem_of_getElem? hp)
        have wp : IntKind.i64.wrap (p.2 + 1) = p.2 + 1 := wrap_i64 (by omega) (by omega)
        have hsd : (st.1.take (j + 1)).foldl (depF L a) 1 = depF L a d p := by rw [List.take_add_one, hp, List.foldl_append, hd]; rfl
        cases hB : beforeS L p.1 a with
        | false =>
          have hsd' : (st.1.take (j + 1)).foldl (depF L a) 1 = d := by rw [hsd]; simp [depF, hB]
          simp (implicitDefEqProofs := false) [tblRg, rdSt, r36, t0, t3, t4, t5, t6, t7, t8, hi, hi', hj, hj', hjA, hjA', hwj, ua, ga, up, gp, hn, hL, hlen, hB]
          refine round_plan [] [0, 1, 2] [some (.ro (evs l)), some (.arr 3 (ints A)), some (.arr 3 (ints (snds st.1)))] (m2 - 1) (by omega) ?_ ?_ ⟨j + 1, d, by omega, hsd', ?_⟩ <;> simp [t0, t3, t4, t5, t6, t7]
        | true =>
          by_cases hg : p.2 + 1 > d
          · have hg' : d < p.2 + 1 := hg
            have hsd' : (st.1.take (j + 1)).foldl (depF L a) 1 = p.2 + 1 := by rw [hsd]; simp [depF, hB, hg]
            simp (implicitDefEqProofs := false) [tblRg, rdSt, r36, t0, t3, t4, t5, t6, t7, t8, hi, hi', hj, hj', hjA, hjA', hwj, ua, ga, up, gp, us', gs', snds_len, hsl, hn, hL, hlen, hB, wp, hg']
            refine round_plan [] [0, 1, 2] [some (.ro (evs l)), some (.arr 3 (ints A)), some (.arr 3 (ints (snds st.1)))] (m2 - 1) (by omega) ?_ ?_ ⟨j + 1, p.2 + 1, by omega, hsd', ?_⟩ <;> simp [t0, t3, t4, t5, t6, t7]
          · have hg' : ¬ d < p.2 + 1 := hg
            have hsd' : (st.1.take (j + 1)).foldl (depF L a) 1 = d := by rw [hsd]; simp [depF, hB, hg]
            simp (implicitDefEqProofs := false) [tblRg, rdSt, r36, t0, t3, t4, t5, t6, t7, t8, hi, hi', hj, hj', hjA, hjA', hwj, ua, ga, up, gp, us', gs', snds_len, hsl, hn, hL, hlen, hB, wp, hg']
            refine round_plan [] [0, 1, 2] [some (.ro (evs l)), some (.arr 3 (ints A)), some (.arr 3 (ints (snds st.1)))] (m2 - 1) (by omega) ?_ ?_ ⟨j + 1, d, by omega, hsd', ?_⟩ <;> simp [t0, t3, t4, t5, t6, t7]
      · have hje : j = i := by omega
        have hj' : ¬ (j : Int) < i := by omega
        have hdd : depthS L st.1 a = d := by
          unfold depthS
          rw [← hd, hje, List.take_of_length_le (by omega)]
        have hsuc' : (A.take (i + 1)).foldl (chainF L) ([], 0) = (st.1 ++ [(a, d)], if d > st.2 then d else st.2) := by rw [hsuc, chainF, hdd]
        have hr3 : (i + 1) * 8 ≤ 140737488355328 ∧ i ≤ 9223372036854775806 := by omega
        have hli : i ≤ (ints (snds st.1)).length := by simp [snds_len]; omega
        have hti : (ints (snds st.1)).take i = ints (snds st.1) := List.take_of_length_le (by simp [snds_len]; omega)
        by_cases hg : d > st.2
        · have hg' : st.2 < d := hg
          rw [if_pos hg] at hsuc'
          simp (implicitDefEqProofs := false) [t0, t3, t4, t5, t6, t7, t8, hj', hr3, hti, hli, snds_len, hsl, hg', hwr]
          refine round_plan [] [0, 1, 4] [some (.ro (evs l)), some (.arr 3 (ints A)), some (.arr 3 (ints (snds (st.1 ++ [(a, d)]))))] (m - 1) (by omega) ?_ ?_ ⟨i + 1, _, by omega, hsuc', ?_⟩ <;> simp [t0, t3, t4, t5, t6, t7, snds_append, snds, ints_append, ints_single]
        · have hg' : ¬ st.2 < d := hg
          rw [if_neg hg] at hsuc'
          simp (implicitDefEqProofs := false) [t0, t3, t4, t5, t6, t7, t8, hj', hr3, hti, hli, snds_len, hsl, hg', hwr]
          refine round_plan [] [0, 1, 4] [some (.ro (evs l)), some (.arr 3 (ints A)), some (.arr 3 (ints (snds (st.1 ++ [(a, d)]))))] (m - 1) (by omega) ?_ ?_ ⟨i + 1, _, by omega, hsuc', ?_⟩ <;> simp [t0, t3, t4, t5, t6, t7, snds_append, snds, ints_append, ints_single]
    · have hie : i = A.length := by omega
      have hi' : ¬ (i : Int) < A.length := by omega
      have hE2 : st.2 = E := by rw [← hE, ← hst, hie, List.take_length]
      simp (implicitDefEqProofs := false) [t0, t3, t4, t5, t6, hi']
      refine ends_plan [] [0] ?_ ?_ ?_ <;> simp [hE2]
def st24 : CStep GD := fun args H => match args with
  | [.slice (some ⟨k, 0, none⟩) n c] => match H.get k with
    | some (.ro cs) => (asEvs cs).map fun l => (n ≤ l.length ∧ n ≤ 1000 ∧ (∀ x ∈ l, 0 ≤ x.v ∧ x.v < 18446744073709551616), .ret (.int .i64 (chainsS (l.take n))), H)
    | _ => none
  | _ => none
theorem st24_ok : CStepOk Tryd.prog cfg 24 st24 := by
  intro args H p r H' h hp
  unfold st24 at h
  split at h
  case h_2 => cases h
  split at h
  case h_2 => cases h
  simp only [Option.map_eq_some_iff] at h
  obtain ⟨l, hl, h⟩ := h
  rename_i k n c _ cs hk
  cases h
  rw [asEvs_inv hl] at hk
  exact (runs24 l n c hp.1 hp.2.1 hp.2.2).atK (ro_same fun i cs hi => by rcases i with _ | _ | i <;> simp at hi ⊢ <;> exact hi) [k] (by simp) (by simp) (by simp [hk]) (by simp) (by simp) (by simp [upd_get hk])
end YtmhkpababjdnbaaDoor
end Go.Proofs
/-
  VALUES: which are the same.
-/
set_option linter.unusedSimpArgs false
set_option linter.unusedVariables false
set_option linter.unnecessarySimpa false
set_option linter.unusedSectionVars false
namespace Go.Proofs
namespace YtmhkpababjdnbaaDoor
open Go.Abs
set_option linter.unusedSimpArgs false

def canonV (v : Int) : Int := if rightB v then v else 9221120237041090560
theorem runs69 (v : Int) (H : AH GD) : Runs Tryd.prog cfg 69 [.int .u64 v] H fun r H' => r = .ret (.int .u64 (canonV v)) ∧ H' = H := by
  refine runs_by (tbl := [(47, st47)]) (by simp [st47_ok]) 0 0 (af := a69) rfl ?_
  rw [a69, b69, run_eq]
  refine ⟨by simp, ?_⟩
  simp (implicitDefEqProofs := false) [st47]
  repeat' (first | with_reducible apply And.intro | with_reducible intro _)
  all_goals simp [canonV, *]
def st69 : CStep GD := fun args H => match args with
  | [x] => (asU x).map fun v => (True, .ret (.int .u64 (canonV v)), H)
  | _ => none
theorem st69_ok : CStepOk Tryd.prog cfg 69 st69 := by
  intro args H p r H' h hp
  unfold st69 at h
  split at h
  case h_2 => cases h
  simp only [Option.map_eq_some_iff] at h
  obtain ⟨v, hv, h⟩ := h
  cases h
  rw [asU_inv hv]
  exact runs69 v H
end YtmhkpababjdnbaaDoor
end Go.Proofs
/-
  DERIVED: THE SHELF's CONTRACTS AT THIS DUMP, IN PLAIN WORDS (tools/lay-plain.mjs out of 'TrydShelf.lean', which tools/lay-shelf.mjs wrote): THE SAME DECLARATIONS UNDER THE SAME NAMES: 'import', 'namespace', 'open', 'def', 'theorem' AND NOTHING ELSE: no command of the shelf's: FOR A HAND-IN. Each laying: the table of numbers ('.._ren') and one theorem, a field a fact of the dump's own or the kernel's comparison; each contract: ONE APPLICATION.
-/
namespace Go.Proofs
open Go.Shelf
def Tryd.lays156_ren : Go.Shelf.Ren := ⟨fun | 156 => 57 | 165 => 70 | 166 => 39 | 169 => 42 | 240 => 53 | 241 => 82 | 276 => 67 | 277 => 91 | n => n, fun | 31 => 91 | 9 => 9 | 3 => 3 | 4 => 4 | 0 => 0 | 20 => 20 | 72 => 67 | 76 => 70 | 70 => 64 | 37 => 65 | 75 => 69 | 127 => 94 | 164 => 106 | 5 => 5 | 80 => 74 | n => n, fun | n => n⟩
theorem Tryd.lays156 : Go.Proofs.Lays.n156 Tryd.prog Tryd.lays156_ren := {
  mixed := by kernel_rfl
  f156 := Tryd.func57.trans (congrArg some (by kernel_rfl))
  f165 := Tryd.func70.trans (congrArg some (by kernel_rfl))
  f166 := Tryd.func39.trans (congrArg some (by kernel_rfl))
  f169 := Tryd.func42.trans (congrArg some (by kernel_rfl))
  f240 := Tryd.func53.trans (congrArg some (by kernel_rfl))
  f241 := Tryd.func82.trans (congrArg some (by kernel_rfl))
  f276 := Tryd.func67.trans (congrArg some (by kernel_rfl))
  f277 := Tryd.func91.trans (congrArg some (by kernel_rfl))
  t0 := Tryd.underlying0
  a0 := Tryd.isAgg0
  z0 := Tryd.sizeOf0
  v0 := Tryd.zeroValue0
  t3 := Tryd.underlying3
  a3 := Tryd.isAgg3
  z3 := Tryd.sizeOf3
  v3 := Tryd.zeroValue3
  t4 := Tryd.underlying4
  a4 := Tryd.isAgg4
  z4 := Tryd.sizeOf4
  v4 := Tryd.zeroValue4
  t9 := Tryd.underlying9
  a9 := Tryd.isAgg9
  z9 := Tryd.sizeOf9
  v9 := Tryd.zeroValue9
  t20 := Tryd.underlying20
  a20 := Tryd.isAgg20
  z20 := Tryd.sizeOf20
  v20 := Tryd.zeroValue20
  t31 := Tryd.underlying91
  a31 := Tryd.isAgg91
  z31 := Tryd.sizeOf91
  v31 := Tryd.zeroValue91
  t37 := Tryd.underlying65
  a37 := Tryd.isAgg65
  z37 := Tryd.sizeOf65
  v37 := Tryd.zeroValue65
  t70 := Tryd.underlying64
  a70 := Tryd.isAgg64
  z70 := Tryd.sizeOf64
  v70 := Tryd.zeroValue64
  t72 := Tryd.underlying67
  a72 := Tryd.isAgg67
  z72 := Tryd.sizeOf67
  v72 := Tryd.zeroValue67
  t75 := Tryd.underlying69
  a75 := Tryd.isAgg69
  z75 := Tryd.sizeOf69
  v75 := Tryd.zeroValue69
  t76 := Tryd.underlying70
  a76 := Tryd.isAgg70
  z76 := Tryd.sizeOf70
  v76 := Tryd.zeroValue70
  t127 := Tryd.underlying94
  a127 := Tryd.isAgg94
  z127 := Tryd.sizeOf94
  v127 := Tryd.zeroValue94
  t164 := Tryd.underlying106
  a164 := Tryd.isAgg106
  z164 := Tryd.sizeOf106
  v164 := Tryd.zeroValue106 }
theorem Tryd.Builder_Extra_156 : Builder.Extra Tryd.prog Tryd.lays156_ren := {
  sizeBuilder := by kernel_rfl
  liesBuilder := by kernel_rfl
  t5 := Tryd.underlying5
  a5 := Tryd.isAgg5
  z5 := Tryd.sizeOf5
  v5 := Tryd.zeroValue5
  infoByte := by kernel_rfl
  cellsByte := by kernel_rfl
  sizeByte := by kernel_rfl
  neB5 := by decide }
open Go.RowKit in
open Go.RowKit in
/-- strings.Join: "Join concatenates the elements of its first argument to create a single string. The separator string sep is placed between elements in the resulting string.": HOWEVER MANY ELEMENTS. Below the heap's end the world is as it was. (LAID: no walk: one application.) -/
theorem Tryd.strings_Join (bk o c : Nat) (xs : List ByteArray) (sep : ByteArray) (w : World) (hcells : ∀ (j : Nat) x, xs[j]? = some x → w.cell? ⟨bk, o + j, none⟩ = some (.string x)) (hbk : bk < w.heap.size) (hN : xs.length ≤ 140737488355328) (hcap : xs.length ≤ c) (hlen : (Lib.join (xs.map (·.data.toList)) sep.data.toList).length ≤ 140737488355328) :
    Calls Tryd.prog 57 #[.slice (some ⟨bk, o, none⟩) xs.length c, .string sep] w fun e w' => e = .returned (.string ⟨(Lib.join (xs.map (·.data.toList)) sep.data.toList).toArray⟩) ∧ Below w.heap.size w w' := Any.strings_Join Tryd.lays156 Tryd.Builder_Extra_156 bk o c xs sep w hcells hbk hN hcap hlen
def Tryd.lays171_ren : Go.Shelf.Ren := ⟨fun | 171 => 55 | 243 => 68 | 246 => 81 | 283 => 87 | 284 => 88 | 285 => 89 | 286 => 90 | 129 => 94 | 317 => 93 | 318 => 95 | 319 => 96 | 320 => 97 | 337 => 98 | 338 => 99 | n => n, fun | 3 => 3 | 9 => 9 | 2 => 2 | 4 => 4 | 171 => 136 | 0 => 0 | 53 => 40 | 37 => 65 | 5 => 5 | 173 => 139 | 212 => 145 | 51 => 146 | 20 => 20 | 213 => 147 | 46 => 149 | 232 => 152 | 233 => 153 | n => n, fun | 17 => 1 | 18 => 3 | 19 => 4 | n => n⟩
theorem Tryd.lays171 : Go.Proofs.Lays.n171 Tryd.prog Tryd.lays171_ren := {
  mixed := by kernel_rfl
  f129 := Tryd.func94.trans (congrArg some (by kernel_rfl))
  f171 := Tryd.func55.trans (congrArg some (by kernel_rfl))
  f243 := Tryd.func68.trans (congrArg some (by kernel_rfl))
  f246 := Tryd.func81.trans (congrArg some (by kernel_rfl))
  f283 := Tryd.func87.trans (congrArg some (by kernel_rfl))
  f284 := Tryd.func88.trans (congrArg some (by kernel_rfl))
  f285 := Tryd.func89.trans (congrArg some (by kernel_rfl))
  f286 := Tryd.func90.trans (congrArg some (by kernel_rfl))
  f317 := Tryd.func93.trans (congrArg some (by kernel_rfl))
  f318 := Tryd.func95.trans (congrArg some (by kernel_rfl))
  f319 := Tryd.func96.trans (congrArg some (by kernel_rfl))
  f320 := Tryd.func97.trans (congrArg some (by kernel_rfl))
  f337 := Tryd.func98.trans (congrArg some (by kernel_rfl))
  f338 := Tryd.func99.trans (congrArg some (by kernel_rfl))
  t0 := Tryd.underlying0
  a0 := Tryd.isAgg0
  z0 := Tryd.sizeOf0
  v0 := Tryd.zeroValue0
  t2 := Tryd.underlying2
  a2 := Tryd.isAgg2
  z2 := Tryd.sizeOf2
  v2 := Tryd.zeroValue2
  t3 := Tryd.underlying3
  a3 := Tryd.isAgg3
  z3 := Tryd.sizeOf3
  v3 := Tryd.zeroValue3
  t4 := Tryd.underlying4
  a4 := Tryd.isAgg4
  z4 := Tryd.sizeOf4
  v4 := Tryd.zeroValue4
  t5 := Tryd.underlying5
  a5 := Tryd.isAgg5
  z5 := Tryd.sizeOf5
  v5 := Tryd.zeroValue5
  t9 := Tryd.underlying9
  a9 := Tryd.isAgg9
  z9 := Tryd.sizeOf9
  v9 := Tryd.zeroValue9
  t20 := Tryd.underlying20
  a20 := Tryd.isAgg20
  z20 := Tryd.sizeOf20
  v20 := Tryd.zeroValue20
  t37 := Tryd.underlying65
  a37 := Tryd.isAgg65
  z37 := Tryd.sizeOf65
  v37 := Tryd.zeroValue65
  t46 := Tryd.underlying149
  a46 := Tryd.isAgg149
  z46 := Tryd.sizeOf149
  v46 := Tryd.zeroValue149
  t51 := Tryd.underlying146
  a51 := Tryd.isAgg146
  z51 := Tryd.sizeOf146
  v51 := Tryd.zeroValue146
  t53 := Tryd.underlying40
  a53 := Tryd.isAgg40
  z53 := Tryd.sizeOf40
  v53 := Tryd.zeroValue40
  t171 := Tryd.underlying136
  a171 := Tryd.isAgg136
  z171 := Tryd.sizeOf136
  v171 := Tryd.zeroValue136
  t173 := Tryd.underlying139
  a173 := Tryd.isAgg139
  z173 := Tryd.sizeOf139
  v173 := Tryd.zeroValue139
  t212 := Tryd.underlying145
  a212 := Tryd.isAgg145
  z212 := Tryd.sizeOf145
  v212 := Tryd.zeroValue145
  t213 := Tryd.underlying147
  a213 := Tryd.isAgg147
  z213 := Tryd.sizeOf147
  t232 := Tryd.underlying152
  a232 := Tryd.isAgg152
  z232 := Tryd.sizeOf152
  v232 := Tryd.zeroValue152
  t233 := Tryd.underlying153
  a233 := Tryd.isAgg153
  z233 := Tryd.sizeOf153
  v233 := Tryd.zeroValue153
  g17 := by kernel_rfl
  g18 := by kernel_rfl
  g19 := by kernel_rfl }
open Go.RowKit Go.Sort Go.Lib in
/-- THE ROAD WITHOUT THE TABLE: 0 <= i < 100: NO PREMISE ON THE WORLD, AND THE WORLD IS AS IT WAS: a row that keeps its argument in that range need list no table ('laid = []'). (LAID: no walk: one application.) -/
theorem Tryd.strconv_Itoa_small (i : Nat) (hi : i < 100) (w : World) :
    Calls Tryd.prog 55 #[.int .i64 i] w fun e w' => e = .returned (.string ⟨(Lib.decDigits i).toArray⟩) ∧ w' = w := Any.strconv_Itoa_small Tryd.lays171 i hi w
end Go.Proofs
/-
  TEXTS: the library's Join, Itoa of what is small, the references' Digits.
-/
set_option linter.unusedSimpArgs false
set_option linter.unusedVariables false
set_option linter.unnecessarySimpa false
set_option linter.unusedSectionVars false
namespace Go.Proofs
namespace YtmhkpababjdnbaaDoor
open Go.Abs
set_option linter.unusedSimpArgs false

def asStrs : List Value → Option (List ByteArray)
  | [] => some []
  | .string s :: l => (asStrs l).map (s :: ·)
  | _ => none
theorem asStrs_strs : ∀ l : List ByteArray, asStrs (strs l) = some l
  | [] => rfl
  | s :: l => by
    show (asStrs (strs l)).map (s :: ·) = _
    rw [asStrs_strs l]; rfl
theorem asStrs_inv : ∀ {cs : List Value} {l : List ByteArray}, asStrs cs = some l → cs = strs l
  | cs, l, e => by
    unfold asStrs at e
    split at e
    · cases e; rfl
    · simp only [Option.map_eq_some_iff] at e
      obtain ⟨l', e1, rfl⟩ := e
      rw [asStrs_inv e1]; rfl
    · cases e
attribute [simp] asStrs_strs
theorem join_in : ∀ args w, (callFunc 57 args).run Tryd.prog w = .ok (.enter 57 args) w := callable_of Tryd.func57 (by kernel_rfl) (by kernel_rfl)
def st57 : CStep GD := fun args H => match args with
  | [.slice (some ⟨k, 0, none⟩) n _, .string sep] => match H.get k with
    | some (.arr _ cs) => (asStrs cs).map fun xs => (n = xs.length ∧ xs ≠ [] ∧ xs.length ≤ 1000 ∧ (joinS xs sep).size ≤ 1000000, .ret (.string (joinS xs sep)), H)
    | _ => none
  | _ => none
theorem st57_ok : CStepOk Tryd.prog cfg 57 st57 := by
  intro args H p r H' h hp
  unfold st57 at h
  split at h
  case h_2 => cases h
  split at h
  case h_2 => cases h
  simp only [Option.map_eq_some_iff] at h
  obtain ⟨xs, hx, h⟩ := h
  rename_i k n tg sep x e cs hk
  cases h
  rw [asStrs_inv hx] at hk
  obtain ⟨h1, h2, h3, h4⟩ := hp
  rw [h1]
  exact (runs_join join_in (fun bk o c xs sep w g1 g2 g3 g4 g5 => Tryd.strings_Join bk o c xs sep w g1 g2 g3 g4 g5) e xs sep tg h2 (by omega) (by omega)).atK (ro_none rfl) [k] (by simp) (by simp) (by simp [hk]) (by simp) (by simp) (by simp [upd_get hk])

def decS (n : Nat) : ByteArray := ⟨(Lib.decDigits n).toArray⟩
theorem decDigits_one {n : Nat} (h : n < 10) : Lib.decDigits n = [UInt8.ofNat (48 + n)] := by unfold Lib.decDigits; simp [h]
theorem decDigits_two {n : Nat} (h : 10 ≤ n) (h2 : n < 100) : Lib.decDigits n = [UInt8.ofNat (48 + n / 10), UInt8.ofNat (48 + n % 10)] := by
  rw [Lib.decDigits, dif_neg (by omega), decDigits_one (by omega)]; rfl
theorem itoa_in : ∀ args w, (callFunc 55 args).run Tryd.prog w = .ok (.enter 55 args) w := callable_of Tryd.func55 (by kernel_rfl) (by kernel_rfl)
def p55 : PStep
  | [.int .i64 n] => some (0 ≤ n ∧ n < 100, .string (decS n.toNat))
  | _ => none
abbrev st55 := pureStep p55
theorem st55_ok : CStepOk Tryd.prog cfg 55 st55 := pure_ok fun args p v h hp => by
  unfold p55 at h
  split at h
  · rename_i n
    cases h
    refine ⟨rfl, rfl, ?_⟩
    have e : n = (n.toNat : Int) := by omega
    rw [e]
    exact runs_still itoa_in rfl rfl (fun w => Tryd.strconv_Itoa_small n.toNat (by omega) w) _
  · cases h
end YtmhkpababjdnbaaDoor
end Go.Proofs
/-
  TEXTS: a value's digits.
-/
set_option linter.unusedSimpArgs false
set_option linter.unusedVariables false
set_option linter.unnecessarySimpa false
set_option linter.unusedSectionVars false
namespace Go.Proofs
namespace YtmhkpababjdnbaaDoor
open Go.Abs
set_option linter.unusedSimpArgs false

/-- A digit, and what is written of it. -/
def hexC (d : Nat) : Nat := if d < 10 then 48 + d else 87 + d
theorem hexC_lt (d : Nat) (h : d < 16) : hexC d < 256 := by unfold hexC; split <;> omega
theorem hexC_at : ∀ d, d < 16 → ([48, 49, 50, 51, 52, 53, 54, 55, 56, 57, 97, 98, 99, 100, 101, 102] : List UInt8)[d]? = some (UInt8.ofNat (hexC d)) := by decide
def byL (l : List Nat) : List Value := l.map fun n : Nat => Value.int .u8 (n : Int)
theorem byL_length (l : List Nat) : (byL l).length = l.length := by simp [byL]
theorem byL_set (l : List Nat) (i n : Nat) : (byL l).set i (.int .u8 n) = byL (l.set i n) := by simp [byL, List.map_set]
theorem byL_ground (l : List Nat) : grounds (byL l) = true := by
  induction l with
  | nil => rfl
  | cons e l ih => simp [byL, grounds, ground] at ih ⊢; exact ih
theorem byL_ren (θ : Nat → Nat) (l : List Nat) : rens θ (byL l) = byL l := rens_ground θ _ (byL_ground l)
attribute [simp] byL_length byL_ren
def hexD (w j : Nat) : Nat := w / 16 ^ (15 - j) % 16
def hexL (w : Nat) : List Nat := (List.range 16).map fun j => hexC (hexD w j)
def hexP (w i : Nat) : List Nat := (List.range 16).map fun j => if j < i then hexC (hexD w j) else 0
theorem hexP_set (w : Nat) {i : Nat} (h : i < 16) : (hexP w i).set i (hexC (hexD w i)) = hexP w (i + 1) := by
  refine List.ext_getElem? fun j => ?_
  by_cases hj : j < 16
  · rw [List.getElem?_set]
    by_cases hij : i = j
    · subst hij; simp [hexP, hj]
    · rw [if_neg hij]
      simp only [hexP, List.getElem?_map, List.getElem?_range hj, Option.map_some]
      have : (j < i) ↔ (j < i + 1) := by omega
      simp [this]
  · rw [List.getElem?_eq_none (by simp [hexP]; omega), List.getElem?_eq_none (by simp [hexP]; omega)]
theorem hexP_end (w : Nat) : hexP w 16 = hexL w := by
  unfold hexP hexL
  exact List.map_congr_left fun j hj => by rw [if_pos (List.mem_range.1 hj)]
def hexS (w : Nat) : ByteArray := ⟨((hexL w).map UInt8.ofNat).toArray⟩
theorem bytesOf_byL (l : List Nat) : bytesOf? (byL l) = some (l.map UInt8.ofNat) := by
  induction l with
  | nil => rfl
  | cons n l ih =>
    show (bytesOf? (byL l)).map _ = _
    rw [ih]; simp
def tblHx : List (FuncId × CStep GD) := [(69, st69)]
theorem tblHx_ok : ∀ x ∈ tblHx, CStepOk Tryd.prog cfg x.1 x.2 := by simp [tblHx, st69_ok]
set_option maxHeartbeats 2000000 in
theorem runs56 (v : Int) (hv : 0 ≤ v ∧ v < 18446744073709551616) : Runs Tryd.prog cfg 56 [.int .u64 v] (AH.of [])
    fun r H' => r = .ret (.string (hexS (canonV v).toNat)) ∧ H' = AH.of [] := by
  refine Runs.ends ?_
  have hc : 0 ≤ canonV v ∧ canonV v < 18446744073709551616 := by unfold canonV; split <;> omega
  obtain ⟨n, hn⟩ : ∃ n : Nat, canonV v = (n : Int) := ⟨(canonV v).toNat, by omega⟩
  have hnl : n < 18446744073709551616 := by omega
  refine runs_by (tbl := tblHx) tblHx_ok 17 0 (af := a56) rfl ?_
  rw [a56, b56, run_eq]
  refine ⟨by simp, ?_⟩
  simp (implicitDefEqProofs := false) [tblHx, st69, hn]
  refine loop_inv (sg_mono gX_ok (tabS_ok tblHx_ok) _ _ noY noY_mono) (fun m tm H => ∃ i : Nat, m + i = 16 ∧ tm 0 = .int .u64 n ∧ tm 3 = .pointer (some ⟨0, 0, none⟩) ∧ tm 7 = .int .i64 i ∧ H = AH.of [some (.arr 109 (byL (hexP n i)))]) (m := 16) ⟨0, by simp [hexP, byL]; rfl⟩ (by omega) ?_
  rintro m tm H ⟨i, hm, t0, t3, t7, rfl⟩
  by_cases hi : i < 16
  · have hi' : (i : Int) < 16 := by omega
    have hwr := inc_i64 hi (by omega)
    have h1 : IntKind.i64.wrap (4 * (i : Int)) = 4 * (i : Int) := wrap_i64 (by omega) (by omega)
    have h2 : IntKind.i64.wrap (60 - 4 * (i : Int)) = ((60 - 4 * i : Nat) : Int) := by rw [wrap_i64 (by omega) (by omega)]; omega
    have hz : ¬ ((60 - 4 * i : Nat) : Int) < 0 := by omega
    have h3 : min (60 - 4 * i) 64 = 60 - 4 * i := by omega
    have h4 : (n : Int).fdiv (2 ^ (60 - 4 * i)) = ((n / 16 ^ (15 - i) : Nat) : Int) := by
      have e : (2 : Int) ^ (60 - 4 * i) = ((16 ^ (15 - i) : Nat) : Int) := by
        rw [show 60 - 4 * i = 4 * (15 - i) by omega, Int.pow_mul]; norm_cast
      rw [e, Int.fdiv_eq_ediv_of_nonneg _ (Int.natCast_nonneg _)]; norm_cast
    have h5 : bAnd .u64 ((n / 16 ^ (15 - i) : Nat) : Int) 15 = ((hexD n i : Nat) : Int) := by
      have h := bAnd_nat (n := n / 16 ^ (15 - i)) (m := 15) (Nat.lt_of_le_of_lt (Nat.div_le_self _ _) hnl) (by omega)
      rw [show ((15 : Nat) : Int) = 15 from rfl] at h
      rw [h, show (15 : Nat) = 2 ^ 4 - 1 from rfl, Nat.and_two_pow_sub_one_eq_mod]; rfl
    obtain ⟨q, hq⟩ : ∃ q, n / 16 ^ (15 - i) = q := ⟨_, rfl⟩
    rw [hq] at h4 h5
    have hd : hexD n i < 16 := Nat.mod_lt _ (by omega)
    have h6 := hexC_at _ hd
    have h7 : (UInt8.ofNat (hexC (hexD n i))).toNat = hexC (hexD n i) := by rw [UInt8.toNat_ofNat']; exact Nat.mod_eq_of_lt (hexC_lt _ hd)
    simp (implicitDefEqProofs := false) [t0, t3, t7, hi, hi', hwr, h1, h2, hz, IntKind.bits, h3, h4, h5, h6, h7, byL_length, byL_set, hexP_set n hi]
    exact ⟨by simp [hexP]; omega, m - 1, by omega, i + 1, by omega, by omega, rfl⟩
  · have hi' : ¬ (i : Int) < 16 := by omega
    obtain rfl : i = 16 := by omega
    have hm16 : (byL (hexL n)).take 16 = byL (hexL n) := List.take_of_length_le (by simp [hexL])
    have hl16 : (hexL n).length = 16 := by simp [hexL]
    rw [hexP_end]
    simp (implicitDefEqProofs := false) [t0, t3, t7, hm16, hl16, bytesOf_byL]
    refine ends_plan [] [] ?_ ?_ ?_ <;> simp [hexS, hn]
def p56 : PStep
  | [.int .u64 v] => some (0 ≤ v ∧ v < 18446744073709551616, .string (hexS (canonV v).toNat))
  | _ => none
abbrev st56 := pureStep p56
theorem st56_ok : CStepOk Tryd.prog cfg 56 st56 := pure_ok fun args p v h hp => by
  unfold p56 at h
  split at h
  · cases h; exact ⟨rfl, rfl, runs56 _ hp⟩
  · cases h
end YtmhkpababjdnbaaDoor
end Go.Proofs
/-
  TEXTS: strings.Builder, copyCheck: by its text.
-/
set_option linter.unusedSimpArgs false
set_option linter.unusedVariables false
set_option linter.unnecessarySimpa false
set_option linter.unusedSectionVars false
namespace Go.Proofs
namespace YtmhkpababjdnbaaDoor
open Go.Abs Go.RowKit
set_option linter.unusedSimpArgs false

/-- In a row of variables there lies one at its head. -/
theorem liesAt_self {P : Program} {e : TypeId} {c : Nat} (hc : P.cellsOf e = c) (h0 : 0 < c) (count : Nat) (hn : 1 ≤ count) : liesAt P P.depth e count 0 e 1 = true := by
  have hd : P.depth = (2 * (P.types.size + Made.depth) + 1) + 1 := rfl
  rw [hd]
  simp only [liesAt, Bool.or_eq_true]
  left
  rw [hd]
  have : c ≠ 0 := by omega
  simp [rowAt, hc, hn, sameLayout, this]
theorem cells67 : Tryd.prog.cellsOf 67 = 2 := by kernel_rfl
theorem info67 : ∃ j, Tryd.prog.info? 67 = some j ∧ j.size = 2 := by
  have h : (Tryd.prog.info? 67).map (·.size) = some 2 := by kernel_rfl
  obtain ⟨j, h1, h2⟩ := Option.map_eq_some_iff.1 h
  exact ⟨j, h1, h2⟩
set_option maxHeartbeats 1000000 in
set_option maxRecDepth 100000 in
theorem copy_used (b : Nat) (w : World) (h0 : w.cell? ⟨b, 0, none⟩ = some (.pointer (some ⟨b, 0, none⟩))) :
    Calls Tryd.prog 53 #[.pointer (some ⟨b, 0, none⟩)] w fun e w' => e = .returned (.tuple #[]) ∧ w' = w := by
  obtain ⟨j, hj, hjs⟩ := info67
  go_enter Tryd.func53, Tryd.ntmps53
  go_wp2
  rw [Lib.run_neq_ptr_same w _ Tryd.underlying64 hj]
  go_wp2
  go_end0
  exact ⟨rfl, rfl⟩
set_option maxHeartbeats 1000000 in
set_option maxRecDepth 100000 in
theorem copy_fresh (b n : Nat) (w : World) (hn : 2 ≤ n) (h0 : w.cell? ⟨b, 0, none⟩ = some (.pointer none)) (hsh : w.shape? b = some (67, n)) (hfz : w.frozen? ⟨b, 0, none⟩ = false) :
    Calls Tryd.prog 53 #[.pointer (some ⟨b, 0, none⟩)] w fun e w' => e = .returned (.tuple #[]) ∧ w' = w.setCell ⟨b, 0, none⟩ (.pointer (some ⟨b, 0, none⟩)) := by
  obtain ⟨j, hj, hjs⟩ := info67
  have hlies := liesAt_self (P := Tryd.prog) cells67 (by omega) (n / Tryd.prog.cellsOf 67) (by rw [cells67]; omega)
  go_enter Tryd.func53, Tryd.ntmps53
  go_wp2
  rw [Lib.run_to_unsafe w ⟨b, 0, none⟩ Tryd.underlying64 Tryd.underlying106 hj (by rw [hjs]; decide) hsh (by show 0 < n; omega)]
  simp only [Result.andThen]
  rw [Oper.upon_value]
  go_wp2
  rw [run_callFunc_extern Tryd.func67 (by kernel_rfl) (by kernel_rfl) (by kernel_rfl) (e := Extern.AbiNoEscape.same) (by kernel_rfl)]
  rw [Lib.run_noEscape]
  simp only [Result.andThen]
  rw [Oper.upon_value]
  go_wp2
  rw [Lib.run_from_unsafe w ⟨b, 0, none⟩ Tryd.underlying106 Tryd.underlying64 hj hsh hlies]
  simp only [Result.andThen]
  rw [Oper.upon_value]
  go_wp2
  go_end0
  exact ⟨rfl, rfl⟩
theorem copy_in : ∀ args w, (callFunc 53 args).run Tryd.prog w = .ok (.enter 53 args) w := callable_of Tryd.func53 (by kernel_rfl) (by kernel_rfl)
/-- A builder that was never written notes where it lies; one that was is as it was. -/
def st53 : CStep GD := fun args H => match args with
  | [.pointer (some ⟨k, 0, none⟩)] => match H.get k with
    | some (.arr e [.pointer none, v]) => some (e = 67, .ret (.tuple #[]), H.upd k (.arr e [.pointer (some ⟨k, 0, none⟩), v]))
    | some (.arr e [.pointer (some ⟨k', 0, none⟩), v]) => some (k' = k, .ret (.tuple #[]), H)
    | _ => none
  | _ => none
theorem row_at {ρ : Env} {own : Nat → Nat → Prop} {H : AH GD} {w : World} (hr : Rel Tryd.prog cfg ρ own H w) {k : Nat} {e : TypeId} {cs : List Value} (hk : H.get k = some (.arr e cs)) (hne : cs ≠ []) :
    ∃ l cs', ρ.loc k = some l ∧ l.base = 0 ∧ w.heap[l.b]? = some (.cells cs' e (0, 0)) ∧ cs.length ≤ cs'.size ∧ VRs ρ cs (cs'.toList.take cs.length) := by
  rcases hr.obj k _ hk with ⟨l, cs', g1, g2, g3, g4, g5, g6, g7, g8, g9⟩ | ⟨g1, _⟩
  · exact ⟨l, cs', g1, g2, g6, g7, g8⟩
  · exact absurd g1 hne
theorem st53_ok : CStepOk Tryd.prog cfg 53 st53 := by
  intro args H p r H' h hp
  unfold st53 at h
  split at h
  case h_2 => cases h
  rename_i k
  split at h
  case h_3 => cases h
  · rename_i e v hk
    cases h
    subst hp
    refine ⟨copy_in, fun ρ own w args' hr hv => ?_⟩
    obtain ⟨v', rfl, hvv⟩ : ∃ v', args' = #[v'] ∧ VR ρ (.pointer (some ⟨k, 0, none⟩)) v' := by
      obtain ⟨a⟩ := args'
      cases hv with
      | cons _ v' _ _ h1 h2 => cases h2; exact ⟨v', rfl, h1⟩
    obtain ⟨l, h1, rfl⟩ := hvv.ptr_inv
    obtain ⟨l2, cs', g1, g2, g3, g4, g5⟩ := row_at hr hk (by simp)
    rw [h1] at g1; cases g1
    rw [g2]
    have hsz : 2 ≤ cs'.size := by simpa using g4
    have hc0 : cs'[0]? = some (.pointer none) := by
      obtain ⟨x, hx, hxr⟩ := g5.get (i := 0) (v := .pointer none) rfl
      have : cs'.toList[0]? = some x := by rw [List.getElem?_take] at hx; simpa using hx
      have hx2 : x = .pointer none := by cases hxr; rfl
      rw [← hx2]; simpa using this
    have hlt : l.b < w.heap.size := (Array.getElem?_eq_some_iff.1 g3).1
    obtain ⟨lc, w', e1, e2, e3, e4⟩ := hr.storeRow hk (o := 0) (l := [.pointer (some ⟨k, 0, none⟩)]) (l' := [.pointer (some ⟨l.b, 0, none⟩)]) (.cons _ _ _ _ (by have := VR.ptr (ρ := ρ) k 0 l h1; rwa [g2] at this) .nil) rfl (by simp)
    rw [h1] at e1; cases e1
    have hcell : w.cell? ⟨l.b, 0, none⟩ = some (.pointer none) := by simp [World.cell?, g3, hc0]
    have hfz : w.frozen? ⟨l.b, 0, none⟩ = false := by simp [World.frozen?, g3]
    have hw' : w' = w.setCell ⟨l.b, 0, none⟩ (.pointer (some ⟨l.b, 0, none⟩)) := by
      rw [g2] at e2
      simp [storeCells, Addr.add, run_store_pointer, stored, hcell, hfz] at e2
      exact e2.symm
    refine (copy_fresh l.b cs'.size w hsz hcell (by simp [World.shape?, g3]) hfz).mono ?_
    rintro en w2 ⟨rfl, rfl⟩
    rw [hw'] at e3 e4
    exact ⟨_, _, ρ, own, ⟨rfl, rfl⟩, e3, .tuple _ _ .nil, e4⟩
  · rename_i e k' v hk
    cases h
    subst hp
    refine ⟨copy_in, fun ρ own w args' hr hv => ?_⟩
    obtain ⟨v', rfl, hvv⟩ : ∃ v', args' = #[v'] ∧ VR ρ (.pointer (some ⟨k', 0, none⟩)) v' := by
      obtain ⟨a⟩ := args'
      cases hv with
      | cons _ v' _ _ h1 h2 => cases h2; exact ⟨v', rfl, h1⟩
    obtain ⟨l, h1, rfl⟩ := hvv.ptr_inv
    obtain ⟨l2, cs', g1, g2, g3, g4, g5⟩ := row_at hr hk (by simp)
    rw [h1] at g1; cases g1
    rw [g2]
    have hc0 : cs'[0]? = some (.pointer (some ⟨l.b, 0, none⟩)) := by
      obtain ⟨x, hx, hxr⟩ := g5.get (i := 0) (v := .pointer (some ⟨k', 0, none⟩)) rfl
      have : cs'.toList[0]? = some x := by rw [List.getElem?_take] at hx; simpa using hx
      obtain ⟨l3, h3, hx2⟩ := hxr.ptr_inv
      rw [h1] at h3; cases h3
      rw [g2] at hx2
      rw [← hx2]; simpa using this
    have hcell : w.cell? ⟨l.b, 0, none⟩ = some (.pointer (some ⟨l.b, 0, none⟩)) := by simp [World.cell?, g3, hc0]
    refine (copy_used l.b w hcell).mono ?_
    rintro en w2 ⟨rfl, rfl⟩
    exact ⟨_, _, ρ, own, ⟨rfl, rfl⟩, Ext.refl _ _ _, .tuple _ _ .nil, hr⟩
end YtmhkpababjdnbaaDoor
end Go.Proofs
/-
  TRACE: an event's line; Print.
-/
set_option linter.unusedSimpArgs false
set_option linter.unusedVariables false
set_option linter.unnecessarySimpa false
set_option linter.unusedSectionVars false
namespace Go.Proofs
namespace YtmhkpababjdnbaaDoor
open Go.Abs
set_option linter.unusedSimpArgs false

def wordS (k : Int) : ByteArray :=
  if k = 1 then ⟨#[98, 101, 103, 105, 110]⟩ else if k = 2 then ⟨#[114, 101, 97, 100]⟩ else if k = 3 then ⟨#[119, 114, 105, 116, 101]⟩ else if k = 4 then ⟨#[112, 117, 115, 104]⟩ else if k = 5 then ⟨#[100, 114, 111, 112]⟩
  else if k = 6 then ⟨#[109, 101, 114, 103, 101]⟩ else if k = 7 then ⟨#[116, 114, 121]⟩ else if k = 8 then ⟨#[99, 111, 109, 109, 105, 116]⟩ else if k = 9 then ⟨#[97, 98, 111, 114, 116]⟩ else ⟨#[]⟩
set_option maxHeartbeats 4000000 in
theorem runs54 (k : Int) : Runs Tryd.prog cfg 54 [.int .u8 k] (AH.of []) fun r H' => r = .ret (.string (wordS k)) ∧ H' = AH.of [] := by
  refine Runs.ends ?_
  refine runs_by (tbl := []) (by simp) 0 0 (af := a54) rfl ?_
  rw [a54, b54, run_eq]
  refine ⟨by simp, ?_⟩
  by_cases h1 : k = 1
  · simp (implicitDefEqProofs := false) [h1, wordS]
    refine ends_plan [] [] ?_ ?_ ?_ <;> simp
  by_cases h2 : k = 2
  · simp (implicitDefEqProofs := false) [h2, wordS]
    refine ends_plan [] [] ?_ ?_ ?_ <;> simp
  by_cases h3 : k = 3
  · simp (implicitDefEqProofs := false) [h3, wordS]
    refine ends_plan [] [] ?_ ?_ ?_ <;> simp
  by_cases h4 : k = 4
  · simp (implicitDefEqProofs := false) [h4, wordS]
    refine ends_plan [] [] ?_ ?_ ?_ <;> simp
  by_cases h5 : k = 5
  · simp (implicitDefEqProofs := false) [h5, wordS]
    refine ends_plan [] [] ?_ ?_ ?_ <;> simp
  by_cases h6 : k = 6
  · simp (implicitDefEqProofs := false) [h6, wordS]
    refine ends_plan [] [] ?_ ?_ ?_ <;> simp
  by_cases h7 : k = 7
  · simp (implicitDefEqProofs := false) [h7, wordS]
    refine ends_plan [] [] ?_ ?_ ?_ <;> simp
  by_cases h8 : k = 8
  · simp (implicitDefEqProofs := false) [h8, wordS]
    refine ends_plan [] [] ?_ ?_ ?_ <;> simp
  by_cases h9 : k = 9
  · simp (implicitDefEqProofs := false) [h9, wordS]
    refine ends_plan [] [] ?_ ?_ ?_ <;> simp
  · simp (implicitDefEqProofs := false) [h1, h2, h3, h4, h5, h6, h7, h8, h9, wordS]
    refine ends_plan [] [] ?_ ?_ ?_ <;> simp
def p54 : PStep
  | [.int .u8 k] => some (True, .string (wordS k))
  | _ => none
theorem st54_ok : CStepOk Tryd.prog cfg 54 (pureStep p54) := pure_ok fun args p v h hp => by
  unfold p54 at h
  split at h
  · cases h; exact ⟨rfl, rfl, runs54 _⟩
  · cases h

/-- What is small enough for the table of decimal digits. -/
def EvS (x : Ev) : Prop := (0 ≤ x.a ∧ x.a < 100) ∧ (0 ≤ x.v ∧ x.v < 18446744073709551616) ∧ (rw x = true → 0 ≤ x.t ∧ x.t < 100)
def lineL (x : Ev) : List ByteArray := wordS x.k :: decS x.a.toNat :: (if rw x = true then [decS x.t.toNat, hexS (canonV x.v).toNat] else [])
def blankB : ByteArray := ⟨#[32]⟩
def lineS (x : Ev) : ByteArray := joinS (lineL x) blankB
theorem wordS_le (k : Int) : (wordS k).size ≤ 6 := by
  unfold wordS
  repeat' split
  all_goals decide
theorem decS_le {n : Nat} (h : n < 100) : (decS n).size ≤ 2 := by
  unfold decS
  by_cases h1 : n < 10
  · rw [decDigits_one h1]; simp [ByteArray.size]
  · rw [decDigits_two (by omega) h]; simp [ByteArray.size]
theorem hexS_size (w : Nat) : (hexS w).size = 16 := by simp [hexS, hexL, ByteArray.size]
theorem join_two (a b s : ByteArray) : joinS [a, b] s = ⟨a.data ++ s.data ++ b.data⟩ := by
  unfold joinS
  simp [Lib.join]
theorem join_four (a b c d s : ByteArray) : joinS [a, b, c, d] s = ⟨a.data ++ s.data ++ b.data ++ s.data ++ c.data ++ s.data ++ d.data⟩ := by
  unfold joinS
  simp [Lib.join]
theorem lineS_le {x : Ev} (hx : EvS x) : (lineS x).size ≤ 100 := by
  have h1 := wordS_le x.k
  have h2 := decS_le (n := x.a.toNat) (by have := hx.1; omega)
  unfold lineS lineL
  by_cases hr : rw x = true
  · have h3 := decS_le (n := x.t.toNat) (by have := hx.2.2 hr; omega)
    have h4 := hexS_size (canonV x.v).toNat
    rw [if_pos hr, join_four]
    simp only [ByteArray.size, Array.size_append] at *
    have : blankB.data.size = 1 := rfl
    omega
  · rw [if_neg hr, join_two]
    simp only [ByteArray.size, Array.size_append] at *
    have : blankB.data.size = 1 := rfl
    omega
def tblLn : List (FuncId × CStep GD) := [(54, pureStep p54), (55, st55), (56, st56), (57, st57)]
theorem tblLn_ok : ∀ x ∈ tblLn, CStepOk Tryd.prog cfg x.1 x.2 := by simp [tblLn, st54_ok, st55_ok, st56_ok, st57_ok]
theorem asStrs_two (a b : ByteArray) : asStrs [.string a, .string b] = some [a, b] := rfl
theorem asStrs_four (a b c d : ByteArray) : asStrs [.string a, .string b, .string c, .string d] = some [a, b, c, d] := rfl
set_option maxHeartbeats 8000000 in
theorem runs40 (x : Ev) (hx : EvS x) : Runs Tryd.prog cfg 40 [.agg #[.int .u8 x.k, .int .i64 x.a, .int .i64 x.t, .int .u64 x.v]] (AH.of []) fun r H' => r = .ret (.string (lineS x)) ∧ H' = AH.of [] := by
  refine Runs.ends ?_
  have hsz := lineS_le hx
  have ha := hx.1
  have hv := hx.2.1
  refine runs_by (tbl := tblLn) tblLn_ok 0 0 (af := a40) rfl ?_
  rw [a40, b40, run_eq]
  refine ⟨by simp, ?_⟩
  by_cases k3 : x.k = 3
  · have hr : rw x = true := by simp [rw, isK, k3]
    have ht := hx.2.2 hr
    have hl : lineS x = joinS [wordS 3, decS x.a.toNat, decS x.t.toNat, hexS (canonV x.v).toNat] ⟨#[32]⟩ := by unfold lineS lineL; rw [if_pos hr, k3]; rfl
    rw [hl] at hsz ⊢
    have hsz2 : (joinS [wordS 3, decS x.a.toNat, decS x.t.toNat, hexS (canonV x.v).toNat] ⟨#[32]⟩).size ≤ 1000000 := by omega
    simp (implicitDefEqProofs := false) [tblLn, pureStep, p54, p55, st56, p56, st57, asStrs_four, k3, ha, hv, ht, hsz2]
    refine ends_plan [] [] ?_ ?_ ?_ <;> simp
  · by_cases k2 : x.k = 2
    · have hr : rw x = true := by simp [rw, isK, k2]
      have ht := hx.2.2 hr
      have hl : lineS x = joinS [wordS 2, decS x.a.toNat, decS x.t.toNat, hexS (canonV x.v).toNat] ⟨#[32]⟩ := by unfold lineS lineL; rw [if_pos hr, k2]; rfl
      rw [hl] at hsz ⊢
      have hsz2 : (joinS [wordS 2, decS x.a.toNat, decS x.t.toNat, hexS (canonV x.v).toNat] ⟨#[32]⟩).size ≤ 1000000 := by omega
      simp (implicitDefEqProofs := false) [tblLn, pureStep, p54, p55, st56, p56, st57, asStrs_four, k2, ha, hv, ht, hsz2]
      refine ends_plan [] [] ?_ ?_ ?_ <;> simp
    · have hr : ¬ rw x = true := by simp [rw, isK, k2, k3]
      have hl : lineS x = joinS [wordS x.k, decS x.a.toNat] ⟨#[32]⟩ := by unfold lineS lineL; rw [if_neg hr]; rfl
      rw [hl] at hsz ⊢
      have hsz2 : (joinS [wordS x.k, decS x.a.toNat] ⟨#[32]⟩).size ≤ 1000000 := by omega
      simp (implicitDefEqProofs := false) [tblLn, pureStep, p54, p55, st56, p56, st57, asStrs_two, k2, k3, ha, hv, hsz2]
      refine ends_plan [] [] ?_ ?_ ?_ <;> simp
def p40 : PStep
  | [.agg ⟨[.int .u8 k, .int .i64 a, .int .i64 t, .int .u64 v]⟩] => some (EvS ⟨k, a, t, v⟩, .string (lineS ⟨k, a, t, v⟩))
  | _ => none
theorem st40_ok : CStepOk Tryd.prog cfg 40 (pureStep p40) := pure_ok fun args p v h hp => by
  unfold p40 at h
  split at h
  · cases h; exact ⟨rfl, rfl, runs40 _ hp⟩
  · cases h
end YtmhkpababjdnbaaDoor
end Go.Proofs
/-
  TRACE: Print.
-/
set_option linter.unusedSimpArgs false
set_option linter.unusedVariables false
set_option linter.unnecessarySimpa false
set_option linter.unusedSectionVars false
namespace Go.Proofs
namespace YtmhkpababjdnbaaDoor
open Go.Abs
set_option linter.unusedSimpArgs false

theorem step_mem : ∀ {c : List Ev} {o o' : Option HA}, stepA o c = some o' → ∀ x ∈ c, ∃ o1 a, takeA o1 x = some a
  | y :: c, o, o', h, x, hx => by
    simp only [stepA, Option.bind_eq_some_iff] at h
    obtain ⟨a, h1, h2⟩ := h
    rcases List.mem_cons.1 hx with rfl | hx
    · exact ⟨o, a, h1⟩
    · exact step_mem h2 x hx
theorem take_rw {o : Option HA} {x : Ev} {a : HA} (h : takeA o x = some a) (hr : rw x = true) : 0 ≤ x.t ∧ x.t < 12 := by
  have hk : x.k = 2 ∨ x.k = 3 := by simpa [rw, isK] using hr
  unfold takeA at h
  rw [if_neg (by omega)] at h
  cases o with
  | none => cases h
  | some b =>
    simp only at h
    split at h
    · cases h
    rw [if_neg (by omega), if_neg (by omega)] at h
    split at h
    · cases h
    rcases hk with hk | hk
    · rw [if_pos hk] at h
      split at h
      · rename_i hh; exact ⟨hh.1, hh.2.1⟩
      · cases h
    · rw [if_neg (by omega), if_pos hk] at h
      split at h
      · rename_i hh
        unfold actS at hh
        cases hb : b.fs with
        | nil =>
          rw [hb] at hh
          cases hh
        | cons f r =>
          rw [hb] at hh
          simp only [hk, if_true] at hh
          unfold putCode at hh
          split at hh
          · omega
          · omega
      · cases h
theorem right_evS {l : List Ev} (h : rightS l = true) (hv : ∀ x ∈ l, 0 ≤ x.v ∧ x.v < 18446744073709551616) : ∀ x ∈ l, EvS x := fun x hx => by
  obtain ⟨_, h2, h3⟩ := (right_iff l).1 h
  obtain ⟨o, ho⟩ := Option.isSome_iff_exists.1 (h3 x.a)
  obtain ⟨o1, a, ha⟩ := step_mem ho x (List.mem_filter.2 ⟨hx, by simp⟩)
  have := h2 x hx
  exact ⟨by omega, hv x hx, fun hr => by have := take_rw ha hr; omega⟩

def byV (l : List UInt8) : List Value := l.map fun b => .int .u8 b.toNat
theorem byV_append (a b : List UInt8) : byV (a ++ b) = byV a ++ byV b := by simp [byV]
theorem byV_length (l : List UInt8) : (byV l).length = l.length := by simp [byV]
theorem byV_take (l : List UInt8) : (byV l).take l.length = byV l := List.take_of_length_le (by simp [byV])
theorem strV_eq (s : ByteArray) : strV s = byV s.data.toList := rfl
theorem byV_ground (l : List UInt8) : grounds (byV l) = true := by
  induction l with
  | nil => rfl
  | cons e l ih => simp [byV, grounds, ground] at ih ⊢; exact ih
theorem ren_byV (θ : Nat → Nat) (l : List UInt8) : rens θ (byV l) = byV l := rens_ground θ _ (byV_ground l)
theorem exact_byV : ∀ l : List UInt8, exactB? (byV l) = some l
  | [] => rfl
  | b :: l => by
    show (if 0 ≤ (b.toNat : Int) ∧ (b.toNat : Int) < 256 then (exactB? (byV l)).map (UInt8.ofNat (b.toNat : Int).toNat :: ·) else none) = _
    have : b.toNat < 256 := b.toNat_lt
    rw [if_pos (by omega), exact_byV l]
    simp
attribute [simp] ren_byV
def txtS (l : List Ev) : List UInt8 := l.flatMap fun x => (lineS x).data.toList ++ [10]
def printS (l : List Ev) : ByteArray := ⟨(txtS l).toArray⟩
theorem txt_succ {l : List Ev} {i : Nat} {x : Ev} (h : l[i]? = some x) : txtS (l.take (i + 1)) = txtS (l.take i) ++ (lineS x).data.toList ++ [10] := by
  rw [take_snoc h]
  simp [txtS, List.append_assoc]
theorem txt_len {l : List Ev} (h : ∀ x ∈ l, EvS x) : (txtS l).length ≤ 101 * l.length := by
  induction l with
  | nil => simp [txtS]
  | cons x l ih =>
    have h1 := lineS_le (h x (by simp))
    have h2 := ih fun y hy => h y (List.mem_cons_of_mem _ hy)
    have e : txtS (x :: l) = (lineS x).data.toList ++ [10] ++ txtS l := by simp [txtS]
    rw [e, List.length_append, List.length_append]
    have h3 : (lineS x).data.toList.length = (lineS x).size := Array.length_toList
    rw [h3]
    simp only [List.length_cons, List.length_nil] at *
    omega
theorem lineS_pos (x : Ev) : 0 < (lineS x).size := by
  unfold lineS lineL
  have hb : blankB.data.size = 1 := rfl
  by_cases hr : rw x = true
  · rw [if_pos hr, join_four]
    simp only [ByteArray.size, Array.size_append]
    omega
  · rw [if_neg hr, join_two]
    simp only [ByteArray.size, Array.size_append]
    omega
def tblPr : List (FuncId × CStep GD) := [(14, rdSt r14), (40, pureStep p40), (53, st53)]
theorem tblPr_ok : ∀ x ∈ tblPr, CStepOk Tryd.prog cfg x.1 x.2 := by simp [tblPr, st14_ok, st40_ok, st53_ok]
def printI (l : List Ev) (n c m : Nat) (tm : Nat → Value) (H : AH GD) : Prop := ∃ i : Nat, m + i = n ∧ tm 4 = .pointer (some ⟨1, 0, none⟩) ∧ tm 10 = .slice (some ⟨0, 0, none⟩) n c ∧ tm 11 = .int .i64 n ∧ tm 12 = .int .i64 i ∧
  ((i = 0 ∧ H = AH.of [some (.ro (evs l)), some (.arr 67 [.pointer none, .slice none 0 0])]) ∨
   (0 < i ∧ H = AH.of [some (.ro (evs l)), some (.arr 67 [.pointer (some ⟨1, 0, none⟩), .slice (some ⟨2, 0, none⟩) (txtS (l.take i)).length 1]), some (.arr 5 (byV (txtS (l.take i))))]))
def printV (l : List Ev) : Value := .tuple #[.string (if rightS l = true then printS l else ⟨#[]⟩), .int .i64 (if rightS l = true then 0 else 3)]
set_option maxHeartbeats 32000000 in
theorem runs26 (l : List Ev) (n c : Nat) (hn : n ≤ l.length) (hs : n ≤ 1000) (hv : ∀ x ∈ l.take n, 0 ≤ x.v ∧ x.v < 18446744073709551616) : Runs Tryd.prog cfg 26 [.slice (some ⟨0, 0, none⟩) n c] (AH.of [some (.ro (evs l))])
    fun r H' => r = .ret (printV (l.take n)) ∧ H' = AH.of [some (.ro (evs l))] := by
  refine Runs.ends ?_
  have hlen : (l.take n).length ≤ 1000 := by rw [List.length_take]; omega
  unfold printV
  obtain ⟨L, hL⟩ : ∃ L, l.take n = L := ⟨_, rfl⟩
  rw [hL] at hlen hv ⊢
  refine runs_by (tbl := tblPr) tblPr_ok 1001 2 (af := a26) rfl ?_
  rw [a26, b26, run_eq]
  refine ⟨by simp, ?_⟩
  cases hr : rightS L with
  | false =>
    simp (implicitDefEqProofs := false) [tblPr, rdSt, r14, hn, hL, hlen, hr]
    exact ⟨hv, by refine ends_plan [] [0] ?_ ?_ ?_ <;> simp⟩
  | true =>
    have hev := right_evS hr hv
    have hLn : L.length = n := by rw [← hL, List.length_take]; omega
    obtain ⟨E, hE⟩ : ∃ E, printS L = E := ⟨_, rfl⟩
    rw [if_pos rfl, if_pos rfl, hE]
    simp (implicitDefEqProofs := false) [tblPr, rdSt, r14, hn, hL, hlen, hr]
    refine ⟨hv, ?_⟩
    refine loop_view (sg_mono gX_ok (tabS_ok tblPr_ok) _ _ noY noY_mono) (printI l n c) (m := n) ?_ (by omega) ?_
    · refine round_plan [] [0, 1] [some (.ro (evs l)), some (.arr 67 [.pointer none, .slice none 0 0])] n (by omega) ?_ ?_ ⟨0, by omega, ?_, ?_, ?_, ?_, .inl ⟨rfl, rfl⟩⟩ <;> simp
    rintro m tm H ⟨i, hm, t4, t10, t11, t12, hH⟩
    have htx : (txtS (l.take i)).length ≤ 101 * 1000 := by
      have h1 := txt_len (l := l.take i) fun x hx => hev x (by
        rw [← hL]
        exact (List.take_sublist_take_left (by omega)).subset hx)
      rw [List.length_take] at h1
      omega
    by_cases hi : i < n
    · obtain ⟨x, hx⟩ : ∃ x, l[i]? = some x := ⟨l[i]'(by omega), List.getElem?_eq_getElem (by omega)⟩
      have hi' : (i : Int) < n := by omega
      have hwr := inc_i64 hi (by omega)
      have hroom := evs_room (show i < l.length by omega)
      have hmany := many_evs' hx
      have hxs := hev x (by rw [← hL]; exact List.mem_of_getElem? (i := i) (by rw [List.getElem?_take, if_pos hi, hx]))
      have hsuc := txt_succ hx
      have hls := lineS_le hxs
      obtain ⟨s, hS⟩ : ∃ s, lineS x = s := ⟨_, rfl⟩
      have hxe : (⟨x.k, x.a, x.t, x.v⟩ : Ev) = x := rfl
      rw [hS] at hsuc hls
      have hsd : s.data.toList.length = s.size := Array.length_toList
      have hsp : 0 < s.size := by rw [← hS]; exact lineS_pos x
      have hs0 : ¬ s.size = 0 := by omega
      have hxs2 : EvS ⟨x.k, x.a, x.t, x.v⟩ := hxs
      have hS2 : lineS ⟨x.k, x.a, x.t, x.v⟩ = s := hS
      have hsv := strV_eq s
      have hz1 : s.size ≤ 140737488355328 := by omega
      have htv : (byV s.data.toList).take s.size = byV s.data.toList := by rw [← hsd]; exact byV_take _
      have hlv : (byV s.data.toList).length = s.size := by rw [byV_length, hsd]
      have b10 : byV [10] = [.int .u8 10] := rfl
      rcases hH with ⟨h0, rfl⟩ | ⟨h0, rfl⟩
      · have e0 : txtS (l.take i) = [] := by rw [h0]; rfl
        rw [e0, List.nil_append] at hsuc
        have hz2 : s.size ≤ 140737488355327 ∧ s.size ≤ 9223372036854775806 := by omega
        have hlen2 : (txtS (l.take (i + 1))).length = s.size + 1 := by rw [hsuc, List.length_append, hsd]; rfl
        have hbv : byV (txtS (l.take (i + 1))) = byV s.data.toList ++ [.int .u8 10] := by rw [hsuc, byV_append, b10]
        simp (implicitDefEqProofs := false) [tblPr, pureStep, p40, st53, forms39, a39, b39, forms41, a41, b41, t4, t10, t11, t12, hi, hi', hwr, hroom, hmany, hxs2, hS2, hs0, hsv, hz1, hlv, hz2, htv]
        refine round_plan [] [0, 1, 5] [some (.ro (evs l)), some (.arr 67 [.pointer (some ⟨1, 0, none⟩), .slice (some ⟨2, 0, none⟩) (txtS (l.take (i + 1))).length 1]), some (.arr 5 (byV (txtS (l.take (i + 1)))))] (m - 1) (by omega) ?_ ?_ ⟨i + 1, by omega, ?_, ?_, ?_, ?_, .inr ⟨by omega, rfl⟩⟩
        all_goals (try simp (implicitDefEqProofs := false) only [hlen2, hbv])
        all_goals simp [t4, t10, t11]
      · obtain ⟨T, hT⟩ : ∃ T, txtS (l.take i) = T := ⟨_, rfl⟩
        rw [hT] at hsuc htx ⊢
        have hz2 : T.length + s.size ≤ 140737488355327 ∧ T.length + s.size ≤ 9223372036854775806 := by omega
        have hz3 : T.length + s.size ≤ 140737488355328 := by omega
        have hlen2 : (txtS (l.take (i + 1))).length = T.length + s.size + 1 := by rw [hsuc, List.length_append, List.length_append, hsd]; rfl
        have hbv : byV (txtS (l.take (i + 1))) = byV T ++ (byV s.data.toList ++ [.int .u8 10]) := by rw [hsuc, byV_append, byV_append, b10, List.append_assoc]
        have hTt := byV_take T
        have hTl := byV_length T
        have hta : (byV T ++ byV s.data.toList).take (T.length + s.size) = byV T ++ byV s.data.toList := List.take_of_length_le (by rw [List.length_append, hTl, hlv]; omega)
        simp (implicitDefEqProofs := false) [tblPr, pureStep, p40, st53, forms39, a39, b39, forms41, a41, b41, t4, t10, t11, t12, hi, hi', hwr, hroom, hmany, hxs2, hS2, hs0, hsv, hz1, hlv, hz2, hz3, hTt, hTl, hta]
        refine round_plan [] [0, 1, 6] [some (.ro (evs l)), some (.arr 67 [.pointer (some ⟨1, 0, none⟩), .slice (some ⟨2, 0, none⟩) (txtS (l.take (i + 1))).length 1]), some (.arr 5 (byV (txtS (l.take (i + 1)))))] (m - 1) (by omega) ?_ ?_ ⟨i + 1, by omega, ?_, ?_, ?_, ?_, .inr ⟨by omega, rfl⟩⟩
        all_goals (try simp (implicitDefEqProofs := false) only [hlen2, hbv])
        all_goals simp [t4, t10, t11]
    · have hie : i = n := by omega
      have hi' : ¬ (i : Int) < n := by omega
      rw [hie, hL] at hH
      rcases hH with ⟨h0, rfl⟩ | ⟨h0, rfl⟩
      · have hE0 : E = ByteArray.empty := by
          have : L = [] := List.eq_nil_of_length_eq_zero (by omega)
          rw [← hE, this]; rfl
        simp (implicitDefEqProofs := false) [forms42, a42, b42, t4, t10, t11, t12, hi', hE0]
        refine ends_plan [] [0] ?_ ?_ ?_ <;> simp
      · obtain ⟨T, hT⟩ : ∃ T, txtS L = T := ⟨_, rfl⟩
        have htx2 : T.length ≤ 101 * 1000 := by rw [← hT, ← hL, ← hie]; exact htx
        have hE0 : E = ⟨T.toArray⟩ := by rw [← hE, ← hT]; rfl
        have hTp : 0 < T.length := by
          rw [← hT]
          cases L with
          | nil => simp at hLn; omega
          | cons y L => simp [txtS]; omega
        have hTp2 : ¬ T.length = 0 := by omega
        have hTp3 : (0 : Int) < T.length := by omega
        have hTt := byV_take T
        have hTl := byV_length T
        have hTe := exact_byV T
        have hz2 : T.length ≤ 9223372036854775807 := by omega
        have hz3 : (T.length : Int) ≤ 9223372036854775807 := by omega
        rw [hT]
        simp (implicitDefEqProofs := false) [forms42, a42, b42, t4, t10, t11, t12, hi', hE0, hTp, hTp3, hTt, hTl, hTe, hz2, hz3]
        refine ends_plan [] [0] ?_ ?_ ?_ <;> simp
def r26 : RStep
  | l, [] => some (l.length ≤ 1000 ∧ ∀ x ∈ l, 0 ≤ x.v ∧ x.v < 18446744073709551616, printV l)
  | _, _ => none
theorem st26_ok : CStepOk Tryd.prog cfg 26 (rdSt r26) := rd_ok fun l n c rest p v hn h hp => by
  unfold r26 at h
  split at h
  · cases h
    rw [List.length_take] at hp
    exact ⟨rfl, rfl, runs26 l n c hn (by omega) hp.2⟩
  · cases h
end YtmhkpababjdnbaaDoor
end Go.Proofs
/-
  TRACE: live; TraceBoth.
-/
set_option linter.unusedSimpArgs false
set_option linter.unusedVariables false
set_option linter.unnecessarySimpa false
set_option linter.unusedSectionVars false
namespace Go.Proofs
namespace YtmhkpababjdnbaaDoor
open Go.Abs
set_option linter.unusedSimpArgs false

abbrev liveL : List Ev := [⟨1, 0, 0, 0⟩, ⟨2, 0, 1, 0⟩, ⟨3, 0, 1, 4607182418800017408⟩]
theorem live_right : rightS liveL = true := by decide +kernel
theorem live_counts : ctsV (countsS liveL) = .agg #[.int .i64 1, .int .i64 0, .int .i64 0, .int .i64 1, .int .i64 1, .int .i64 1] := by
  have : countsS liveL = ⟨1, 0, 0, 1, 1, 1⟩ := by decide +kernel
  rw [this]; rfl
theorem live_busy : busyV liveL = .tuple #[.int .i64 1, .bool true] := by
  have h1 : atS (cntL liveL) 12 = 1 := by decide +kernel
  have h2 : (cntL liveL).getD 1 0 = 2 := by decide +kernel
  unfold busyV
  rw [h1, h2]; rfl
theorem live_chains : chainsS liveL = 1 := by decide +kernel
def liveT : ByteArray := ⟨#[98, 101, 103, 105, 110, 32, 48, 10, 114, 101, 97, 100, 32, 48, 32, 49, 32, 48, 48, 48, 48, 48, 48, 48, 48, 48, 48, 48, 48, 48, 48, 48, 48, 10, 119, 114, 105, 116, 101, 32, 48, 32, 49, 32, 51, 102, 102, 48, 48, 48, 48, 48, 48, 48, 48, 48, 48, 48, 48, 48, 10]⟩
theorem live_print : printV liveL = .tuple #[.string liveT, .int .i64 0] := by
  have d0 : decS 0 = ⟨#[48]⟩ := by unfold decS; rw [decDigits_one (by omega)]; rfl
  have d1 : decS 1 = ⟨#[49]⟩ := by unfold decS; rw [decDigits_one (by omega)]; rfl
  have l1 : lineS ⟨1, 0, 0, 0⟩ = ⟨#[98, 101, 103, 105, 110, 32, 48]⟩ := by
    show joinS [wordS 1, decS 0] blankB = _
    rw [d0, join_two]; rfl
  have x0 : hexS (canonV 0).toNat = ⟨#[48, 48, 48, 48, 48, 48, 48, 48, 48, 48, 48, 48, 48, 48, 48, 48]⟩ := by decide +kernel
  have x1 : hexS (canonV 4607182418800017408).toNat = ⟨#[51, 102, 102, 48, 48, 48, 48, 48, 48, 48, 48, 48, 48, 48, 48, 48]⟩ := by decide +kernel
  have l2 : lineS ⟨2, 0, 1, 0⟩ = ⟨#[114, 101, 97, 100, 32, 48, 32, 49, 32, 48, 48, 48, 48, 48, 48, 48, 48, 48, 48, 48, 48, 48, 48, 48, 48]⟩ := by
    show joinS [wordS 2, decS 0, decS 1, hexS (canonV 0).toNat] blankB = _
    rw [d0, d1, x0, join_four]; rfl
  have l3 : lineS ⟨3, 0, 1, 4607182418800017408⟩ = ⟨#[119, 114, 105, 116, 101, 32, 48, 32, 49, 32, 51, 102, 102, 48, 48, 48, 48, 48, 48, 48, 48, 48, 48, 48, 48, 48]⟩ := by
    show joinS [wordS 3, decS 0, decS 1, hexS (canonV 4607182418800017408).toNat] blankB = _
    rw [d0, d1, x1, join_four]; rfl
  unfold printV
  rw [live_right, if_pos rfl, if_pos rfl]
  have : printS liveL = liveT := by
    unfold printS
    have : txtS liveL = liveT.data.toList := by
      simp only [txtS, liveL, List.flatMap_cons, List.flatMap_nil, l1, l2, l3]
      rfl
    rw [this]
  rw [this]
def tblLv : List (FuncId × CStep GD) := [(26, rdSt r26), (10, rdSt r10), (20, rdSt r20), (19, rdSt r19)]
theorem tblLv_ok : ∀ x ∈ tblLv, CStepOk Tryd.prog cfg x.1 x.2 := by simp [tblLv, st26_ok, st10_ok, st20_ok, st19_ok]
set_option maxHeartbeats 8000000 in
theorem runs9 : Runs Tryd.prog cfg 9 [] (AH.of []) fun r H' => r = .ret (.bool true) ∧ H' = AH.of [] := by
  refine Runs.ends ?_
  have h1 := live_print
  have h2 := live_counts
  have h3 := live_busy
  have h4 := live_chains
  refine runs_by (tbl := tblLv) tblLv_ok 0 0 (af := a9) rfl ?_
  rw [a9, b9, run_eq]
  refine ⟨by simp, ?_⟩
  simp (implicitDefEqProofs := false) [tblLv, rdSt, r26, r10, r20, r19, asEvs, h1, h2, h3, h4, liveT]
  refine ends_plan [] [] ?_ ?_ ?_ <;> simp
def p9 : PStep
  | [] => some (True, .bool true)
  | _ => none
theorem st9_ok : CStepOk Tryd.prog cfg 9 (pureStep p9) := pure_ok fun args p v h hp => by
  unfold p9 at h
  split at h
  · cases h; exact ⟨rfl, rfl, runs9⟩
  · cases h
end YtmhkpababjdnbaaDoor
end Go.Proofs
/-
  TRACE: TraceAlone.
-/
set_option linter.unusedSimpArgs false
set_option linter.unusedVariables false
set_option linter.unnecessarySimpa false
set_option linter.unusedSectionVars false
namespace Go.Proofs
namespace YtmhkpababjdnbaaDoor
open Go.Abs
set_option linter.unusedSimpArgs false

end YtmhkpababjdnbaaDoor
end Go.Proofs
/-
  TRACE: TraceBoth.
-/
set_option linter.unusedSimpArgs false
set_option linter.unusedVariables false
set_option linter.unnecessarySimpa false
set_option linter.unusedSectionVars false
namespace Go.Proofs
namespace YtmhkpababjdnbaaDoor
open Go.Abs
set_option linter.unusedSimpArgs false

end YtmhkpababjdnbaaDoor
end Go.Proofs
/-
  TRACE: TraceCounts.
-/
set_option linter.unusedSimpArgs false
set_option linter.unusedVariables false
set_option linter.unnecessarySimpa false
set_option linter.unusedSectionVars false
namespace Go.Proofs
namespace YtmhkpababjdnbaaDoor
open Go.Abs
set_option linter.unusedSimpArgs false

theorem many_p2 {i : Nat} {x : Int × Int} : ∀ {l : List (Int × Int)}, l[i]? = some x → ((p2 l).drop (i * 2)).take 2 = [.int .i64 x.1, .int .i64 x.2] := by
  induction i with
  | zero =>
    intro l h
    cases l with
    | nil => simp at h
    | cons e l => simp at h; subst h; rfl
  | succ i ih =>
    intro l h
    cases l with
    | nil => simp at h
    | cons e l =>
      rw [p2_cons, show (i + 1) * 2 = i * 2 + 1 + 1 by omega]
      simpa using ih (l := l) (by simpa using h)
theorem p2_room {l : List (Int × Int)} {i : Nat} (h : i < l.length) : i * 2 + 2 ≤ (p2 l).length := by rw [p2_length]; omega
theorem aeq_p2 (x : Int × Int) : aeqA 2 1 false .int 0 [.int .i64 x.1, .int .i64 x.2] [.int .i64 x.1, .int .i64 x.2] = some true := by
  simp [aeqA, aeq, aggOf2, partOf, eqInt]
theorem aeq_cts (c : Cts) : aeqF [(0, 1, false, .int), (1, 1, false, .int), (2, 1, false, .int), (3, 1, false, .int), (4, 1, false, .int), (5, 1, false, .int)] [.int .i64 c.a, .int .i64 c.c, .int .i64 c.b, .int .i64 c.o, .int .i64 c.r, .int .i64 c.w] [.int .i64 c.a, .int .i64 c.c, .int .i64 c.b, .int .i64 c.o, .int .i64 c.r, .int .i64 c.w] = some true := by
  simp [aeq, aeqF, aggOf2, partOf, eqInt]
def tblCn : List (FuncId × CStep GD) := [(7, st7), (20, rdSt r20), (21, rdSt r21), (18, rnSt r18), (22, rnSt r22), (9, pureStep p9), (10, rdSt r10), (23, rdSt r23), (19, rdSt r19), (24, st24)]
theorem tblCn_ok : ∀ x ∈ tblCn, CStepOk Tryd.prog cfg x.1 x.2 := by simp [tblCn, st7_ok, st20_ok, st21_ok, st18_ok, st22_ok, st9_ok, st10_ok, st23_ok, st19_ok, st24_ok]
set_option maxHeartbeats 16000000 in
theorem runs6 (l : List Ev) (c : Nat) (hc : c ≤ 1) (hvl : ∀ x ∈ l, 0 ≤ x.v ∧ x.v < 18446744073709551616) : Runs Tryd.prog cfg 6 [.slice (some ⟨0, 0, none⟩) l.length c] (AH.of [some (.ro (evs l))])
    fun r H' => r = .ret (.bool true) ∧ H' = AH.of [some (.ro (evs l))] := by
  refine Runs.ends ?_
  obtain ⟨n, hn⟩ : ∃ n, (if 60 < l.length then 60 else l.length) = n := ⟨_, rfl⟩
  have hn60 : n ≤ 60 := by rw [← hn]; split <;> omega
  have hnl : n ≤ l.length := by rw [← hn]; split <;> omega
  have hlen : (l.take n).length = n := by rw [List.length_take]; omega
  have hv : ∀ x ∈ l.take n, 0 ≤ x.v ∧ x.v < 18446744073709551616 := fun x hx => hvl x (List.mem_of_mem_take hx)
  obtain ⟨L, hL⟩ : ∃ L, l.take n = L := ⟨_, rfl⟩
  rw [hL] at hlen hv
  have hlen2 : L.length ≤ 1000 := by omega
  have hn2 : n ≤ 1000 := by omega
  have hle := atts_le L
  have hcl : (conflictsS L).length ≤ 3600 := by
    have h1 := confl_len L (attsS L)
    have h2 : (attsS L).length * (attsS L).length ≤ 60 * 60 := Nat.mul_le_mul (by omega) (by omega)
    unfold conflictsS; omega
  obtain ⟨bp, bb, hbv⟩ : ∃ (p : Int) (b : Bool), busyV L = .tuple #[.int .i64 p, .bool b] := ⟨_, _, rfl⟩
  obtain ⟨K, hK⟩ : ∃ K, conflictsS L = K := ⟨_, rfl⟩
  rw [hK] at hcl
  obtain ⟨ct, hct⟩ : ∃ ct, countsS L = ct := ⟨_, rfl⟩
  obtain ⟨ch, hch⟩ : ∃ ch, chainsS L = ch := ⟨_, rfl⟩
  refine runs_by (tbl := tblCn) tblCn_ok 4000 0 (af := a6) rfl ?_
  rw [a6, b6, run_eq]
  refine ⟨by simp, ?_⟩
  simp (implicitDefEqProofs := false) [tblCn, st7, rdSt, rnSt, r20, r21, r18, r22, hc, hn, hnl, hL, hlen2, hbv, hK]
  refine loop_inv (sg_mono gX_ok (tabS_ok tblCn_ok) _ _ noY noY_mono) (fun m tm H => ∃ i : Nat, m + i = K.length ∧ tm 0 = .slice (some ⟨0, 0, none⟩) n c ∧ tm 3 = .int .i64 bp ∧ tm 4 = .bool bb ∧ tm 5 = .int .i64 bp ∧ tm 6 = .bool bb ∧ tm 7 = .slice (some ⟨1, 0, none⟩) K.length 1 ∧ tm 8 = .slice (some ⟨2, 0, none⟩) K.length 1 ∧ tm 9 = .int .i64 i ∧
    H = AH.of [some (.ro (evs l)), some (.arr 49 (p2 K)), some (.arr 49 (p2 K))]) (m := K.length) ⟨0, by simp⟩ (by omega) ?_
  rintro m tm H ⟨i, hm, t0, t3, t4, t5, t6, t7, t8, t9, rfl⟩
  by_cases hi : i < K.length
  · obtain ⟨x, hx⟩ : ∃ x, K[i]? = some x := ⟨K[i]'(by omega), List.getElem?_eq_getElem (by omega)⟩
    have hi' : (i : Int) < K.length := by omega
    have hwr := inc_i64 hi (by omega)
    have rx := many_p2 hx
    have lx := p2_room hi
    simp (implicitDefEqProofs := false) [t0, t3, t4, t5, t6, t7, t8, t9, hi, hi', rx, lx, aeq_p2, aggOf2, hwr]
    exact ⟨m - 1, by omega, i + 1, by omega, by simp [t0, t3, t4, t5, t6, t7, t8]⟩
  · have hi' : ¬ (i : Int) < K.length := by omega
    simp (implicitDefEqProofs := false) [tblCn, rdSt, pureStep, p9, r10, r23, r19, st24, t0, t3, t4, t5, t6, t7, t8, t9, hi', hnl, hn2, hL, hlen2, hct, hch, ctsV, aeq_cts, aggOf2]
    exact ⟨hv, hvl, by refine ends_plan [] [0] ?_ ?_ ?_ <;> simp⟩
end YtmhkpababjdnbaaDoor
end Go.Proofs
/-
  What the arguments of laws read as: numbers, truth values.
-/
set_option linter.unusedSimpArgs false
set_option linter.unusedVariables false
set_option linter.unnecessarySimpa false
set_option linter.unusedSectionVars false
namespace Go.Proofs
namespace YtmhkpababjdnbaaDoor
open Go.Abs Go.ChangeShapes Go.WideShapes Go.ChangeAt Go.RowKit
set_option linter.unusedSimpArgs false
set_option linter.unusedVariables false
set_option maxRecDepth 100000

theorem own : ownKnob Tryd.prog.godebug = none := by kernel_rfl
section
variable {H : Type} {enc : TypeId × Value → H} {w : World}
theorem wf_u64 {n : Int} (h : (Lit.int .u64 n).wf = true) : 0 ≤ n ∧ n < 18446744073709551616 := by
  have : 0 ≤ n ∧ n ≤ 18446744073709551615 := by simpa [Lit.wf, IntKind.min, IntKind.max, IntKind.signed, IntKind.bits] using h
  omega
end
end YtmhkpababjdnbaaDoor
end Go.Proofs
/-
  TRACE: what the laws' arguments read as.
-/
set_option linter.unusedSimpArgs false
set_option linter.unusedVariables false
set_option linter.unnecessarySimpa false
set_option linter.unusedSectionVars false
namespace Go.Proofs
namespace YtmhkpababjdnbaaDoor
open Go.Abs Go.ChangeShapes Go.WideShapes Go.ChangeAt Go.RowKit
set_option linter.unusedSimpArgs false
set_option linter.unusedVariables false
set_option maxRecDepth 100000

theorem cells43 : Tryd.prog.cellsOf 43 = 4 := by kernel_rfl
def ltypes : List TypeId := [22, 43, 39, 41, 3]
theorem lclosed : closedB Tryd.prog ltypes = true := by kernel_rfl
def Ev.Ok (x : Ev) : Prop := 0 ≤ x.v ∧ x.v < 18446744073709551616
section
variable {H : Type} {enc : TypeId × Value → H} {w : World}
theorem ev_cells {fuel : Nat} {cs : List Value} {y : DataW H × List MemPlace} (h : DataW.trod enc Tryd.prog w 0 (fun _ => true) true fuel 43 cs = some y) : ∃ e : Ev, cs = e.cells ∧ e.Ok := by
  obtain ⟨h1, h2⟩ := struct_cells Tryd.underlying43 (by kernel_rfl) h cells43
  obtain ⟨v0, n0, y0, g0, t0⟩ := h2 0 _ rfl
  obtain ⟨v1, n1, y1, g1, t1⟩ := h2 1 _ rfl
  obtain ⟨v2, n2, y2, g2, t2⟩ := h2 2 _ rfl
  obtain ⟨v3, n3, y3, g3, t3⟩ := h2 3 _ rfl
  obtain ⟨a, ha, _, _⟩ := DataW.trod_int Tryd.underlying39 t0
  obtain ⟨b, hb, _, _⟩ := DataW.trod_int Tryd.underlying3 t1
  obtain ⟨c, hc, _, _⟩ := DataW.trod_int Tryd.underlying3 t2
  obtain ⟨d, hd, _, hw⟩ := DataW.trod_int Tryd.underlying41 t3
  have h3 : cs.length = 4 := h1
  match cs, h3 with
  | [c0, c1, c2, c3], _ =>
    simp only [List.getElem?_cons_zero, List.getElem?_cons_succ, Option.some.injEq] at g0 g1 g2 g3
    cases g0; cases g1; cases g2; cases g3
    cases ha; cases hb; cases hc; cases hd
    exact ⟨⟨a, b, c, d⟩, rfl, wf_u64 hw⟩
theorem open_evs {r : Reach} {b0 : Nat} {v : Value} {d : DataW H} {ps : List MemPlace} (hok : Value.okWide Tryd.prog w r b0 22 v) (hd : DataW.Trod enc Tryd.prog w 0 (fun _ => true) true 22 v d ps) :
    ∃ l : List Ev, (∀ e ∈ l, e.Ok) ∧ l.length ≤ maxLen ∧ ArgRow w v l.length (evs l) :=
  open_rows (ea := Ev.cells) Tryd.underlying22 (by rw [cells43]; omega) (fun x => cells43.symm) (fun _ _ _ h => ev_cells h) hok hd
end
end YtmhkpababjdnbaaDoor
end Go.Proofs
