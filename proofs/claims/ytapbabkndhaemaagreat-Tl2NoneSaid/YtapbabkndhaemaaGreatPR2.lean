/-
  TL2: Begin, Ask. (Printed by tools/genask_t.py.)
-/
import Derived.Test.YtapbabkndhaemaaGreatPR1
set_option linter.unusedSimpArgs false
set_option linter.unusedVariables false
set_option linter.unnecessarySimpa false
set_option linter.unusedSectionVars false
namespace Go.Proofs
namespace YtapbabkndhaemaaGreat
open Go.Abs
def tblUb : List (FuncId × CStep GD) := [(49, st49), (47, st47), (48, st48)]
theorem tblUb_ok : ∀ x ∈ tblUb, CStepOk Tryz.prog cfg x.1 x.2 := by simp [tblUb, st49_ok, st47_ok, st48_ok]
set_option maxRecDepth 10000 in
set_option maxHeartbeats 4000000 in
theorem runs_tbegin (s : TS) (hs : s.Ok) (hev : s.ev.length ≤ 100000) (th : Nat) (hth : th < 4) (hc : tbeginC s th = 0) : Runs Tryz.prog cfg 13 [.pointer (some ⟨0, 0, none⟩), .int .i64 th] (AH.of [some (.hi (.teng s))])
    fun r H' => r = .ret (.tuple #[.int .i64 s.ft.length, .int .i64 0]) ∧ H' = AH.of [some (.hi (.teng (tbeginS s th)))] := by
  refine Runs.ends ?_
  have h1 : s.ts th = none := by
    unfold tbeginC at hc
    split at hc
    · cases hc
    · rename_i h; simpa using h
  have h2 : s.ft.length < 64 := by
    unfold tbeginC at hc
    split at hc
    · cases hc
    · split at hc
      · cases hc
      · omega
  refine Runs.openTEng hth ?_
  have z1 : ¬ (th : Int) < 0 := by omega
  have z2 : ¬ 4 ≤ (th : Int) := by omega
  have z3 : (th : Int) < 4 := by omega
  have z4 : 2 + th + 1 ≤ 8 := by omega
  have gt : ∀ a b q ts x y, (tengC a b th q ts x y)[2 + th]? = some q := fun a b q ts x y => tengC_t a b hth q ts x y
  have gg : ∀ a b q ts x y (h : 2 + th < (tengC a b th q ts x y).length), (tengC a b th q ts x y)[2 + th]'h = q := fun a b q ts x y h => tengC_gt a b hth q ts x y h
  have gs : ∀ a b q ts x y v, (tengC a b th q ts x y).set (2 + th) v = tengC a b th v ts x y := fun a b q ts x y v => tengC_st a b hth q ts x y v
  have hg := hs.tab
  have hcr := hg.c0
  have hcr1 := hg.c1
  have hw1 : IntKind.u64.wrap (2 * s.c) = 2 * s.c := wrap_u64 (by omega) (by omega)
  have hw : IntKind.u64.wrap (2 * s.c + 1) = 2 * s.c + 1 := wrap_u64 (by omega) (by omega)
  have hk1 : ¬ (64 : Int) ≤ s.ft.length := by omega
  have hkl : (s.ft.length + 1) * 24 ≤ 140737488355328 ∧ s.ft.length ≤ 9223372036854775806 := by omega
  have hel : (s.ev.length + 1) * 32 ≤ 140737488355328 ∧ s.ev.length ≤ 9223372036854775806 := by omega
  have t1 := take_fates s.ft
  have t3 := take_evs s.ev
  refine runs_by (tbl := tblUb) tblUb_ok 0 3 (af := a13) rfl ?_
  rw [a13, b13, run_eq]
  refine ⟨by simp, ?_⟩
  simp (implicitDefEqProofs := false) [tengL, tblUb, st49, st47, st48, forms46, a46, b46, forms50, a50, b50, z1, z2, z3, z4, gt, gg, gs, tengC_0, tengC_1, tengC_6, tengC_7, tengC_g0, tengC_g1, tengC_g6, tengC_g7, tengC_s6, tengC_s7, tengC_len, h1, teptr_some, teptr_none, tslotO_none, hg, hk1, hw1, hw, hkl, hel, t1, t3, fates_length, evs_length]
  rcases tth_cases hth with rfl | rfl | rfl | rfl
  · refine ends_plan [.pack (GD.tatt (newTA s.ft.length s.c)) 11 [9, 10], .pack (GD.teng (tbeginS s 0)) 0 [1, 2, 16, 13, 11, 6, 7, 8]] [0] ?_ ?_ ?_ <;> simp [frag_tatt, frag_teng, newTA, tbeginS, setU, tslotO_some, tengC, tps, teptr_some, teptr_none, h1, fates_append, fates_single, evs_append, evs_single, u1, u2, u3]
  · refine ends_plan [.pack (GD.tatt (newTA s.ft.length s.c)) 11 [9, 10], .pack (GD.teng (tbeginS s 1)) 0 [1, 2, 16, 13, 6, 11, 7, 8]] [0] ?_ ?_ ?_ <;> simp [frag_tatt, frag_teng, newTA, tbeginS, setU, tslotO_some, tengC, tps, teptr_some, teptr_none, h1, fates_append, fates_single, evs_append, evs_single, u1, u2, u3]
  · refine ends_plan [.pack (GD.tatt (newTA s.ft.length s.c)) 11 [9, 10], .pack (GD.teng (tbeginS s 2)) 0 [1, 2, 16, 13, 6, 7, 11, 8]] [0] ?_ ?_ ?_ <;> simp [frag_tatt, frag_teng, newTA, tbeginS, setU, tslotO_some, tengC, tps, teptr_some, teptr_none, h1, fates_append, fates_single, evs_append, evs_single, u1, u2, u3]
  · refine ends_plan [.pack (GD.tatt (newTA s.ft.length s.c)) 11 [9, 10], .pack (GD.teng (tbeginS s 3)) 0 [1, 2, 16, 13, 6, 7, 8, 11]] [0] ?_ ?_ ?_ <;> simp [frag_tatt, frag_teng, newTA, tbeginS, setU, tslotO_some, tengC, tps, teptr_some, teptr_none, h1, fates_append, fates_single, evs_append, evs_single, u1, u2, u3]
set_option maxHeartbeats 4000000 in
theorem runs_tbegin_no (s : TS) (hs : s.Ok) (th : Nat) (hth : th < 4) (hc : tbeginC s th ≠ 0) : Runs Tryz.prog cfg 13 [.pointer (some ⟨0, 0, none⟩), .int .i64 th] (AH.of [some (.hi (.teng s))])
    fun r H' => r = .ret (.tuple #[.int .i64 0, .int .i64 (tbeginC s th)]) ∧ H' = AH.of [some (.hi (.teng s))] := by
  refine Runs.ends ?_
  refine Runs.openTEng hth ?_
  have z1 : ¬ (th : Int) < 0 := by omega
  have z2 : ¬ 4 ≤ (th : Int) := by omega
  have z3 : (th : Int) < 4 := by omega
  have gt : ∀ a b q ts x y, (tengC a b th q ts x y)[2 + th]? = some q := fun a b q ts x y => tengC_t a b hth q ts x y
  have gg : ∀ a b q ts x y (h : 2 + th < (tengC a b th q ts x y).length), (tengC a b th q ts x y)[2 + th]'h = q := fun a b q ts x y h => tengC_gt a b hth q ts x y h
  unfold tbeginC at hc ⊢
  cases h1 : s.ts th with
  | some a =>
    refine runs_by (tbl := tblUb) tblUb_ok 0 3 (af := a13) rfl ?_
    rw [a13, b13, run_eq]
    refine ⟨by simp, ?_⟩
    simp (implicitDefEqProofs := false) [tengL, forms46, a46, b46, z1, z2, z3, gt, gg, h1, teptr_some, teptr_none]
    rcases tth_cases hth with rfl | rfl | rfl | rfl
    · refine ends_plan [.pack (GD.teng s) 0 [1, 2, 3, 4, 5, 6, 7, 8]] [0] ?_ ?_ ?_ <;> simp [frag_teng, h1, tengC, tps, teptr_some, teptr_none, u1, u2, u3]
    · refine ends_plan [.pack (GD.teng s) 0 [1, 2, 3, 4, 6, 5, 7, 8]] [0] ?_ ?_ ?_ <;> simp [frag_teng, h1, tengC, tps, teptr_some, teptr_none, u1, u2, u3]
    · refine ends_plan [.pack (GD.teng s) 0 [1, 2, 3, 4, 6, 7, 5, 8]] [0] ?_ ?_ ?_ <;> simp [frag_teng, h1, tengC, tps, teptr_some, teptr_none, u1, u2, u3]
    · refine ends_plan [.pack (GD.teng s) 0 [1, 2, 3, 4, 6, 7, 8, 5]] [0] ?_ ?_ ?_ <;> simp [frag_teng, h1, tengC, tps, teptr_some, teptr_none, u1, u2, u3]
  | none =>
    by_cases h2 : 64 ≤ s.ft.length
    · have h2' : (64 : Int) ≤ s.ft.length := by omega
      refine runs_by (tbl := tblUb) tblUb_ok 0 3 (af := a13) rfl ?_
      rw [a13, b13, run_eq]
      refine ⟨by simp, ?_⟩
      simp (implicitDefEqProofs := false) [tengL, forms46, a46, b46, z1, z2, z3, gt, gg, tengC_7, h1, teptr_some, teptr_none, h2, h2']
      rcases tth_cases hth with rfl | rfl | rfl | rfl
      · refine ends_plan [.pack (GD.teng s) 0 [1, 2, 3, 4, 5, 6, 7, 8]] [0] ?_ ?_ ?_ <;> simp [frag_teng, h1, tengC, tps, teptr_some, teptr_none, u1, u2, u3]
      · refine ends_plan [.pack (GD.teng s) 0 [1, 2, 3, 4, 6, 5, 7, 8]] [0] ?_ ?_ ?_ <;> simp [frag_teng, h1, tengC, tps, teptr_some, teptr_none, u1, u2, u3]
      · refine ends_plan [.pack (GD.teng s) 0 [1, 2, 3, 4, 6, 7, 5, 8]] [0] ?_ ?_ ?_ <;> simp [frag_teng, h1, tengC, tps, teptr_some, teptr_none, u1, u2, u3]
      · refine ends_plan [.pack (GD.teng s) 0 [1, 2, 3, 4, 6, 7, 8, 5]] [0] ?_ ?_ ?_ <;> simp [frag_teng, h1, tengC, tps, teptr_some, teptr_none, u1, u2, u3]
    · simp [h1, h2] at hc
theorem runs_tbegin_range (d : GD) (t : Int) (ht : t < 0 ∨ 4 ≤ t) : Runs Tryz.prog cfg 13 [.pointer (some ⟨0, 0, none⟩), .int .i64 t] (AH.of [some (.hi d)])
    fun r H' => r = .ret (.tuple #[.int .i64 0, .int .i64 2]) ∧ H' = AH.of [some (.hi d)] := by
  refine Runs.ends ?_
  have ht' : ¬ t < 0 → 4 ≤ t := fun h => by omega
  refine runs_by (tbl := []) (by simp) 0 3 (af := a13) rfl ?_
  rw [a13, b13, run_eq]
  refine ⟨by simp, ?_⟩
  by_cases h1 : t < 0
  · simp (implicitDefEqProofs := false) [forms46, a46, b46, h1]
    refine ends_plan [] [0] ?_ ?_ ?_ <;> simp
  · simp (implicitDefEqProofs := false) [forms46, a46, b46, h1, ht' h1]
    refine ends_plan [] [0] ?_ ?_ ?_ <;> simp
def uthOf (t : Int) : Option Nat := if t < 0 ∨ 4 ≤ t then none else some t.toNat
theorem uthOf_none {t : Int} (h : uthOf t = none) : t < 0 ∨ 4 ≤ t := by
  unfold uthOf at h
  split at h
  · assumption
  · cases h
theorem uthOf_some {t : Int} {th : Nat} (h : uthOf t = some th) : th < 4 ∧ t = (th : Int) := by
  unfold uthOf at h
  split at h
  · cases h
  · cases h; omega
def tbeginR (s : TS) (t : Int) : Value := match uthOf t with
  | none => .tuple #[.int .i64 0, .int .i64 2]
  | some th => if tbeginC s th = 0 then .tuple #[.int .i64 s.ft.length, .int .i64 0] else .tuple #[.int .i64 0, .int .i64 (tbeginC s th)]
def tbeginX (s : TS) (t : Int) : TS := match uthOf t with
  | none => s
  | some th => if tbeginC s th = 0 then tbeginS s th else s
def d13 : DStep
  | .teng s, [.int .i64 t] => some (s.Ok ∧ s.ev.length ≤ 100000, tbeginR s t, .teng (tbeginX s t))
  | _, _ => none
theorem st13_ok : CStepOk Tryz.prog cfg 13 (dataSt d13) := data_ok fun d rest p v d' h hp => by
  unfold d13 at h
  split at h
  case h_2 => cases h
  rename_i s t
  cases h
  cases ht : uthOf t with
  | none => simp only [tbeginR, tbeginX, ht]; exact ⟨rfl, rfl, runs_tbegin_range _ _ (uthOf_none ht)⟩
  | some th =>
    obtain ⟨h1, rfl⟩ := uthOf_some ht
    simp only [tbeginR, tbeginX, ht]
    by_cases hc : tbeginC s th = 0
    · rw [if_pos hc, if_pos hc]; exact ⟨rfl, rfl, runs_tbegin s hp.1 hp.2 th h1 hc⟩
    · rw [if_neg hc, if_neg hc]; exact ⟨rfl, rfl, runs_tbegin_no s hp.1 th h1 hc⟩
def tblUw : List (FuncId × CStep GD) := [(107, dataSt d107), (43, st43)]
theorem tblUw_ok : ∀ x ∈ tblUw, CStepOk Tryz.prog cfg x.1 x.2 := by simp [tblUw, st107_ok, st43_ok]
set_option maxRecDepth 10000 in
set_option maxHeartbeats 4000000 in
theorem task_0 (s : TS) (hs : s.Ok) (th : Nat) (hth : th < 4) (a : TA) (ha : s.ts th = some a) (hf : a.ra.k = 0) (t v : Int) : Runs Tryz.prog cfg 14 [.pointer (some ⟨0, 0, none⟩), .int .i64 th, .agg #[.int .u8 0, .int .i64 t, .int .u64 v]] (AH.of [some (.hi (.teng s))])
    fun r H' => r = .ret (.int .i64 2) ∧ H' = AH.of [some (.hi (.teng s))] := by
  refine Runs.ends ?_
  refine Runs.openTEng hth ?_
  have z1 : ¬ (th : Int) < 0 := by omega
  have z2 : ¬ 4 ≤ (th : Int) := by omega
  have z3 : (th : Int) < 4 := by omega
  have gt : ∀ a b q ts x y, (tengC a b th q ts x y)[2 + th]? = some q := fun a b q ts x y => tengC_t a b hth q ts x y
  have gg : ∀ a b q ts x y (h : 2 + th < (tengC a b th q ts x y).length), (tengC a b th q ts x y)[2 + th]'h = q := fun a b q ts x y h => tengC_gt a b hth q ts x y h
  obtain ⟨dp, hdp⟩ : ∃ dp, (a.fs.length : Int) - 1 = dp := ⟨_, rfl⟩
  refine runs_by (tbl := tblUw) tblUw_ok 0 3 (af := a14) rfl ?_
  rw [a14, b14, run_eq]
  refine ⟨by simp, ?_⟩
  simp (implicitDefEqProofs := false) [tengL, tblUw, dataSt, d107, st43, forms46, a46, b46, forms52, a52, b52, forms51, a51, b51, z1, z2, z3, gt, gg, tengC_1, ha, teptr_some, teptr_none, tslotO_some, frag_tatt, hf, hdp, ]
  rcases tth_cases hth with rfl | rfl | rfl | rfl
  · refine ends_plan [.pack (GD.tatt a) 5 [10, 11], .pack (GD.teng s) 0 [1, 2, 3, 4, 5, 6, 7, 8]] [0] ?_ ?_ ?_ <;> simp [frag_tatt, frag_teng, tengC, tps, teptr_some, teptr_none, hf, ha, tslotO_some, hdp, u1, u2, u3]
  · refine ends_plan [.pack (GD.tatt a) 5 [10, 11], .pack (GD.teng s) 0 [1, 2, 3, 4, 6, 5, 7, 8]] [0] ?_ ?_ ?_ <;> simp [frag_tatt, frag_teng, tengC, tps, teptr_some, teptr_none, hf, ha, tslotO_some, hdp, u1, u2, u3]
  · refine ends_plan [.pack (GD.tatt a) 5 [10, 11], .pack (GD.teng s) 0 [1, 2, 3, 4, 6, 7, 5, 8]] [0] ?_ ?_ ?_ <;> simp [frag_tatt, frag_teng, tengC, tps, teptr_some, teptr_none, hf, ha, tslotO_some, hdp, u1, u2, u3]
  · refine ends_plan [.pack (GD.tatt a) 5 [10, 11], .pack (GD.teng s) 0 [1, 2, 3, 4, 6, 7, 8, 5]] [0] ?_ ?_ ?_ <;> simp [frag_tatt, frag_teng, tengC, tps, teptr_some, teptr_none, hf, ha, tslotO_some, hdp, u1, u2, u3]
set_option maxRecDepth 10000 in
set_option maxHeartbeats 4000000 in
theorem task_9 (s : TS) (hs : s.Ok) (th : Nat) (hth : th < 4) (a : TA) (ha : s.ts th = some a) (hf : a.ra.k = 0) (k : Int) (hk : 7 < k) (t v : Int) : Runs Tryz.prog cfg 14 [.pointer (some ⟨0, 0, none⟩), .int .i64 th, .agg #[.int .u8 k, .int .i64 t, .int .u64 v]] (AH.of [some (.hi (.teng s))])
    fun r H' => r = .ret (.int .i64 2) ∧ H' = AH.of [some (.hi (.teng s))] := by
  refine Runs.ends ?_
  refine Runs.openTEng hth ?_
  have z1 : ¬ (th : Int) < 0 := by omega
  have z2 : ¬ 4 ≤ (th : Int) := by omega
  have z3 : (th : Int) < 4 := by omega
  have gt : ∀ a b q ts x y, (tengC a b th q ts x y)[2 + th]? = some q := fun a b q ts x y => tengC_t a b hth q ts x y
  have gg : ∀ a b q ts x y (h : 2 + th < (tengC a b th q ts x y).length), (tengC a b th q ts x y)[2 + th]'h = q := fun a b q ts x y h => tengC_gt a b hth q ts x y h
  obtain ⟨dp, hdp⟩ : ∃ dp, (a.fs.length : Int) - 1 = dp := ⟨_, rfl⟩
  have k0 : ¬ k = 0 := by omega
  have k1 : ¬ k = 1 := by omega
  have k2 : ¬ k = 2 := by omega
  have k7 : 7 < k := hk
  have k3 : ¬ k = 3 := by omega
  have k4 : ¬ k = 4 := by omega
  have k5 : ¬ k = 5 := by omega
  have k6 : ¬ k = 6 := by omega
  have k8 : ¬ k = 7 := by omega
  clear hk
  refine runs_by (tbl := tblUw) tblUw_ok 0 3 (af := a14) rfl ?_
  rw [a14, b14, run_eq]
  refine ⟨by simp, ?_⟩
  simp (implicitDefEqProofs := false) [tengL, tblUw, dataSt, d107, st43, forms46, a46, b46, forms52, a52, b52, forms51, a51, b51, z1, z2, z3, gt, gg, tengC_1, ha, teptr_some, teptr_none, tslotO_some, frag_tatt, hf, hdp, k0, k1, k2, k3, k4, k5, k6, k7, k8]
  rcases tth_cases hth with rfl | rfl | rfl | rfl
  · refine ends_plan [.pack (GD.tatt a) 5 [10, 11], .pack (GD.teng s) 0 [1, 2, 3, 4, 5, 6, 7, 8]] [0] ?_ ?_ ?_ <;> simp [frag_tatt, frag_teng, tengC, tps, teptr_some, teptr_none, hf, ha, tslotO_some, hdp, u1, u2, u3]
  · refine ends_plan [.pack (GD.tatt a) 5 [10, 11], .pack (GD.teng s) 0 [1, 2, 3, 4, 6, 5, 7, 8]] [0] ?_ ?_ ?_ <;> simp [frag_tatt, frag_teng, tengC, tps, teptr_some, teptr_none, hf, ha, tslotO_some, hdp, u1, u2, u3]
  · refine ends_plan [.pack (GD.tatt a) 5 [10, 11], .pack (GD.teng s) 0 [1, 2, 3, 4, 6, 7, 5, 8]] [0] ?_ ?_ ?_ <;> simp [frag_tatt, frag_teng, tengC, tps, teptr_some, teptr_none, hf, ha, tslotO_some, hdp, u1, u2, u3]
  · refine ends_plan [.pack (GD.tatt a) 5 [10, 11], .pack (GD.teng s) 0 [1, 2, 3, 4, 6, 7, 8, 5]] [0] ?_ ?_ ?_ <;> simp [frag_tatt, frag_teng, tengC, tps, teptr_some, teptr_none, hf, ha, tslotO_some, hdp, u1, u2, u3]
set_option maxRecDepth 10000 in
set_option maxHeartbeats 4000000 in
theorem task_1n (s : TS) (hs : s.Ok) (th : Nat) (hth : th < 4) (a : TA) (ha : s.ts th = some a) (hf : a.ra.k = 0) (t v : Int) (ht : t < 0) : Runs Tryz.prog cfg 14 [.pointer (some ⟨0, 0, none⟩), .int .i64 th, .agg #[.int .u8 1, .int .i64 t, .int .u64 v]] (AH.of [some (.hi (.teng s))])
    fun r H' => r = .ret (.int .i64 2) ∧ H' = AH.of [some (.hi (.teng s))] := by
  refine Runs.ends ?_
  refine Runs.openTEng hth ?_
  have z1 : ¬ (th : Int) < 0 := by omega
  have z2 : ¬ 4 ≤ (th : Int) := by omega
  have z3 : (th : Int) < 4 := by omega
  have gt : ∀ a b q ts x y, (tengC a b th q ts x y)[2 + th]? = some q := fun a b q ts x y => tengC_t a b hth q ts x y
  have gg : ∀ a b q ts x y (h : 2 + th < (tengC a b th q ts x y).length), (tengC a b th q ts x y)[2 + th]'h = q := fun a b q ts x y h => tengC_gt a b hth q ts x y h
  obtain ⟨dp, hdp⟩ : ∃ dp, (a.fs.length : Int) - 1 = dp := ⟨_, rfl⟩
  have t1 : t < 0 := ht
  refine runs_by (tbl := tblUw) tblUw_ok 0 3 (af := a14) rfl ?_
  rw [a14, b14, run_eq]
  refine ⟨by simp, ?_⟩
  simp (implicitDefEqProofs := false) [tengL, tblUw, dataSt, d107, st43, forms46, a46, b46, forms52, a52, b52, forms51, a51, b51, z1, z2, z3, gt, gg, tengC_1, ha, teptr_some, teptr_none, tslotO_some, frag_tatt, hf, hdp, t1]
  rcases tth_cases hth with rfl | rfl | rfl | rfl
  · refine ends_plan [.pack (GD.tatt a) 5 [10, 11], .pack (GD.teng s) 0 [1, 2, 3, 4, 5, 6, 7, 8]] [0] ?_ ?_ ?_ <;> simp [frag_tatt, frag_teng, tengC, tps, teptr_some, teptr_none, hf, ha, tslotO_some, hdp, u1, u2, u3]
  · refine ends_plan [.pack (GD.tatt a) 5 [10, 11], .pack (GD.teng s) 0 [1, 2, 3, 4, 6, 5, 7, 8]] [0] ?_ ?_ ?_ <;> simp [frag_tatt, frag_teng, tengC, tps, teptr_some, teptr_none, hf, ha, tslotO_some, hdp, u1, u2, u3]
  · refine ends_plan [.pack (GD.tatt a) 5 [10, 11], .pack (GD.teng s) 0 [1, 2, 3, 4, 6, 7, 5, 8]] [0] ?_ ?_ ?_ <;> simp [frag_tatt, frag_teng, tengC, tps, teptr_some, teptr_none, hf, ha, tslotO_some, hdp, u1, u2, u3]
  · refine ends_plan [.pack (GD.tatt a) 5 [10, 11], .pack (GD.teng s) 0 [1, 2, 3, 4, 6, 7, 8, 5]] [0] ?_ ?_ ?_ <;> simp [frag_tatt, frag_teng, tengC, tps, teptr_some, teptr_none, hf, ha, tslotO_some, hdp, u1, u2, u3]
set_option maxRecDepth 10000 in
set_option maxHeartbeats 4000000 in
theorem task_1h (s : TS) (hs : s.Ok) (th : Nat) (hth : th < 4) (a : TA) (ha : s.ts th = some a) (hf : a.ra.k = 0) (t v : Int) (ht : 0 ≤ t ∧ (s.hp.length : Int) ≤ t) : Runs Tryz.prog cfg 14 [.pointer (some ⟨0, 0, none⟩), .int .i64 th, .agg #[.int .u8 1, .int .i64 t, .int .u64 v]] (AH.of [some (.hi (.teng s))])
    fun r H' => r = .ret (.int .i64 2) ∧ H' = AH.of [some (.hi (.teng s))] := by
  refine Runs.ends ?_
  refine Runs.openTEng hth ?_
  have z1 : ¬ (th : Int) < 0 := by omega
  have z2 : ¬ 4 ≤ (th : Int) := by omega
  have z3 : (th : Int) < 4 := by omega
  have gt : ∀ a b q ts x y, (tengC a b th q ts x y)[2 + th]? = some q := fun a b q ts x y => tengC_t a b hth q ts x y
  have gg : ∀ a b q ts x y (h : 2 + th < (tengC a b th q ts x y).length), (tengC a b th q ts x y)[2 + th]'h = q := fun a b q ts x y h => tengC_gt a b hth q ts x y h
  obtain ⟨dp, hdp⟩ : ∃ dp, (a.fs.length : Int) - 1 = dp := ⟨_, rfl⟩
  have t1 : ¬ t < 0 := by omega
  have t2 : (s.hp.length : Int) ≤ t := ht.2
  refine runs_by (tbl := tblUw) tblUw_ok 0 3 (af := a14) rfl ?_
  rw [a14, b14, run_eq]
  refine ⟨by simp, ?_⟩
  simp (implicitDefEqProofs := false) [tengL, tblUw, dataSt, d107, st43, forms46, a46, b46, forms52, a52, b52, forms51, a51, b51, z1, z2, z3, gt, gg, tengC_1, ha, teptr_some, teptr_none, tslotO_some, frag_tatt, hf, hdp, t1, t2]
  rcases tth_cases hth with rfl | rfl | rfl | rfl
  · refine ends_plan [.pack (GD.tatt a) 5 [10, 11], .pack (GD.teng s) 0 [1, 2, 3, 4, 5, 6, 7, 8]] [0] ?_ ?_ ?_ <;> simp [frag_tatt, frag_teng, tengC, tps, teptr_some, teptr_none, hf, ha, tslotO_some, hdp, u1, u2, u3]
  · refine ends_plan [.pack (GD.tatt a) 5 [10, 11], .pack (GD.teng s) 0 [1, 2, 3, 4, 6, 5, 7, 8]] [0] ?_ ?_ ?_ <;> simp [frag_tatt, frag_teng, tengC, tps, teptr_some, teptr_none, hf, ha, tslotO_some, hdp, u1, u2, u3]
  · refine ends_plan [.pack (GD.tatt a) 5 [10, 11], .pack (GD.teng s) 0 [1, 2, 3, 4, 6, 7, 5, 8]] [0] ?_ ?_ ?_ <;> simp [frag_tatt, frag_teng, tengC, tps, teptr_some, teptr_none, hf, ha, tslotO_some, hdp, u1, u2, u3]
  · refine ends_plan [.pack (GD.tatt a) 5 [10, 11], .pack (GD.teng s) 0 [1, 2, 3, 4, 6, 7, 8, 5]] [0] ?_ ?_ ?_ <;> simp [frag_tatt, frag_teng, tengC, tps, teptr_some, teptr_none, hf, ha, tslotO_some, hdp, u1, u2, u3]
set_option maxRecDepth 10000 in
set_option maxHeartbeats 4000000 in
theorem task_2n (s : TS) (hs : s.Ok) (th : Nat) (hth : th < 4) (a : TA) (ha : s.ts th = some a) (hf : a.ra.k = 0) (t v : Int) (ht : t < 0) : Runs Tryz.prog cfg 14 [.pointer (some ⟨0, 0, none⟩), .int .i64 th, .agg #[.int .u8 2, .int .i64 t, .int .u64 v]] (AH.of [some (.hi (.teng s))])
    fun r H' => r = .ret (.int .i64 2) ∧ H' = AH.of [some (.hi (.teng s))] := by
  refine Runs.ends ?_
  refine Runs.openTEng hth ?_
  have z1 : ¬ (th : Int) < 0 := by omega
  have z2 : ¬ 4 ≤ (th : Int) := by omega
  have z3 : (th : Int) < 4 := by omega
  have gt : ∀ a b q ts x y, (tengC a b th q ts x y)[2 + th]? = some q := fun a b q ts x y => tengC_t a b hth q ts x y
  have gg : ∀ a b q ts x y (h : 2 + th < (tengC a b th q ts x y).length), (tengC a b th q ts x y)[2 + th]'h = q := fun a b q ts x y h => tengC_gt a b hth q ts x y h
  obtain ⟨dp, hdp⟩ : ∃ dp, (a.fs.length : Int) - 1 = dp := ⟨_, rfl⟩
  have t1 : t < 0 := ht
  refine runs_by (tbl := tblUw) tblUw_ok 0 3 (af := a14) rfl ?_
  rw [a14, b14, run_eq]
  refine ⟨by simp, ?_⟩
  simp (implicitDefEqProofs := false) [tengL, tblUw, dataSt, d107, st43, forms46, a46, b46, forms52, a52, b52, forms51, a51, b51, z1, z2, z3, gt, gg, tengC_1, ha, teptr_some, teptr_none, tslotO_some, frag_tatt, hf, hdp, t1]
  rcases tth_cases hth with rfl | rfl | rfl | rfl
  · refine ends_plan [.pack (GD.tatt a) 5 [10, 11], .pack (GD.teng s) 0 [1, 2, 3, 4, 5, 6, 7, 8]] [0] ?_ ?_ ?_ <;> simp [frag_tatt, frag_teng, tengC, tps, teptr_some, teptr_none, hf, ha, tslotO_some, hdp, u1, u2, u3]
  · refine ends_plan [.pack (GD.tatt a) 5 [10, 11], .pack (GD.teng s) 0 [1, 2, 3, 4, 6, 5, 7, 8]] [0] ?_ ?_ ?_ <;> simp [frag_tatt, frag_teng, tengC, tps, teptr_some, teptr_none, hf, ha, tslotO_some, hdp, u1, u2, u3]
  · refine ends_plan [.pack (GD.tatt a) 5 [10, 11], .pack (GD.teng s) 0 [1, 2, 3, 4, 6, 7, 5, 8]] [0] ?_ ?_ ?_ <;> simp [frag_tatt, frag_teng, tengC, tps, teptr_some, teptr_none, hf, ha, tslotO_some, hdp, u1, u2, u3]
  · refine ends_plan [.pack (GD.tatt a) 5 [10, 11], .pack (GD.teng s) 0 [1, 2, 3, 4, 6, 7, 8, 5]] [0] ?_ ?_ ?_ <;> simp [frag_tatt, frag_teng, tengC, tps, teptr_some, teptr_none, hf, ha, tslotO_some, hdp, u1, u2, u3]
set_option maxRecDepth 10000 in
set_option maxHeartbeats 4000000 in
theorem task_2h (s : TS) (hs : s.Ok) (th : Nat) (hth : th < 4) (a : TA) (ha : s.ts th = some a) (hf : a.ra.k = 0) (t v : Int) (ht : 0 ≤ t ∧ (s.hp.length : Int) ≤ t) : Runs Tryz.prog cfg 14 [.pointer (some ⟨0, 0, none⟩), .int .i64 th, .agg #[.int .u8 2, .int .i64 t, .int .u64 v]] (AH.of [some (.hi (.teng s))])
    fun r H' => r = .ret (.int .i64 2) ∧ H' = AH.of [some (.hi (.teng s))] := by
  refine Runs.ends ?_
  refine Runs.openTEng hth ?_
  have z1 : ¬ (th : Int) < 0 := by omega
  have z2 : ¬ 4 ≤ (th : Int) := by omega
  have z3 : (th : Int) < 4 := by omega
  have gt : ∀ a b q ts x y, (tengC a b th q ts x y)[2 + th]? = some q := fun a b q ts x y => tengC_t a b hth q ts x y
  have gg : ∀ a b q ts x y (h : 2 + th < (tengC a b th q ts x y).length), (tengC a b th q ts x y)[2 + th]'h = q := fun a b q ts x y h => tengC_gt a b hth q ts x y h
  obtain ⟨dp, hdp⟩ : ∃ dp, (a.fs.length : Int) - 1 = dp := ⟨_, rfl⟩
  have t1 : ¬ t < 0 := by omega
  have t2 : (s.hp.length : Int) ≤ t := ht.2
  refine runs_by (tbl := tblUw) tblUw_ok 0 3 (af := a14) rfl ?_
  rw [a14, b14, run_eq]
  refine ⟨by simp, ?_⟩
  simp (implicitDefEqProofs := false) [tengL, tblUw, dataSt, d107, st43, forms46, a46, b46, forms52, a52, b52, forms51, a51, b51, z1, z2, z3, gt, gg, tengC_1, ha, teptr_some, teptr_none, tslotO_some, frag_tatt, hf, hdp, t1, t2]
  rcases tth_cases hth with rfl | rfl | rfl | rfl
  · refine ends_plan [.pack (GD.tatt a) 5 [10, 11], .pack (GD.teng s) 0 [1, 2, 3, 4, 5, 6, 7, 8]] [0] ?_ ?_ ?_ <;> simp [frag_tatt, frag_teng, tengC, tps, teptr_some, teptr_none, hf, ha, tslotO_some, hdp, u1, u2, u3]
  · refine ends_plan [.pack (GD.tatt a) 5 [10, 11], .pack (GD.teng s) 0 [1, 2, 3, 4, 6, 5, 7, 8]] [0] ?_ ?_ ?_ <;> simp [frag_tatt, frag_teng, tengC, tps, teptr_some, teptr_none, hf, ha, tslotO_some, hdp, u1, u2, u3]
  · refine ends_plan [.pack (GD.tatt a) 5 [10, 11], .pack (GD.teng s) 0 [1, 2, 3, 4, 6, 7, 5, 8]] [0] ?_ ?_ ?_ <;> simp [frag_tatt, frag_teng, tengC, tps, teptr_some, teptr_none, hf, ha, tslotO_some, hdp, u1, u2, u3]
  · refine ends_plan [.pack (GD.tatt a) 5 [10, 11], .pack (GD.teng s) 0 [1, 2, 3, 4, 6, 7, 8, 5]] [0] ?_ ?_ ?_ <;> simp [frag_tatt, frag_teng, tengC, tps, teptr_some, teptr_none, hf, ha, tslotO_some, hdp, u1, u2, u3]
set_option maxRecDepth 10000 in
set_option maxHeartbeats 4000000 in
theorem task_2r (s : TS) (hs : s.Ok) (th : Nat) (hth : th < 4) (a : TA) (ha : s.ts th = some a) (hf : a.ra.k = 0) (t v : Int) (ht : 0 ≤ t ∧ t < s.hp.length) (hv : rightB v = false) : Runs Tryz.prog cfg 14 [.pointer (some ⟨0, 0, none⟩), .int .i64 th, .agg #[.int .u8 2, .int .i64 t, .int .u64 v]] (AH.of [some (.hi (.teng s))])
    fun r H' => r = .ret (.int .i64 3) ∧ H' = AH.of [some (.hi (.teng s))] := by
  refine Runs.ends ?_
  refine Runs.openTEng hth ?_
  have z1 : ¬ (th : Int) < 0 := by omega
  have z2 : ¬ 4 ≤ (th : Int) := by omega
  have z3 : (th : Int) < 4 := by omega
  have gt : ∀ a b q ts x y, (tengC a b th q ts x y)[2 + th]? = some q := fun a b q ts x y => tengC_t a b hth q ts x y
  have gg : ∀ a b q ts x y (h : 2 + th < (tengC a b th q ts x y).length), (tengC a b th q ts x y)[2 + th]'h = q := fun a b q ts x y h => tengC_gt a b hth q ts x y h
  obtain ⟨dp, hdp⟩ : ∃ dp, (a.fs.length : Int) - 1 = dp := ⟨_, rfl⟩
  have t1 : ¬ t < 0 := by omega
  have t2 : ¬ (s.hp.length : Int) ≤ t := by omega
  have r1 : rightB v = false := hv
  refine runs_by (tbl := tblUw) tblUw_ok 0 3 (af := a14) rfl ?_
  rw [a14, b14, run_eq]
  refine ⟨by simp, ?_⟩
  simp (implicitDefEqProofs := false) [tengL, tblUw, dataSt, d107, st43, forms46, a46, b46, forms52, a52, b52, forms51, a51, b51, z1, z2, z3, gt, gg, tengC_1, ha, teptr_some, teptr_none, tslotO_some, frag_tatt, hf, hdp, t1, t2, r1]
  rcases tth_cases hth with rfl | rfl | rfl | rfl
  · refine ends_plan [.pack (GD.tatt a) 5 [10, 11], .pack (GD.teng s) 0 [1, 2, 3, 4, 5, 6, 7, 8]] [0] ?_ ?_ ?_ <;> simp [frag_tatt, frag_teng, tengC, tps, teptr_some, teptr_none, hf, ha, tslotO_some, hdp, u1, u2, u3]
  · refine ends_plan [.pack (GD.tatt a) 5 [10, 11], .pack (GD.teng s) 0 [1, 2, 3, 4, 6, 5, 7, 8]] [0] ?_ ?_ ?_ <;> simp [frag_tatt, frag_teng, tengC, tps, teptr_some, teptr_none, hf, ha, tslotO_some, hdp, u1, u2, u3]
  · refine ends_plan [.pack (GD.tatt a) 5 [10, 11], .pack (GD.teng s) 0 [1, 2, 3, 4, 6, 7, 5, 8]] [0] ?_ ?_ ?_ <;> simp [frag_tatt, frag_teng, tengC, tps, teptr_some, teptr_none, hf, ha, tslotO_some, hdp, u1, u2, u3]
  · refine ends_plan [.pack (GD.tatt a) 5 [10, 11], .pack (GD.teng s) 0 [1, 2, 3, 4, 6, 7, 8, 5]] [0] ?_ ?_ ?_ <;> simp [frag_tatt, frag_teng, tengC, tps, teptr_some, teptr_none, hf, ha, tslotO_some, hdp, u1, u2, u3]
set_option maxRecDepth 10000 in
set_option maxHeartbeats 4000000 in
theorem task_1z (s : TS) (hs : s.Ok) (th : Nat) (hth : th < 4) (a : TA) (ha : s.ts th = some a) (hf : a.ra.k = 0) (t v : Int) (ht : 0 ≤ t ∧ t < s.hp.length) : Runs Tryz.prog cfg 14 [.pointer (some ⟨0, 0, none⟩), .int .i64 th, .agg #[.int .u8 1, .int .i64 t, .int .u64 v]] (AH.of [some (.hi (.teng s))])
    fun r H' => r = .ret (.int .i64 0) ∧ H' = AH.of [some (.hi (.teng (taskS s th ⟨1, t, v⟩)))] := by
  refine Runs.ends ?_
  refine Runs.openTEng hth ?_
  have z1 : ¬ (th : Int) < 0 := by omega
  have z2 : ¬ 4 ≤ (th : Int) := by omega
  have z3 : (th : Int) < 4 := by omega
  have gt : ∀ a b q ts x y, (tengC a b th q ts x y)[2 + th]? = some q := fun a b q ts x y => tengC_t a b hth q ts x y
  have gg : ∀ a b q ts x y (h : 2 + th < (tengC a b th q ts x y).length), (tengC a b th q ts x y)[2 + th]'h = q := fun a b q ts x y h => tengC_gt a b hth q ts x y h
  obtain ⟨dp, hdp⟩ : ∃ dp, (a.fs.length : Int) - 1 = dp := ⟨_, rfl⟩
  have t1 : ¬ t < 0 := by omega
  have t2 : ¬ (s.hp.length : Int) ≤ t := by omega
  refine runs_by (tbl := tblUw) tblUw_ok 0 3 (af := a14) rfl ?_
  rw [a14, b14, run_eq]
  refine ⟨by simp, ?_⟩
  simp (implicitDefEqProofs := false) [tengL, tblUw, dataSt, d107, st43, forms46, a46, b46, forms52, a52, b52, forms51, a51, b51, z1, z2, z3, gt, gg, tengC_1, ha, teptr_some, teptr_none, tslotO_some, frag_tatt, hf, hdp, t1, t2]
  rcases tth_cases hth with rfl | rfl | rfl | rfl
  · refine ends_plan [.pack (GD.tatt { a with ra := ⟨1, t, v⟩, ph := 0, nx := 0, sw := 0, sv := 0, ss := 0 }) 5 [10, 11], .pack (GD.teng (taskS s 0 ⟨1, t, v⟩)) 0 [1, 2, 3, 4, 5, 6, 7, 8]] [0] ?_ ?_ ?_ <;> simp [taskS, setU, frag_tatt, frag_teng, tengC, tps, teptr_some, teptr_none, hf, ha, tslotO_some, hdp, u1, u2, u3]
  · refine ends_plan [.pack (GD.tatt { a with ra := ⟨1, t, v⟩, ph := 0, nx := 0, sw := 0, sv := 0, ss := 0 }) 5 [10, 11], .pack (GD.teng (taskS s 1 ⟨1, t, v⟩)) 0 [1, 2, 3, 4, 6, 5, 7, 8]] [0] ?_ ?_ ?_ <;> simp [taskS, setU, frag_tatt, frag_teng, tengC, tps, teptr_some, teptr_none, hf, ha, tslotO_some, hdp, u1, u2, u3]
  · refine ends_plan [.pack (GD.tatt { a with ra := ⟨1, t, v⟩, ph := 0, nx := 0, sw := 0, sv := 0, ss := 0 }) 5 [10, 11], .pack (GD.teng (taskS s 2 ⟨1, t, v⟩)) 0 [1, 2, 3, 4, 6, 7, 5, 8]] [0] ?_ ?_ ?_ <;> simp [taskS, setU, frag_tatt, frag_teng, tengC, tps, teptr_some, teptr_none, hf, ha, tslotO_some, hdp, u1, u2, u3]
  · refine ends_plan [.pack (GD.tatt { a with ra := ⟨1, t, v⟩, ph := 0, nx := 0, sw := 0, sv := 0, ss := 0 }) 5 [10, 11], .pack (GD.teng (taskS s 3 ⟨1, t, v⟩)) 0 [1, 2, 3, 4, 6, 7, 8, 5]] [0] ?_ ?_ ?_ <;> simp [taskS, setU, frag_tatt, frag_teng, tengC, tps, teptr_some, teptr_none, hf, ha, tslotO_some, hdp, u1, u2, u3]
set_option maxRecDepth 10000 in
set_option maxHeartbeats 4000000 in
theorem task_2z (s : TS) (hs : s.Ok) (th : Nat) (hth : th < 4) (a : TA) (ha : s.ts th = some a) (hf : a.ra.k = 0) (t v : Int) (ht : 0 ≤ t ∧ t < s.hp.length) (hv : rightB v = true) : Runs Tryz.prog cfg 14 [.pointer (some ⟨0, 0, none⟩), .int .i64 th, .agg #[.int .u8 2, .int .i64 t, .int .u64 v]] (AH.of [some (.hi (.teng s))])
    fun r H' => r = .ret (.int .i64 0) ∧ H' = AH.of [some (.hi (.teng (taskS s th ⟨2, t, v⟩)))] := by
  refine Runs.ends ?_
  refine Runs.openTEng hth ?_
  have z1 : ¬ (th : Int) < 0 := by omega
  have z2 : ¬ 4 ≤ (th : Int) := by omega
  have z3 : (th : Int) < 4 := by omega
  have gt : ∀ a b q ts x y, (tengC a b th q ts x y)[2 + th]? = some q := fun a b q ts x y => tengC_t a b hth q ts x y
  have gg : ∀ a b q ts x y (h : 2 + th < (tengC a b th q ts x y).length), (tengC a b th q ts x y)[2 + th]'h = q := fun a b q ts x y h => tengC_gt a b hth q ts x y h
  obtain ⟨dp, hdp⟩ : ∃ dp, (a.fs.length : Int) - 1 = dp := ⟨_, rfl⟩
  have t1 : ¬ t < 0 := by omega
  have t2 : ¬ (s.hp.length : Int) ≤ t := by omega
  have r1 : rightB v = true := hv
  refine runs_by (tbl := tblUw) tblUw_ok 0 3 (af := a14) rfl ?_
  rw [a14, b14, run_eq]
  refine ⟨by simp, ?_⟩
  simp (implicitDefEqProofs := false) [tengL, tblUw, dataSt, d107, st43, forms46, a46, b46, forms52, a52, b52, forms51, a51, b51, z1, z2, z3, gt, gg, tengC_1, ha, teptr_some, teptr_none, tslotO_some, frag_tatt, hf, hdp, t1, t2, r1]
  rcases tth_cases hth with rfl | rfl | rfl | rfl
  · refine ends_plan [.pack (GD.tatt { a with ra := ⟨2, t, v⟩, ph := 0, nx := 0, sw := 0, sv := 0, ss := 0 }) 5 [10, 11], .pack (GD.teng (taskS s 0 ⟨2, t, v⟩)) 0 [1, 2, 3, 4, 5, 6, 7, 8]] [0] ?_ ?_ ?_ <;> simp [taskS, setU, frag_tatt, frag_teng, tengC, tps, teptr_some, teptr_none, hf, ha, tslotO_some, hdp, u1, u2, u3]
  · refine ends_plan [.pack (GD.tatt { a with ra := ⟨2, t, v⟩, ph := 0, nx := 0, sw := 0, sv := 0, ss := 0 }) 5 [10, 11], .pack (GD.teng (taskS s 1 ⟨2, t, v⟩)) 0 [1, 2, 3, 4, 6, 5, 7, 8]] [0] ?_ ?_ ?_ <;> simp [taskS, setU, frag_tatt, frag_teng, tengC, tps, teptr_some, teptr_none, hf, ha, tslotO_some, hdp, u1, u2, u3]
  · refine ends_plan [.pack (GD.tatt { a with ra := ⟨2, t, v⟩, ph := 0, nx := 0, sw := 0, sv := 0, ss := 0 }) 5 [10, 11], .pack (GD.teng (taskS s 2 ⟨2, t, v⟩)) 0 [1, 2, 3, 4, 6, 7, 5, 8]] [0] ?_ ?_ ?_ <;> simp [taskS, setU, frag_tatt, frag_teng, tengC, tps, teptr_some, teptr_none, hf, ha, tslotO_some, hdp, u1, u2, u3]
  · refine ends_plan [.pack (GD.tatt { a with ra := ⟨2, t, v⟩, ph := 0, nx := 0, sw := 0, sv := 0, ss := 0 }) 5 [10, 11], .pack (GD.teng (taskS s 3 ⟨2, t, v⟩)) 0 [1, 2, 3, 4, 6, 7, 8, 5]] [0] ?_ ?_ ?_ <;> simp [taskS, setU, frag_tatt, frag_teng, tengC, tps, teptr_some, teptr_none, hf, ha, tslotO_some, hdp, u1, u2, u3]
set_option maxRecDepth 10000 in
set_option maxHeartbeats 4000000 in
theorem task_7z (s : TS) (hs : s.Ok) (th : Nat) (hth : th < 4) (a : TA) (ha : s.ts th = some a) (hf : a.ra.k = 0) (t v : Int) : Runs Tryz.prog cfg 14 [.pointer (some ⟨0, 0, none⟩), .int .i64 th, .agg #[.int .u8 7, .int .i64 t, .int .u64 v]] (AH.of [some (.hi (.teng s))])
    fun r H' => r = .ret (.int .i64 0) ∧ H' = AH.of [some (.hi (.teng (taskS s th ⟨7, t, v⟩)))] := by
  refine Runs.ends ?_
  refine Runs.openTEng hth ?_
  have z1 : ¬ (th : Int) < 0 := by omega
  have z2 : ¬ 4 ≤ (th : Int) := by omega
  have z3 : (th : Int) < 4 := by omega
  have gt : ∀ a b q ts x y, (tengC a b th q ts x y)[2 + th]? = some q := fun a b q ts x y => tengC_t a b hth q ts x y
  have gg : ∀ a b q ts x y (h : 2 + th < (tengC a b th q ts x y).length), (tengC a b th q ts x y)[2 + th]'h = q := fun a b q ts x y h => tengC_gt a b hth q ts x y h
  obtain ⟨dp, hdp⟩ : ∃ dp, (a.fs.length : Int) - 1 = dp := ⟨_, rfl⟩
  refine runs_by (tbl := tblUw) tblUw_ok 0 3 (af := a14) rfl ?_
  rw [a14, b14, run_eq]
  refine ⟨by simp, ?_⟩
  simp (implicitDefEqProofs := false) [tengL, tblUw, dataSt, d107, st43, forms46, a46, b46, forms52, a52, b52, forms51, a51, b51, z1, z2, z3, gt, gg, tengC_1, ha, teptr_some, teptr_none, tslotO_some, frag_tatt, hf, hdp, ]
  rcases tth_cases hth with rfl | rfl | rfl | rfl
  · refine ends_plan [.pack (GD.tatt { a with ra := ⟨7, t, v⟩, ph := 0, nx := 0, sw := 0, sv := 0, ss := 0 }) 5 [10, 11], .pack (GD.teng (taskS s 0 ⟨7, t, v⟩)) 0 [1, 2, 3, 4, 5, 6, 7, 8]] [0] ?_ ?_ ?_ <;> simp [taskS, setU, frag_tatt, frag_teng, tengC, tps, teptr_some, teptr_none, hf, ha, tslotO_some, hdp, u1, u2, u3]
  · refine ends_plan [.pack (GD.tatt { a with ra := ⟨7, t, v⟩, ph := 0, nx := 0, sw := 0, sv := 0, ss := 0 }) 5 [10, 11], .pack (GD.teng (taskS s 1 ⟨7, t, v⟩)) 0 [1, 2, 3, 4, 6, 5, 7, 8]] [0] ?_ ?_ ?_ <;> simp [taskS, setU, frag_tatt, frag_teng, tengC, tps, teptr_some, teptr_none, hf, ha, tslotO_some, hdp, u1, u2, u3]
  · refine ends_plan [.pack (GD.tatt { a with ra := ⟨7, t, v⟩, ph := 0, nx := 0, sw := 0, sv := 0, ss := 0 }) 5 [10, 11], .pack (GD.teng (taskS s 2 ⟨7, t, v⟩)) 0 [1, 2, 3, 4, 6, 7, 5, 8]] [0] ?_ ?_ ?_ <;> simp [taskS, setU, frag_tatt, frag_teng, tengC, tps, teptr_some, teptr_none, hf, ha, tslotO_some, hdp, u1, u2, u3]
  · refine ends_plan [.pack (GD.tatt { a with ra := ⟨7, t, v⟩, ph := 0, nx := 0, sw := 0, sv := 0, ss := 0 }) 5 [10, 11], .pack (GD.teng (taskS s 3 ⟨7, t, v⟩)) 0 [1, 2, 3, 4, 6, 7, 8, 5]] [0] ?_ ?_ ?_ <;> simp [taskS, setU, frag_tatt, frag_teng, tengC, tps, teptr_some, teptr_none, hf, ha, tslotO_some, hdp, u1, u2, u3]
set_option maxRecDepth 10000 in
set_option maxHeartbeats 4000000 in
theorem task_3z (s : TS) (hs : s.Ok) (th : Nat) (hth : th < 4) (a : TA) (ha : s.ts th = some a) (hf : a.ra.k = 0) (t v : Int) (hd : a.fs.length = 1) : Runs Tryz.prog cfg 14 [.pointer (some ⟨0, 0, none⟩), .int .i64 th, .agg #[.int .u8 3, .int .i64 t, .int .u64 v]] (AH.of [some (.hi (.teng s))])
    fun r H' => r = .ret (.int .i64 0) ∧ H' = AH.of [some (.hi (.teng (taskS s th ⟨3, t, v⟩)))] := by
  refine Runs.ends ?_
  refine Runs.openTEng hth ?_
  have z1 : ¬ (th : Int) < 0 := by omega
  have z2 : ¬ 4 ≤ (th : Int) := by omega
  have z3 : (th : Int) < 4 := by omega
  have gt : ∀ a b q ts x y, (tengC a b th q ts x y)[2 + th]? = some q := fun a b q ts x y => tengC_t a b hth q ts x y
  have gg : ∀ a b q ts x y (h : 2 + th < (tengC a b th q ts x y).length), (tengC a b th q ts x y)[2 + th]'h = q := fun a b q ts x y h => tengC_gt a b hth q ts x y h
  obtain ⟨dp, hdp⟩ : ∃ dp, (a.fs.length : Int) - 1 = dp := ⟨_, rfl⟩
  have e1 : (dp = 0) = True := eq_true (by omega)
  have e2 : (0 < dp) = False := eq_false (by omega)
  have e3 : (4 ≤ dp) = False := eq_false (by omega)
  refine runs_by (tbl := tblUw) tblUw_ok 0 3 (af := a14) rfl ?_
  rw [a14, b14, run_eq]
  refine ⟨by simp, ?_⟩
  simp (implicitDefEqProofs := false) [tengL, tblUw, dataSt, d107, st43, forms46, a46, b46, forms52, a52, b52, forms51, a51, b51, z1, z2, z3, gt, gg, tengC_1, ha, teptr_some, teptr_none, tslotO_some, frag_tatt, hf, hdp, e1, e2, e3]
  rcases tth_cases hth with rfl | rfl | rfl | rfl
  · refine ends_plan [.pack (GD.tatt { a with ra := ⟨3, t, v⟩, ph := 0, nx := 0, sw := 0, sv := 0, ss := 0 }) 5 [10, 11], .pack (GD.teng (taskS s 0 ⟨3, t, v⟩)) 0 [1, 2, 3, 4, 5, 6, 7, 8]] [0] ?_ ?_ ?_ <;> simp [taskS, setU, frag_tatt, frag_teng, tengC, tps, teptr_some, teptr_none, hf, ha, tslotO_some, hdp, u1, u2, u3]
  · refine ends_plan [.pack (GD.tatt { a with ra := ⟨3, t, v⟩, ph := 0, nx := 0, sw := 0, sv := 0, ss := 0 }) 5 [10, 11], .pack (GD.teng (taskS s 1 ⟨3, t, v⟩)) 0 [1, 2, 3, 4, 6, 5, 7, 8]] [0] ?_ ?_ ?_ <;> simp [taskS, setU, frag_tatt, frag_teng, tengC, tps, teptr_some, teptr_none, hf, ha, tslotO_some, hdp, u1, u2, u3]
  · refine ends_plan [.pack (GD.tatt { a with ra := ⟨3, t, v⟩, ph := 0, nx := 0, sw := 0, sv := 0, ss := 0 }) 5 [10, 11], .pack (GD.teng (taskS s 2 ⟨3, t, v⟩)) 0 [1, 2, 3, 4, 6, 7, 5, 8]] [0] ?_ ?_ ?_ <;> simp [taskS, setU, frag_tatt, frag_teng, tengC, tps, teptr_some, teptr_none, hf, ha, tslotO_some, hdp, u1, u2, u3]
  · refine ends_plan [.pack (GD.tatt { a with ra := ⟨3, t, v⟩, ph := 0, nx := 0, sw := 0, sv := 0, ss := 0 }) 5 [10, 11], .pack (GD.teng (taskS s 3 ⟨3, t, v⟩)) 0 [1, 2, 3, 4, 6, 7, 8, 5]] [0] ?_ ?_ ?_ <;> simp [taskS, setU, frag_tatt, frag_teng, tengC, tps, teptr_some, teptr_none, hf, ha, tslotO_some, hdp, u1, u2, u3]
set_option maxRecDepth 10000 in
set_option maxHeartbeats 4000000 in
theorem task_4z (s : TS) (hs : s.Ok) (th : Nat) (hth : th < 4) (a : TA) (ha : s.ts th = some a) (hf : a.ra.k = 0) (t v : Int) (hd : a.fs.length = 1) : Runs Tryz.prog cfg 14 [.pointer (some ⟨0, 0, none⟩), .int .i64 th, .agg #[.int .u8 4, .int .i64 t, .int .u64 v]] (AH.of [some (.hi (.teng s))])
    fun r H' => r = .ret (.int .i64 8) ∧ H' = AH.of [some (.hi (.teng s))] := by
  refine Runs.ends ?_
  refine Runs.openTEng hth ?_
  have z1 : ¬ (th : Int) < 0 := by omega
  have z2 : ¬ 4 ≤ (th : Int) := by omega
  have z3 : (th : Int) < 4 := by omega
  have gt : ∀ a b q ts x y, (tengC a b th q ts x y)[2 + th]? = some q := fun a b q ts x y => tengC_t a b hth q ts x y
  have gg : ∀ a b q ts x y (h : 2 + th < (tengC a b th q ts x y).length), (tengC a b th q ts x y)[2 + th]'h = q := fun a b q ts x y h => tengC_gt a b hth q ts x y h
  obtain ⟨dp, hdp⟩ : ∃ dp, (a.fs.length : Int) - 1 = dp := ⟨_, rfl⟩
  have e1 : (dp = 0) = True := eq_true (by omega)
  have e2 : (0 < dp) = False := eq_false (by omega)
  have e3 : (4 ≤ dp) = False := eq_false (by omega)
  refine runs_by (tbl := tblUw) tblUw_ok 0 3 (af := a14) rfl ?_
  rw [a14, b14, run_eq]
  refine ⟨by simp, ?_⟩
  simp (implicitDefEqProofs := false) [tengL, tblUw, dataSt, d107, st43, forms46, a46, b46, forms52, a52, b52, forms51, a51, b51, z1, z2, z3, gt, gg, tengC_1, ha, teptr_some, teptr_none, tslotO_some, frag_tatt, hf, hdp, e1, e2, e3]
  rcases tth_cases hth with rfl | rfl | rfl | rfl
  · refine ends_plan [.pack (GD.tatt a) 5 [10, 11], .pack (GD.teng s) 0 [1, 2, 3, 4, 5, 6, 7, 8]] [0] ?_ ?_ ?_ <;> simp [frag_tatt, frag_teng, tengC, tps, teptr_some, teptr_none, hf, ha, tslotO_some, hdp, u1, u2, u3]
  · refine ends_plan [.pack (GD.tatt a) 5 [10, 11], .pack (GD.teng s) 0 [1, 2, 3, 4, 6, 5, 7, 8]] [0] ?_ ?_ ?_ <;> simp [frag_tatt, frag_teng, tengC, tps, teptr_some, teptr_none, hf, ha, tslotO_some, hdp, u1, u2, u3]
  · refine ends_plan [.pack (GD.tatt a) 5 [10, 11], .pack (GD.teng s) 0 [1, 2, 3, 4, 6, 7, 5, 8]] [0] ?_ ?_ ?_ <;> simp [frag_tatt, frag_teng, tengC, tps, teptr_some, teptr_none, hf, ha, tslotO_some, hdp, u1, u2, u3]
  · refine ends_plan [.pack (GD.tatt a) 5 [10, 11], .pack (GD.teng s) 0 [1, 2, 3, 4, 6, 7, 8, 5]] [0] ?_ ?_ ?_ <;> simp [frag_tatt, frag_teng, tengC, tps, teptr_some, teptr_none, hf, ha, tslotO_some, hdp, u1, u2, u3]
set_option maxRecDepth 10000 in
set_option maxHeartbeats 4000000 in
theorem task_5z (s : TS) (hs : s.Ok) (th : Nat) (hth : th < 4) (a : TA) (ha : s.ts th = some a) (hf : a.ra.k = 0) (t v : Int) (hd : a.fs.length = 1) : Runs Tryz.prog cfg 14 [.pointer (some ⟨0, 0, none⟩), .int .i64 th, .agg #[.int .u8 5, .int .i64 t, .int .u64 v]] (AH.of [some (.hi (.teng s))])
    fun r H' => r = .ret (.int .i64 8) ∧ H' = AH.of [some (.hi (.teng s))] := by
  refine Runs.ends ?_
  refine Runs.openTEng hth ?_
  have z1 : ¬ (th : Int) < 0 := by omega
  have z2 : ¬ 4 ≤ (th : Int) := by omega
  have z3 : (th : Int) < 4 := by omega
  have gt : ∀ a b q ts x y, (tengC a b th q ts x y)[2 + th]? = some q := fun a b q ts x y => tengC_t a b hth q ts x y
  have gg : ∀ a b q ts x y (h : 2 + th < (tengC a b th q ts x y).length), (tengC a b th q ts x y)[2 + th]'h = q := fun a b q ts x y h => tengC_gt a b hth q ts x y h
  obtain ⟨dp, hdp⟩ : ∃ dp, (a.fs.length : Int) - 1 = dp := ⟨_, rfl⟩
  have e1 : (dp = 0) = True := eq_true (by omega)
  have e2 : (0 < dp) = False := eq_false (by omega)
  have e3 : (4 ≤ dp) = False := eq_false (by omega)
  refine runs_by (tbl := tblUw) tblUw_ok 0 3 (af := a14) rfl ?_
  rw [a14, b14, run_eq]
  refine ⟨by simp, ?_⟩
  simp (implicitDefEqProofs := false) [tengL, tblUw, dataSt, d107, st43, forms46, a46, b46, forms52, a52, b52, forms51, a51, b51, z1, z2, z3, gt, gg, tengC_1, ha, teptr_some, teptr_none, tslotO_some, frag_tatt, hf, hdp, e1, e2, e3]
  rcases tth_cases hth with rfl | rfl | rfl | rfl
  · refine ends_plan [.pack (GD.tatt a) 5 [10, 11], .pack (GD.teng s) 0 [1, 2, 3, 4, 5, 6, 7, 8]] [0] ?_ ?_ ?_ <;> simp [frag_tatt, frag_teng, tengC, tps, teptr_some, teptr_none, hf, ha, tslotO_some, hdp, u1, u2, u3]
  · refine ends_plan [.pack (GD.tatt a) 5 [10, 11], .pack (GD.teng s) 0 [1, 2, 3, 4, 6, 5, 7, 8]] [0] ?_ ?_ ?_ <;> simp [frag_tatt, frag_teng, tengC, tps, teptr_some, teptr_none, hf, ha, tslotO_some, hdp, u1, u2, u3]
  · refine ends_plan [.pack (GD.tatt a) 5 [10, 11], .pack (GD.teng s) 0 [1, 2, 3, 4, 6, 7, 5, 8]] [0] ?_ ?_ ?_ <;> simp [frag_tatt, frag_teng, tengC, tps, teptr_some, teptr_none, hf, ha, tslotO_some, hdp, u1, u2, u3]
  · refine ends_plan [.pack (GD.tatt a) 5 [10, 11], .pack (GD.teng s) 0 [1, 2, 3, 4, 6, 7, 8, 5]] [0] ?_ ?_ ?_ <;> simp [frag_tatt, frag_teng, tengC, tps, teptr_some, teptr_none, hf, ha, tslotO_some, hdp, u1, u2, u3]
set_option maxRecDepth 10000 in
set_option maxHeartbeats 4000000 in
theorem task_6z (s : TS) (hs : s.Ok) (th : Nat) (hth : th < 4) (a : TA) (ha : s.ts th = some a) (hf : a.ra.k = 0) (t v : Int) (hd : a.fs.length = 1) : Runs Tryz.prog cfg 14 [.pointer (some ⟨0, 0, none⟩), .int .i64 th, .agg #[.int .u8 6, .int .i64 t, .int .u64 v]] (AH.of [some (.hi (.teng s))])
    fun r H' => r = .ret (.int .i64 0) ∧ H' = AH.of [some (.hi (.teng (taskS s th ⟨6, t, v⟩)))] := by
  refine Runs.ends ?_
  refine Runs.openTEng hth ?_
  have z1 : ¬ (th : Int) < 0 := by omega
  have z2 : ¬ 4 ≤ (th : Int) := by omega
  have z3 : (th : Int) < 4 := by omega
  have gt : ∀ a b q ts x y, (tengC a b th q ts x y)[2 + th]? = some q := fun a b q ts x y => tengC_t a b hth q ts x y
  have gg : ∀ a b q ts x y (h : 2 + th < (tengC a b th q ts x y).length), (tengC a b th q ts x y)[2 + th]'h = q := fun a b q ts x y h => tengC_gt a b hth q ts x y h
  obtain ⟨dp, hdp⟩ : ∃ dp, (a.fs.length : Int) - 1 = dp := ⟨_, rfl⟩
  have e1 : (dp = 0) = True := eq_true (by omega)
  have e2 : (0 < dp) = False := eq_false (by omega)
  have e3 : (4 ≤ dp) = False := eq_false (by omega)
  refine runs_by (tbl := tblUw) tblUw_ok 0 3 (af := a14) rfl ?_
  rw [a14, b14, run_eq]
  refine ⟨by simp, ?_⟩
  simp (implicitDefEqProofs := false) [tengL, tblUw, dataSt, d107, st43, forms46, a46, b46, forms52, a52, b52, forms51, a51, b51, z1, z2, z3, gt, gg, tengC_1, ha, teptr_some, teptr_none, tslotO_some, frag_tatt, hf, hdp, e1, e2, e3]
  rcases tth_cases hth with rfl | rfl | rfl | rfl
  · refine ends_plan [.pack (GD.tatt { a with ra := ⟨6, t, v⟩, ph := 0, nx := 0, sw := 0, sv := 0, ss := 0 }) 5 [10, 11], .pack (GD.teng (taskS s 0 ⟨6, t, v⟩)) 0 [1, 2, 3, 4, 5, 6, 7, 8]] [0] ?_ ?_ ?_ <;> simp [taskS, setU, frag_tatt, frag_teng, tengC, tps, teptr_some, teptr_none, hf, ha, tslotO_some, hdp, u1, u2, u3]
  · refine ends_plan [.pack (GD.tatt { a with ra := ⟨6, t, v⟩, ph := 0, nx := 0, sw := 0, sv := 0, ss := 0 }) 5 [10, 11], .pack (GD.teng (taskS s 1 ⟨6, t, v⟩)) 0 [1, 2, 3, 4, 6, 5, 7, 8]] [0] ?_ ?_ ?_ <;> simp [taskS, setU, frag_tatt, frag_teng, tengC, tps, teptr_some, teptr_none, hf, ha, tslotO_some, hdp, u1, u2, u3]
  · refine ends_plan [.pack (GD.tatt { a with ra := ⟨6, t, v⟩, ph := 0, nx := 0, sw := 0, sv := 0, ss := 0 }) 5 [10, 11], .pack (GD.teng (taskS s 2 ⟨6, t, v⟩)) 0 [1, 2, 3, 4, 6, 7, 5, 8]] [0] ?_ ?_ ?_ <;> simp [taskS, setU, frag_tatt, frag_teng, tengC, tps, teptr_some, teptr_none, hf, ha, tslotO_some, hdp, u1, u2, u3]
  · refine ends_plan [.pack (GD.tatt { a with ra := ⟨6, t, v⟩, ph := 0, nx := 0, sw := 0, sv := 0, ss := 0 }) 5 [10, 11], .pack (GD.teng (taskS s 3 ⟨6, t, v⟩)) 0 [1, 2, 3, 4, 6, 7, 8, 5]] [0] ?_ ?_ ?_ <;> simp [taskS, setU, frag_tatt, frag_teng, tengC, tps, teptr_some, teptr_none, hf, ha, tslotO_some, hdp, u1, u2, u3]
set_option maxRecDepth 10000 in
set_option maxHeartbeats 4000000 in
theorem task_3m (s : TS) (hs : s.Ok) (th : Nat) (hth : th < 4) (a : TA) (ha : s.ts th = some a) (hf : a.ra.k = 0) (t v : Int) (hd : a.fs.length ≠ 1 ∧ 1 ≤ a.fs.length ∧ a.fs.length < 5) : Runs Tryz.prog cfg 14 [.pointer (some ⟨0, 0, none⟩), .int .i64 th, .agg #[.int .u8 3, .int .i64 t, .int .u64 v]] (AH.of [some (.hi (.teng s))])
    fun r H' => r = .ret (.int .i64 0) ∧ H' = AH.of [some (.hi (.teng (taskS s th ⟨3, t, v⟩)))] := by
  refine Runs.ends ?_
  refine Runs.openTEng hth ?_
  have z1 : ¬ (th : Int) < 0 := by omega
  have z2 : ¬ 4 ≤ (th : Int) := by omega
  have z3 : (th : Int) < 4 := by omega
  have gt : ∀ a b q ts x y, (tengC a b th q ts x y)[2 + th]? = some q := fun a b q ts x y => tengC_t a b hth q ts x y
  have gg : ∀ a b q ts x y (h : 2 + th < (tengC a b th q ts x y).length), (tengC a b th q ts x y)[2 + th]'h = q := fun a b q ts x y h => tengC_gt a b hth q ts x y h
  obtain ⟨dp, hdp⟩ : ∃ dp, (a.fs.length : Int) - 1 = dp := ⟨_, rfl⟩
  have e1 : (dp = 0) = False := eq_false (by omega)
  have e2 : (0 < dp) = True := eq_true (by omega)
  have e3 : (4 ≤ dp) = False := eq_false (by omega)
  refine runs_by (tbl := tblUw) tblUw_ok 0 3 (af := a14) rfl ?_
  rw [a14, b14, run_eq]
  refine ⟨by simp, ?_⟩
  simp (implicitDefEqProofs := false) [tengL, tblUw, dataSt, d107, st43, forms46, a46, b46, forms52, a52, b52, forms51, a51, b51, z1, z2, z3, gt, gg, tengC_1, ha, teptr_some, teptr_none, tslotO_some, frag_tatt, hf, hdp, e1, e2, e3]
  rcases tth_cases hth with rfl | rfl | rfl | rfl
  · refine ends_plan [.pack (GD.tatt { a with ra := ⟨3, t, v⟩, ph := 0, nx := 0, sw := 0, sv := 0, ss := 0 }) 5 [10, 11], .pack (GD.teng (taskS s 0 ⟨3, t, v⟩)) 0 [1, 2, 3, 4, 5, 6, 7, 8]] [0] ?_ ?_ ?_ <;> simp [taskS, setU, frag_tatt, frag_teng, tengC, tps, teptr_some, teptr_none, hf, ha, tslotO_some, hdp, u1, u2, u3]
  · refine ends_plan [.pack (GD.tatt { a with ra := ⟨3, t, v⟩, ph := 0, nx := 0, sw := 0, sv := 0, ss := 0 }) 5 [10, 11], .pack (GD.teng (taskS s 1 ⟨3, t, v⟩)) 0 [1, 2, 3, 4, 6, 5, 7, 8]] [0] ?_ ?_ ?_ <;> simp [taskS, setU, frag_tatt, frag_teng, tengC, tps, teptr_some, teptr_none, hf, ha, tslotO_some, hdp, u1, u2, u3]
  · refine ends_plan [.pack (GD.tatt { a with ra := ⟨3, t, v⟩, ph := 0, nx := 0, sw := 0, sv := 0, ss := 0 }) 5 [10, 11], .pack (GD.teng (taskS s 2 ⟨3, t, v⟩)) 0 [1, 2, 3, 4, 6, 7, 5, 8]] [0] ?_ ?_ ?_ <;> simp [taskS, setU, frag_tatt, frag_teng, tengC, tps, teptr_some, teptr_none, hf, ha, tslotO_some, hdp, u1, u2, u3]
  · refine ends_plan [.pack (GD.tatt { a with ra := ⟨3, t, v⟩, ph := 0, nx := 0, sw := 0, sv := 0, ss := 0 }) 5 [10, 11], .pack (GD.teng (taskS s 3 ⟨3, t, v⟩)) 0 [1, 2, 3, 4, 6, 7, 8, 5]] [0] ?_ ?_ ?_ <;> simp [taskS, setU, frag_tatt, frag_teng, tengC, tps, teptr_some, teptr_none, hf, ha, tslotO_some, hdp, u1, u2, u3]
set_option maxRecDepth 10000 in
set_option maxHeartbeats 4000000 in
theorem task_4m (s : TS) (hs : s.Ok) (th : Nat) (hth : th < 4) (a : TA) (ha : s.ts th = some a) (hf : a.ra.k = 0) (t v : Int) (hd : a.fs.length ≠ 1 ∧ 1 ≤ a.fs.length ∧ a.fs.length < 5) : Runs Tryz.prog cfg 14 [.pointer (some ⟨0, 0, none⟩), .int .i64 th, .agg #[.int .u8 4, .int .i64 t, .int .u64 v]] (AH.of [some (.hi (.teng s))])
    fun r H' => r = .ret (.int .i64 0) ∧ H' = AH.of [some (.hi (.teng (taskS s th ⟨4, t, v⟩)))] := by
  refine Runs.ends ?_
  refine Runs.openTEng hth ?_
  have z1 : ¬ (th : Int) < 0 := by omega
  have z2 : ¬ 4 ≤ (th : Int) := by omega
  have z3 : (th : Int) < 4 := by omega
  have gt : ∀ a b q ts x y, (tengC a b th q ts x y)[2 + th]? = some q := fun a b q ts x y => tengC_t a b hth q ts x y
  have gg : ∀ a b q ts x y (h : 2 + th < (tengC a b th q ts x y).length), (tengC a b th q ts x y)[2 + th]'h = q := fun a b q ts x y h => tengC_gt a b hth q ts x y h
  obtain ⟨dp, hdp⟩ : ∃ dp, (a.fs.length : Int) - 1 = dp := ⟨_, rfl⟩
  have e1 : (dp = 0) = False := eq_false (by omega)
  have e2 : (0 < dp) = True := eq_true (by omega)
  have e3 : (4 ≤ dp) = False := eq_false (by omega)
  refine runs_by (tbl := tblUw) tblUw_ok 0 3 (af := a14) rfl ?_
  rw [a14, b14, run_eq]
  refine ⟨by simp, ?_⟩
  simp (implicitDefEqProofs := false) [tengL, tblUw, dataSt, d107, st43, forms46, a46, b46, forms52, a52, b52, forms51, a51, b51, z1, z2, z3, gt, gg, tengC_1, ha, teptr_some, teptr_none, tslotO_some, frag_tatt, hf, hdp, e1, e2, e3]
  rcases tth_cases hth with rfl | rfl | rfl | rfl
  · refine ends_plan [.pack (GD.tatt { a with ra := ⟨4, t, v⟩, ph := 0, nx := 0, sw := 0, sv := 0, ss := 0 }) 5 [10, 11], .pack (GD.teng (taskS s 0 ⟨4, t, v⟩)) 0 [1, 2, 3, 4, 5, 6, 7, 8]] [0] ?_ ?_ ?_ <;> simp [taskS, setU, frag_tatt, frag_teng, tengC, tps, teptr_some, teptr_none, hf, ha, tslotO_some, hdp, u1, u2, u3]
  · refine ends_plan [.pack (GD.tatt { a with ra := ⟨4, t, v⟩, ph := 0, nx := 0, sw := 0, sv := 0, ss := 0 }) 5 [10, 11], .pack (GD.teng (taskS s 1 ⟨4, t, v⟩)) 0 [1, 2, 3, 4, 6, 5, 7, 8]] [0] ?_ ?_ ?_ <;> simp [taskS, setU, frag_tatt, frag_teng, tengC, tps, teptr_some, teptr_none, hf, ha, tslotO_some, hdp, u1, u2, u3]
  · refine ends_plan [.pack (GD.tatt { a with ra := ⟨4, t, v⟩, ph := 0, nx := 0, sw := 0, sv := 0, ss := 0 }) 5 [10, 11], .pack (GD.teng (taskS s 2 ⟨4, t, v⟩)) 0 [1, 2, 3, 4, 6, 7, 5, 8]] [0] ?_ ?_ ?_ <;> simp [taskS, setU, frag_tatt, frag_teng, tengC, tps, teptr_some, teptr_none, hf, ha, tslotO_some, hdp, u1, u2, u3]
  · refine ends_plan [.pack (GD.tatt { a with ra := ⟨4, t, v⟩, ph := 0, nx := 0, sw := 0, sv := 0, ss := 0 }) 5 [10, 11], .pack (GD.teng (taskS s 3 ⟨4, t, v⟩)) 0 [1, 2, 3, 4, 6, 7, 8, 5]] [0] ?_ ?_ ?_ <;> simp [taskS, setU, frag_tatt, frag_teng, tengC, tps, teptr_some, teptr_none, hf, ha, tslotO_some, hdp, u1, u2, u3]
set_option maxRecDepth 10000 in
set_option maxHeartbeats 4000000 in
theorem task_5m (s : TS) (hs : s.Ok) (th : Nat) (hth : th < 4) (a : TA) (ha : s.ts th = some a) (hf : a.ra.k = 0) (t v : Int) (hd : a.fs.length ≠ 1 ∧ 1 ≤ a.fs.length ∧ a.fs.length < 5) : Runs Tryz.prog cfg 14 [.pointer (some ⟨0, 0, none⟩), .int .i64 th, .agg #[.int .u8 5, .int .i64 t, .int .u64 v]] (AH.of [some (.hi (.teng s))])
    fun r H' => r = .ret (.int .i64 0) ∧ H' = AH.of [some (.hi (.teng (taskS s th ⟨5, t, v⟩)))] := by
  refine Runs.ends ?_
  refine Runs.openTEng hth ?_
  have z1 : ¬ (th : Int) < 0 := by omega
  have z2 : ¬ 4 ≤ (th : Int) := by omega
  have z3 : (th : Int) < 4 := by omega
  have gt : ∀ a b q ts x y, (tengC a b th q ts x y)[2 + th]? = some q := fun a b q ts x y => tengC_t a b hth q ts x y
  have gg : ∀ a b q ts x y (h : 2 + th < (tengC a b th q ts x y).length), (tengC a b th q ts x y)[2 + th]'h = q := fun a b q ts x y h => tengC_gt a b hth q ts x y h
  obtain ⟨dp, hdp⟩ : ∃ dp, (a.fs.length : Int) - 1 = dp := ⟨_, rfl⟩
  have e1 : (dp = 0) = False := eq_false (by omega)
  have e2 : (0 < dp) = True := eq_true (by omega)
  have e3 : (4 ≤ dp) = False := eq_false (by omega)
  refine runs_by (tbl := tblUw) tblUw_ok 0 3 (af := a14) rfl ?_
  rw [a14, b14, run_eq]
  refine ⟨by simp, ?_⟩
  simp (implicitDefEqProofs := false) [tengL, tblUw, dataSt, d107, st43, forms46, a46, b46, forms52, a52, b52, forms51, a51, b51, z1, z2, z3, gt, gg, tengC_1, ha, teptr_some, teptr_none, tslotO_some, frag_tatt, hf, hdp, e1, e2, e3]
  rcases tth_cases hth with rfl | rfl | rfl | rfl
  · refine ends_plan [.pack (GD.tatt { a with ra := ⟨5, t, v⟩, ph := 0, nx := 0, sw := 0, sv := 0, ss := 0 }) 5 [10, 11], .pack (GD.teng (taskS s 0 ⟨5, t, v⟩)) 0 [1, 2, 3, 4, 5, 6, 7, 8]] [0] ?_ ?_ ?_ <;> simp [taskS, setU, frag_tatt, frag_teng, tengC, tps, teptr_some, teptr_none, hf, ha, tslotO_some, hdp, u1, u2, u3]
  · refine ends_plan [.pack (GD.tatt { a with ra := ⟨5, t, v⟩, ph := 0, nx := 0, sw := 0, sv := 0, ss := 0 }) 5 [10, 11], .pack (GD.teng (taskS s 1 ⟨5, t, v⟩)) 0 [1, 2, 3, 4, 6, 5, 7, 8]] [0] ?_ ?_ ?_ <;> simp [taskS, setU, frag_tatt, frag_teng, tengC, tps, teptr_some, teptr_none, hf, ha, tslotO_some, hdp, u1, u2, u3]
  · refine ends_plan [.pack (GD.tatt { a with ra := ⟨5, t, v⟩, ph := 0, nx := 0, sw := 0, sv := 0, ss := 0 }) 5 [10, 11], .pack (GD.teng (taskS s 2 ⟨5, t, v⟩)) 0 [1, 2, 3, 4, 6, 7, 5, 8]] [0] ?_ ?_ ?_ <;> simp [taskS, setU, frag_tatt, frag_teng, tengC, tps, teptr_some, teptr_none, hf, ha, tslotO_some, hdp, u1, u2, u3]
  · refine ends_plan [.pack (GD.tatt { a with ra := ⟨5, t, v⟩, ph := 0, nx := 0, sw := 0, sv := 0, ss := 0 }) 5 [10, 11], .pack (GD.teng (taskS s 3 ⟨5, t, v⟩)) 0 [1, 2, 3, 4, 6, 7, 8, 5]] [0] ?_ ?_ ?_ <;> simp [taskS, setU, frag_tatt, frag_teng, tengC, tps, teptr_some, teptr_none, hf, ha, tslotO_some, hdp, u1, u2, u3]
set_option maxRecDepth 10000 in
set_option maxHeartbeats 4000000 in
theorem task_6m (s : TS) (hs : s.Ok) (th : Nat) (hth : th < 4) (a : TA) (ha : s.ts th = some a) (hf : a.ra.k = 0) (t v : Int) (hd : a.fs.length ≠ 1 ∧ 1 ≤ a.fs.length ∧ a.fs.length < 5) : Runs Tryz.prog cfg 14 [.pointer (some ⟨0, 0, none⟩), .int .i64 th, .agg #[.int .u8 6, .int .i64 t, .int .u64 v]] (AH.of [some (.hi (.teng s))])
    fun r H' => r = .ret (.int .i64 8) ∧ H' = AH.of [some (.hi (.teng s))] := by
  refine Runs.ends ?_
  refine Runs.openTEng hth ?_
  have z1 : ¬ (th : Int) < 0 := by omega
  have z2 : ¬ 4 ≤ (th : Int) := by omega
  have z3 : (th : Int) < 4 := by omega
  have gt : ∀ a b q ts x y, (tengC a b th q ts x y)[2 + th]? = some q := fun a b q ts x y => tengC_t a b hth q ts x y
  have gg : ∀ a b q ts x y (h : 2 + th < (tengC a b th q ts x y).length), (tengC a b th q ts x y)[2 + th]'h = q := fun a b q ts x y h => tengC_gt a b hth q ts x y h
  obtain ⟨dp, hdp⟩ : ∃ dp, (a.fs.length : Int) - 1 = dp := ⟨_, rfl⟩
  have e1 : (dp = 0) = False := eq_false (by omega)
  have e2 : (0 < dp) = True := eq_true (by omega)
  have e3 : (4 ≤ dp) = False := eq_false (by omega)
  refine runs_by (tbl := tblUw) tblUw_ok 0 3 (af := a14) rfl ?_
  rw [a14, b14, run_eq]
  refine ⟨by simp, ?_⟩
  simp (implicitDefEqProofs := false) [tengL, tblUw, dataSt, d107, st43, forms46, a46, b46, forms52, a52, b52, forms51, a51, b51, z1, z2, z3, gt, gg, tengC_1, ha, teptr_some, teptr_none, tslotO_some, frag_tatt, hf, hdp, e1, e2, e3]
  rcases tth_cases hth with rfl | rfl | rfl | rfl
  · refine ends_plan [.pack (GD.tatt a) 5 [10, 11], .pack (GD.teng s) 0 [1, 2, 3, 4, 5, 6, 7, 8]] [0] ?_ ?_ ?_ <;> simp [frag_tatt, frag_teng, tengC, tps, teptr_some, teptr_none, hf, ha, tslotO_some, hdp, u1, u2, u3]
  · refine ends_plan [.pack (GD.tatt a) 5 [10, 11], .pack (GD.teng s) 0 [1, 2, 3, 4, 6, 5, 7, 8]] [0] ?_ ?_ ?_ <;> simp [frag_tatt, frag_teng, tengC, tps, teptr_some, teptr_none, hf, ha, tslotO_some, hdp, u1, u2, u3]
  · refine ends_plan [.pack (GD.tatt a) 5 [10, 11], .pack (GD.teng s) 0 [1, 2, 3, 4, 6, 7, 5, 8]] [0] ?_ ?_ ?_ <;> simp [frag_tatt, frag_teng, tengC, tps, teptr_some, teptr_none, hf, ha, tslotO_some, hdp, u1, u2, u3]
  · refine ends_plan [.pack (GD.tatt a) 5 [10, 11], .pack (GD.teng s) 0 [1, 2, 3, 4, 6, 7, 8, 5]] [0] ?_ ?_ ?_ <;> simp [frag_tatt, frag_teng, tengC, tps, teptr_some, teptr_none, hf, ha, tslotO_some, hdp, u1, u2, u3]
set_option maxRecDepth 10000 in
set_option maxHeartbeats 4000000 in
theorem task_3g (s : TS) (hs : s.Ok) (th : Nat) (hth : th < 4) (a : TA) (ha : s.ts th = some a) (hf : a.ra.k = 0) (t v : Int) (hd : a.fs.length ≥ 5) : Runs Tryz.prog cfg 14 [.pointer (some ⟨0, 0, none⟩), .int .i64 th, .agg #[.int .u8 3, .int .i64 t, .int .u64 v]] (AH.of [some (.hi (.teng s))])
    fun r H' => r = .ret (.int .i64 4) ∧ H' = AH.of [some (.hi (.teng s))] := by
  refine Runs.ends ?_
  refine Runs.openTEng hth ?_
  have z1 : ¬ (th : Int) < 0 := by omega
  have z2 : ¬ 4 ≤ (th : Int) := by omega
  have z3 : (th : Int) < 4 := by omega
  have gt : ∀ a b q ts x y, (tengC a b th q ts x y)[2 + th]? = some q := fun a b q ts x y => tengC_t a b hth q ts x y
  have gg : ∀ a b q ts x y (h : 2 + th < (tengC a b th q ts x y).length), (tengC a b th q ts x y)[2 + th]'h = q := fun a b q ts x y h => tengC_gt a b hth q ts x y h
  obtain ⟨dp, hdp⟩ : ∃ dp, (a.fs.length : Int) - 1 = dp := ⟨_, rfl⟩
  have e1 : (dp = 0) = False := eq_false (by omega)
  have e2 : (0 < dp) = True := eq_true (by omega)
  have e3 : (4 ≤ dp) = True := eq_true (by omega)
  refine runs_by (tbl := tblUw) tblUw_ok 0 3 (af := a14) rfl ?_
  rw [a14, b14, run_eq]
  refine ⟨by simp, ?_⟩
  simp (implicitDefEqProofs := false) [tengL, tblUw, dataSt, d107, st43, forms46, a46, b46, forms52, a52, b52, forms51, a51, b51, z1, z2, z3, gt, gg, tengC_1, ha, teptr_some, teptr_none, tslotO_some, frag_tatt, hf, hdp, e1, e2, e3]
  rcases tth_cases hth with rfl | rfl | rfl | rfl
  · refine ends_plan [.pack (GD.tatt a) 5 [10, 11], .pack (GD.teng s) 0 [1, 2, 3, 4, 5, 6, 7, 8]] [0] ?_ ?_ ?_ <;> simp [frag_tatt, frag_teng, tengC, tps, teptr_some, teptr_none, hf, ha, tslotO_some, hdp, u1, u2, u3]
  · refine ends_plan [.pack (GD.tatt a) 5 [10, 11], .pack (GD.teng s) 0 [1, 2, 3, 4, 6, 5, 7, 8]] [0] ?_ ?_ ?_ <;> simp [frag_tatt, frag_teng, tengC, tps, teptr_some, teptr_none, hf, ha, tslotO_some, hdp, u1, u2, u3]
  · refine ends_plan [.pack (GD.tatt a) 5 [10, 11], .pack (GD.teng s) 0 [1, 2, 3, 4, 6, 7, 5, 8]] [0] ?_ ?_ ?_ <;> simp [frag_tatt, frag_teng, tengC, tps, teptr_some, teptr_none, hf, ha, tslotO_some, hdp, u1, u2, u3]
  · refine ends_plan [.pack (GD.tatt a) 5 [10, 11], .pack (GD.teng s) 0 [1, 2, 3, 4, 6, 7, 8, 5]] [0] ?_ ?_ ?_ <;> simp [frag_tatt, frag_teng, tengC, tps, teptr_some, teptr_none, hf, ha, tslotO_some, hdp, u1, u2, u3]
set_option maxRecDepth 10000 in
set_option maxHeartbeats 4000000 in
theorem task_4g (s : TS) (hs : s.Ok) (th : Nat) (hth : th < 4) (a : TA) (ha : s.ts th = some a) (hf : a.ra.k = 0) (t v : Int) (hd : a.fs.length ≥ 5) : Runs Tryz.prog cfg 14 [.pointer (some ⟨0, 0, none⟩), .int .i64 th, .agg #[.int .u8 4, .int .i64 t, .int .u64 v]] (AH.of [some (.hi (.teng s))])
    fun r H' => r = .ret (.int .i64 0) ∧ H' = AH.of [some (.hi (.teng (taskS s th ⟨4, t, v⟩)))] := by
  refine Runs.ends ?_
  refine Runs.openTEng hth ?_
  have z1 : ¬ (th : Int) < 0 := by omega
  have z2 : ¬ 4 ≤ (th : Int) := by omega
  have z3 : (th : Int) < 4 := by omega
  have gt : ∀ a b q ts x y, (tengC a b th q ts x y)[2 + th]? = some q := fun a b q ts x y => tengC_t a b hth q ts x y
  have gg : ∀ a b q ts x y (h : 2 + th < (tengC a b th q ts x y).length), (tengC a b th q ts x y)[2 + th]'h = q := fun a b q ts x y h => tengC_gt a b hth q ts x y h
  obtain ⟨dp, hdp⟩ : ∃ dp, (a.fs.length : Int) - 1 = dp := ⟨_, rfl⟩
  have e1 : (dp = 0) = False := eq_false (by omega)
  have e2 : (0 < dp) = True := eq_true (by omega)
  have e3 : (4 ≤ dp) = True := eq_true (by omega)
  refine runs_by (tbl := tblUw) tblUw_ok 0 3 (af := a14) rfl ?_
  rw [a14, b14, run_eq]
  refine ⟨by simp, ?_⟩
  simp (implicitDefEqProofs := false) [tengL, tblUw, dataSt, d107, st43, forms46, a46, b46, forms52, a52, b52, forms51, a51, b51, z1, z2, z3, gt, gg, tengC_1, ha, teptr_some, teptr_none, tslotO_some, frag_tatt, hf, hdp, e1, e2, e3]
  rcases tth_cases hth with rfl | rfl | rfl | rfl
  · refine ends_plan [.pack (GD.tatt { a with ra := ⟨4, t, v⟩, ph := 0, nx := 0, sw := 0, sv := 0, ss := 0 }) 5 [10, 11], .pack (GD.teng (taskS s 0 ⟨4, t, v⟩)) 0 [1, 2, 3, 4, 5, 6, 7, 8]] [0] ?_ ?_ ?_ <;> simp [taskS, setU, frag_tatt, frag_teng, tengC, tps, teptr_some, teptr_none, hf, ha, tslotO_some, hdp, u1, u2, u3]
  · refine ends_plan [.pack (GD.tatt { a with ra := ⟨4, t, v⟩, ph := 0, nx := 0, sw := 0, sv := 0, ss := 0 }) 5 [10, 11], .pack (GD.teng (taskS s 1 ⟨4, t, v⟩)) 0 [1, 2, 3, 4, 6, 5, 7, 8]] [0] ?_ ?_ ?_ <;> simp [taskS, setU, frag_tatt, frag_teng, tengC, tps, teptr_some, teptr_none, hf, ha, tslotO_some, hdp, u1, u2, u3]
  · refine ends_plan [.pack (GD.tatt { a with ra := ⟨4, t, v⟩, ph := 0, nx := 0, sw := 0, sv := 0, ss := 0 }) 5 [10, 11], .pack (GD.teng (taskS s 2 ⟨4, t, v⟩)) 0 [1, 2, 3, 4, 6, 7, 5, 8]] [0] ?_ ?_ ?_ <;> simp [taskS, setU, frag_tatt, frag_teng, tengC, tps, teptr_some, teptr_none, hf, ha, tslotO_some, hdp, u1, u2, u3]
  · refine ends_plan [.pack (GD.tatt { a with ra := ⟨4, t, v⟩, ph := 0, nx := 0, sw := 0, sv := 0, ss := 0 }) 5 [10, 11], .pack (GD.teng (taskS s 3 ⟨4, t, v⟩)) 0 [1, 2, 3, 4, 6, 7, 8, 5]] [0] ?_ ?_ ?_ <;> simp [taskS, setU, frag_tatt, frag_teng, tengC, tps, teptr_some, teptr_none, hf, ha, tslotO_some, hdp, u1, u2, u3]
set_option maxRecDepth 10000 in
set_option maxHeartbeats 4000000 in
theorem task_5g (s : TS) (hs : s.Ok) (th : Nat) (hth : th < 4) (a : TA) (ha : s.ts th = some a) (hf : a.ra.k = 0) (t v : Int) (hd : a.fs.length ≥ 5) : Runs Tryz.prog cfg 14 [.pointer (some ⟨0, 0, none⟩), .int .i64 th, .agg #[.int .u8 5, .int .i64 t, .int .u64 v]] (AH.of [some (.hi (.teng s))])
    fun r H' => r = .ret (.int .i64 0) ∧ H' = AH.of [some (.hi (.teng (taskS s th ⟨5, t, v⟩)))] := by
  refine Runs.ends ?_
  refine Runs.openTEng hth ?_
  have z1 : ¬ (th : Int) < 0 := by omega
  have z2 : ¬ 4 ≤ (th : Int) := by omega
  have z3 : (th : Int) < 4 := by omega
  have gt : ∀ a b q ts x y, (tengC a b th q ts x y)[2 + th]? = some q := fun a b q ts x y => tengC_t a b hth q ts x y
  have gg : ∀ a b q ts x y (h : 2 + th < (tengC a b th q ts x y).length), (tengC a b th q ts x y)[2 + th]'h = q := fun a b q ts x y h => tengC_gt a b hth q ts x y h
  obtain ⟨dp, hdp⟩ : ∃ dp, (a.fs.length : Int) - 1 = dp := ⟨_, rfl⟩
  have e1 : (dp = 0) = False := eq_false (by omega)
  have e2 : (0 < dp) = True := eq_true (by omega)
  have e3 : (4 ≤ dp) = True := eq_true (by omega)
  refine runs_by (tbl := tblUw) tblUw_ok 0 3 (af := a14) rfl ?_
  rw [a14, b14, run_eq]
  refine ⟨by simp, ?_⟩
  simp (implicitDefEqProofs := false) [tengL, tblUw, dataSt, d107, st43, forms46, a46, b46, forms52, a52, b52, forms51, a51, b51, z1, z2, z3, gt, gg, tengC_1, ha, teptr_some, teptr_none, tslotO_some, frag_tatt, hf, hdp, e1, e2, e3]
  rcases tth_cases hth with rfl | rfl | rfl | rfl
  · refine ends_plan [.pack (GD.tatt { a with ra := ⟨5, t, v⟩, ph := 0, nx := 0, sw := 0, sv := 0, ss := 0 }) 5 [10, 11], .pack (GD.teng (taskS s 0 ⟨5, t, v⟩)) 0 [1, 2, 3, 4, 5, 6, 7, 8]] [0] ?_ ?_ ?_ <;> simp [taskS, setU, frag_tatt, frag_teng, tengC, tps, teptr_some, teptr_none, hf, ha, tslotO_some, hdp, u1, u2, u3]
  · refine ends_plan [.pack (GD.tatt { a with ra := ⟨5, t, v⟩, ph := 0, nx := 0, sw := 0, sv := 0, ss := 0 }) 5 [10, 11], .pack (GD.teng (taskS s 1 ⟨5, t, v⟩)) 0 [1, 2, 3, 4, 6, 5, 7, 8]] [0] ?_ ?_ ?_ <;> simp [taskS, setU, frag_tatt, frag_teng, tengC, tps, teptr_some, teptr_none, hf, ha, tslotO_some, hdp, u1, u2, u3]
  · refine ends_plan [.pack (GD.tatt { a with ra := ⟨5, t, v⟩, ph := 0, nx := 0, sw := 0, sv := 0, ss := 0 }) 5 [10, 11], .pack (GD.teng (taskS s 2 ⟨5, t, v⟩)) 0 [1, 2, 3, 4, 6, 7, 5, 8]] [0] ?_ ?_ ?_ <;> simp [taskS, setU, frag_tatt, frag_teng, tengC, tps, teptr_some, teptr_none, hf, ha, tslotO_some, hdp, u1, u2, u3]
  · refine ends_plan [.pack (GD.tatt { a with ra := ⟨5, t, v⟩, ph := 0, nx := 0, sw := 0, sv := 0, ss := 0 }) 5 [10, 11], .pack (GD.teng (taskS s 3 ⟨5, t, v⟩)) 0 [1, 2, 3, 4, 6, 7, 8, 5]] [0] ?_ ?_ ?_ <;> simp [taskS, setU, frag_tatt, frag_teng, tengC, tps, teptr_some, teptr_none, hf, ha, tslotO_some, hdp, u1, u2, u3]
set_option maxRecDepth 10000 in
set_option maxHeartbeats 4000000 in
theorem task_6g (s : TS) (hs : s.Ok) (th : Nat) (hth : th < 4) (a : TA) (ha : s.ts th = some a) (hf : a.ra.k = 0) (t v : Int) (hd : a.fs.length ≥ 5) : Runs Tryz.prog cfg 14 [.pointer (some ⟨0, 0, none⟩), .int .i64 th, .agg #[.int .u8 6, .int .i64 t, .int .u64 v]] (AH.of [some (.hi (.teng s))])
    fun r H' => r = .ret (.int .i64 8) ∧ H' = AH.of [some (.hi (.teng s))] := by
  refine Runs.ends ?_
  refine Runs.openTEng hth ?_
  have z1 : ¬ (th : Int) < 0 := by omega
  have z2 : ¬ 4 ≤ (th : Int) := by omega
  have z3 : (th : Int) < 4 := by omega
  have gt : ∀ a b q ts x y, (tengC a b th q ts x y)[2 + th]? = some q := fun a b q ts x y => tengC_t a b hth q ts x y
  have gg : ∀ a b q ts x y (h : 2 + th < (tengC a b th q ts x y).length), (tengC a b th q ts x y)[2 + th]'h = q := fun a b q ts x y h => tengC_gt a b hth q ts x y h
  obtain ⟨dp, hdp⟩ : ∃ dp, (a.fs.length : Int) - 1 = dp := ⟨_, rfl⟩
  have e1 : (dp = 0) = False := eq_false (by omega)
  have e2 : (0 < dp) = True := eq_true (by omega)
  have e3 : (4 ≤ dp) = True := eq_true (by omega)
  refine runs_by (tbl := tblUw) tblUw_ok 0 3 (af := a14) rfl ?_
  rw [a14, b14, run_eq]
  refine ⟨by simp, ?_⟩
  simp (implicitDefEqProofs := false) [tengL, tblUw, dataSt, d107, st43, forms46, a46, b46, forms52, a52, b52, forms51, a51, b51, z1, z2, z3, gt, gg, tengC_1, ha, teptr_some, teptr_none, tslotO_some, frag_tatt, hf, hdp, e1, e2, e3]
  rcases tth_cases hth with rfl | rfl | rfl | rfl
  · refine ends_plan [.pack (GD.tatt a) 5 [10, 11], .pack (GD.teng s) 0 [1, 2, 3, 4, 5, 6, 7, 8]] [0] ?_ ?_ ?_ <;> simp [frag_tatt, frag_teng, tengC, tps, teptr_some, teptr_none, hf, ha, tslotO_some, hdp, u1, u2, u3]
  · refine ends_plan [.pack (GD.tatt a) 5 [10, 11], .pack (GD.teng s) 0 [1, 2, 3, 4, 6, 5, 7, 8]] [0] ?_ ?_ ?_ <;> simp [frag_tatt, frag_teng, tengC, tps, teptr_some, teptr_none, hf, ha, tslotO_some, hdp, u1, u2, u3]
  · refine ends_plan [.pack (GD.tatt a) 5 [10, 11], .pack (GD.teng s) 0 [1, 2, 3, 4, 6, 7, 5, 8]] [0] ?_ ?_ ?_ <;> simp [frag_tatt, frag_teng, tengC, tps, teptr_some, teptr_none, hf, ha, tslotO_some, hdp, u1, u2, u3]
  · refine ends_plan [.pack (GD.tatt a) 5 [10, 11], .pack (GD.teng s) 0 [1, 2, 3, 4, 6, 7, 8, 5]] [0] ?_ ?_ ?_ <;> simp [frag_tatt, frag_teng, tengC, tps, teptr_some, teptr_none, hf, ha, tslotO_some, hdp, u1, u2, u3]
theorem task_busy (s : TS) (th : Nat) (hth : th < 4) (hb : s.ts th = none ∨ ∃ a, s.ts th = some a ∧ 1 ≤ a.ra.k) (x : Ak) : Runs Tryz.prog cfg 14 [.pointer (some ⟨0, 0, none⟩), .int .i64 th, .agg #[.int .u8 x.k, .int .i64 x.t, .int .u64 x.v]] (AH.of [some (.hi (.teng s))])
    fun r H' => r = .ret (.int .i64 (taskC s th x)) ∧ H' = AH.of [some (.hi (.teng s))] := by
  refine Runs.ends ?_
  refine Runs.openTEng hth ?_
  have z1 : ¬ (th : Int) < 0 := by omega
  have z2 : ¬ 4 ≤ (th : Int) := by omega
  have z3 : (th : Int) < 4 := by omega
  have gt : ∀ a b q ts x y, (tengC a b th q ts x y)[2 + th]? = some q := fun a b q ts x y => tengC_t a b hth q ts x y
  have gg : ∀ a b q ts x y (h : 2 + th < (tengC a b th q ts x y).length), (tengC a b th q ts x y)[2 + th]'h = q := fun a b q ts x y h => tengC_gt a b hth q ts x y h
  rcases hb with ha | ⟨a, ha, hk1⟩
  · refine runs_by (tbl := []) (by simp) 0 3 (af := a14) rfl ?_
    rw [a14, b14, run_eq]
    refine ⟨by simp, ?_⟩
    simp (implicitDefEqProofs := false) [tengL, forms46, a46, b46, z1, z2, z3, gt, gg, ha, teptr_some, teptr_none]
    rcases tth_cases hth with rfl | rfl | rfl | rfl
    · refine ends_plan [.pack (GD.teng s) 0 [1, 2, 3, 4, 5, 6, 7, 8]] [0] ?_ ?_ ?_ <;> simp [frag_teng, ha, tengC, tps, teptr_some, teptr_none, u1, u2, u3, taskC]
    · refine ends_plan [.pack (GD.teng s) 0 [1, 2, 3, 4, 6, 5, 7, 8]] [0] ?_ ?_ ?_ <;> simp [frag_teng, ha, tengC, tps, teptr_some, teptr_none, u1, u2, u3, taskC]
    · refine ends_plan [.pack (GD.teng s) 0 [1, 2, 3, 4, 6, 7, 5, 8]] [0] ?_ ?_ ?_ <;> simp [frag_teng, ha, tengC, tps, teptr_some, teptr_none, u1, u2, u3, taskC]
    · refine ends_plan [.pack (GD.teng s) 0 [1, 2, 3, 4, 6, 7, 8, 5]] [0] ?_ ?_ ?_ <;> simp [frag_teng, ha, tengC, tps, teptr_some, teptr_none, u1, u2, u3, taskC]
  · have hk0 : ¬ a.ra.k = 0 := by omega
    refine runs_by (tbl := []) (by simp) 0 3 (af := a14) rfl ?_
    rw [a14, b14, run_eq]
    refine ⟨by simp, ?_⟩
    simp (implicitDefEqProofs := false) [tengL, forms46, a46, b46, forms51, a51, b51, z1, z2, z3, gt, gg, ha, teptr_some, teptr_none, tslotO_some, frag_tatt, hk0]
    rcases tth_cases hth with rfl | rfl | rfl | rfl
    · refine ends_plan [.pack (GD.tatt a) 5 [10, 11], .pack (GD.teng s) 0 [1, 2, 3, 4, 5, 6, 7, 8]] [0] ?_ ?_ ?_ <;> simp [frag_tatt, frag_teng, tengC, tps, teptr_some, teptr_none, ha, tslotO_some, u1, u2, u3, taskC, hk0]
    · refine ends_plan [.pack (GD.tatt a) 5 [10, 11], .pack (GD.teng s) 0 [1, 2, 3, 4, 6, 5, 7, 8]] [0] ?_ ?_ ?_ <;> simp [frag_tatt, frag_teng, tengC, tps, teptr_some, teptr_none, ha, tslotO_some, u1, u2, u3, taskC, hk0]
    · refine ends_plan [.pack (GD.tatt a) 5 [10, 11], .pack (GD.teng s) 0 [1, 2, 3, 4, 6, 7, 5, 8]] [0] ?_ ?_ ?_ <;> simp [frag_tatt, frag_teng, tengC, tps, teptr_some, teptr_none, ha, tslotO_some, u1, u2, u3, taskC, hk0]
    · refine ends_plan [.pack (GD.tatt a) 5 [10, 11], .pack (GD.teng s) 0 [1, 2, 3, 4, 6, 7, 8, 5]] [0] ?_ ?_ ?_ <;> simp [frag_tatt, frag_teng, tengC, tps, teptr_some, teptr_none, ha, tslotO_some, u1, u2, u3, taskC, hk0]
theorem task_range (d : GD) (t : Int) (ht : t < 0 ∨ 4 ≤ t) (x : Ak) : Runs Tryz.prog cfg 14 [.pointer (some ⟨0, 0, none⟩), .int .i64 t, .agg #[.int .u8 x.k, .int .i64 x.t, .int .u64 x.v]] (AH.of [some (.hi d)])
    fun r H' => r = .ret (.int .i64 2) ∧ H' = AH.of [some (.hi d)] := by
  refine Runs.ends ?_
  have ht' : ¬ t < 0 → 4 ≤ t := fun h => by omega
  refine runs_by (tbl := []) (by simp) 0 3 (af := a14) rfl ?_
  rw [a14, b14, run_eq]
  refine ⟨by simp, ?_⟩
  by_cases h1 : t < 0
  · simp (implicitDefEqProofs := false) [forms46, a46, b46, h1]
    refine ends_plan [] [0] ?_ ?_ ?_ <;> simp
  · simp (implicitDefEqProofs := false) [forms46, a46, b46, h1, ht' h1]
    refine ends_plan [] [0] ?_ ?_ ?_ <;> simp
end YtapbabkndhaemaaGreat
end Go.Proofs
/-
  TL2: Step. (Printed by tools/genstep_t.py.)
-/
namespace Go.Proofs
namespace YtapbabkndhaemaaGreat
open Go.Abs
theorem tev_room2 {n : Nat} (h : n ≤ 100000) : (n + 1 + 1) * 32 ≤ 140737488355328 ∧ n + 1 ≤ 9223372036854775806 := ⟨by omega, Nat.le_trans (Nat.succ_le_succ h) (by decide)⟩
theorem tev_room {n : Nat} (h : n ≤ 100000) : (n + 1) * 32 ≤ 140737488355328 ∧ n ≤ 9223372036854775806 := ⟨by omega, Nat.le_trans h (by decide)⟩
theorem tevs_pair (d e : Ev) : evs [d, e] = [.int .u8 d.k, .int .i64 d.a, .int .i64 d.t, .int .u64 d.v, .int .u8 e.k, .int .i64 e.a, .int .i64 e.t, .int .u64 e.v] := rfl
theorem ttake_evs7 (l : List Ev) (n : Nat) : (evs l ++ ([.int .u8 7, .int .i64 n, .int .i64 0, .int .u64 0] : List Value)).take ((l.length + 1) * 4) = evs l ++ ([.int .u8 7, .int .i64 n, .int .i64 0, .int .u64 0] : List Value) := by
  refine List.take_of_length_le ?_
  rw [List.length_append, evs_length]
  simp only [List.length_cons, List.length_nil]
  omega
theorem trows_cell {l : List Ent} {i : Nat} {e : Ent} (h : l[i]? = some e) : (rows l)[i * 3]? = some (.int .i64 e.t) ∧ (rows l)[i * 3 + 1]? = some (.int .u64 e.v) := by
  have h3 := many_rows h
  have g : ∀ j, j < 3 → (rows l)[i * 3 + j]? = e.cells[j]? := fun j hj => by
    rw [← h3, List.getElem?_take, if_pos hj, List.getElem?_drop]
  exact ⟨g 0 (by omega), g 1 (by omega)⟩
def tblUs : List (FuncId × CStep GD) := [(103, st103), (102, st102), (206, st206), (152, st152), (113, st113), (58, st58), (209, st209), (156, st156), (210, st210), (239, stStrOwn), (104, st104), (208, st208),
  (98, st98), (153, st153), (112, dataSt d112), (55, st55), (158, dataSt d158), (159, dataSt d159), (160, dataSt d160), (161, dataSt d161)]
theorem tblUs_ok : ∀ x ∈ tblUs, CStepOk Tryz.prog cfg x.1 x.2 := by simp [tblUs, st103_ok, st102_ok, st206_ok, st152_ok, st113_ok, st58_ok, st209_ok, st156_ok, st210_ok, stStrOwn_ok, st104_ok, st208_ok, st98_ok, st153_ok, st112_ok, st55_ok, st158_ok, st159_ok, st160_ok, st161_ok]
set_option maxRecDepth 10000 in
set_option maxHeartbeats 8000000 in
theorem tstep_rg (s : TS) (hs : s.Ok) (hev : s.ev.length ≤ 100000) (th : Nat) (hth : th < 4) (a : TA) (ha : s.ts th = some a) (hk1 : a.ra.k = 1) (v : Int) (hv : getLog a.fs a.ra.t = some v) : Runs Tryz.prog cfg 15 [.pointer (some ⟨0, 0, none⟩), .int .i64 th] (AH.of [some (.hi (.teng s))])
    fun r H' => r = .ret (rpDone v).v ∧ H' = AH.of [some (.hi (.teng (tgotS s th (a) v)))] := by
  refine Runs.ends ?_
  generalize hS : ((tgotS s th (a) v) : TS) = S'
  refine Runs.openTEng hth ?_
  have z1 : ¬ (th : Int) < 0 := by omega
  have z2 : ¬ 4 ≤ (th : Int) := by omega
  have z3 : (th : Int) < 4 := by omega
  have z4 : 2 + th + 1 ≤ 8 := by omega
  have gt : ∀ a b q ts x y, (tengC a b th q ts x y)[2 + th]? = some q := fun a b q ts x y => tengC_t a b hth q ts x y
  have gg : ∀ a b q ts x y (h : 2 + th < (tengC a b th q ts x y).length), (tengC a b th q ts x y)[2 + th]'h = q := fun a b q ts x y h => tengC_gt a b hth q ts x y h
  have gs : ∀ a b q ts x y v, (tengC a b th q ts x y).set (2 + th) v = tengC a b th v ts x y := fun a b q ts x y v => tengC_st a b hth q ts x y v
  have hok := hs.ts th a ha
  have hg := hs.tab
  have hel := tev_room hev
  have t3 := take_evs s.ev
  have hgl := hok.fs
  have hra := hok.ask.2.2.1 (.inl hk1)
  have w01 : IntKind.i64.wrap (0 + 1) = 1 := by decide
  have w1 : IntKind.i64.wrap 1 = 1 := by decide
  have w11 : IntKind.i64.wrap (1 + 1) = 2 := by decide
  have w2 : IntKind.i64.wrap 2 = 2 := by decide
  have w21 : IntKind.i64.wrap (2 + 1) = 3 := by decide
  have w3 : IntKind.i64.wrap 3 = 3 := by decide
  refine runs_by (tbl := tblUs) tblUs_ok 0 5 (af := a15) rfl ?_
  rw [a15, b15, run_eq]
  refine ⟨by simp, ?_⟩
  simp (implicitDefEqProofs := false) [tengL, tblUs, dataSt, pureStep, forms46, a46, b46, forms50, a50, b50, forms53, a53, b53, forms56, a56, b56, forms157, a157, b157, forms109, a109, b109, forms110, a110, b110, forms150, a150, b150, forms151, a151, b151, forms108, a108, b108, forms111, a111, b111, forms155, a155, b155, forms51, a51, b51, forms162, a162, b162, z1, z2, z3, z4, gt, gg, gs, tengC_0, tengC_1, tengC_6, tengC_7, tengC_g0, tengC_g1, tengC_g6, tengC_g7, tengC_s6, tengC_s7, tengC_len, ha, teptr_some, teptr_none, tslotO_some, frag_tatt, hg, hel, t3, evs_length, st103, st102, st206, st152, d112, optR, hk1, hgl, hv, w01, w1, w11, w2, w21, w3]
  subst hS
  rcases tth_cases hth with rfl | rfl | rfl | rfl
  · refine ends_plan [.pack (GD.tatt { (a) with ra := ⟨0, 0, 0⟩ }) 5 [10, 11], .pack (GD.teng (tgotS s 0 (a) v)) 0 [1, 2, 16, 4, 5, 6, 7, 8]] [0] ?_ ?_ ?_ <;> simp [frag_tatt, frag_teng, tengC, tps, teptr_some, teptr_none, setU, ha, tslotO_some, tslotO_none, u1, u2, u3, Rp.v, Rp.cells, rpNone, rpErr, rpDone, rpEnd, rpBusy, evs_append, evs_single, us_set, whyF_len, keyF_len, tgotS]
  · refine ends_plan [.pack (GD.tatt { (a) with ra := ⟨0, 0, 0⟩ }) 5 [10, 11], .pack (GD.teng (tgotS s 1 (a) v)) 0 [1, 2, 16, 4, 6, 5, 7, 8]] [0] ?_ ?_ ?_ <;> simp [frag_tatt, frag_teng, tengC, tps, teptr_some, teptr_none, setU, ha, tslotO_some, tslotO_none, u1, u2, u3, Rp.v, Rp.cells, rpNone, rpErr, rpDone, rpEnd, rpBusy, evs_append, evs_single, us_set, whyF_len, keyF_len, tgotS]
  · refine ends_plan [.pack (GD.tatt { (a) with ra := ⟨0, 0, 0⟩ }) 5 [10, 11], .pack (GD.teng (tgotS s 2 (a) v)) 0 [1, 2, 16, 4, 6, 7, 5, 8]] [0] ?_ ?_ ?_ <;> simp [frag_tatt, frag_teng, tengC, tps, teptr_some, teptr_none, setU, ha, tslotO_some, tslotO_none, u1, u2, u3, Rp.v, Rp.cells, rpNone, rpErr, rpDone, rpEnd, rpBusy, evs_append, evs_single, us_set, whyF_len, keyF_len, tgotS]
  · refine ends_plan [.pack (GD.tatt { (a) with ra := ⟨0, 0, 0⟩ }) 5 [10, 11], .pack (GD.teng (tgotS s 3 (a) v)) 0 [1, 2, 16, 4, 6, 7, 8, 5]] [0] ?_ ?_ ?_ <;> simp [frag_tatt, frag_teng, tengC, tps, teptr_some, teptr_none, setU, ha, tslotO_some, tslotO_none, u1, u2, u3, Rp.v, Rp.cells, rpNone, rpErr, rpDone, rpEnd, rpBusy, evs_append, evs_single, us_set, whyF_len, keyF_len, tgotS]
set_option maxRecDepth 10000 in
set_option maxHeartbeats 8000000 in
theorem tstep_r0b (s : TS) (hs : s.Ok) (hev : s.ev.length ≤ 100000) (th : Nat) (hth : th < 4) (a : TA) (ha : s.ts th = some a) (hk1 : a.ra.k = 1) (hv : getLog a.fs a.ra.t = none) (st : Int) (hst : ofT s.ws a.ra.t = st) (hss : a.ss = 0) (o : Int) (hB : ownTB s.ws st = true) (hO : ownTV s.ws st = o) (hne : ¬ o = (th : Int)) : Runs Tryz.prog cfg 15 [.pointer (some ⟨0, 0, none⟩), .int .i64 th] (AH.of [some (.hi (.teng s))])
    fun r H' => r = .ret (rpBusy o).v ∧ H' = AH.of [some (.hi (.teng (s)))] := by
  refine Runs.ends ?_
  refine Runs.openTEng hth ?_
  have z1 : ¬ (th : Int) < 0 := by omega
  have z2 : ¬ 4 ≤ (th : Int) := by omega
  have z3 : (th : Int) < 4 := by omega
  have z4 : 2 + th + 1 ≤ 8 := by omega
  have gt : ∀ a b q ts x y, (tengC a b th q ts x y)[2 + th]? = some q := fun a b q ts x y => tengC_t a b hth q ts x y
  have gg : ∀ a b q ts x y (h : 2 + th < (tengC a b th q ts x y).length), (tengC a b th q ts x y)[2 + th]'h = q := fun a b q ts x y h => tengC_gt a b hth q ts x y h
  have gs : ∀ a b q ts x y v, (tengC a b th q ts x y).set (2 + th) v = tengC a b th v ts x y := fun a b q ts x y v => tengC_st a b hth q ts x y v
  have hok := hs.ts th a ha
  have hg := hs.tab
  have hel := tev_room hev
  have t3 := take_evs s.ev
  have hgl := hok.fs
  have hra := hok.ask.2.2.1 (.inl hk1)
  have w01 : IntKind.i64.wrap (0 + 1) = 1 := by decide
  have w1 : IntKind.i64.wrap 1 = 1 := by decide
  have w11 : IntKind.i64.wrap (1 + 1) = 2 := by decide
  have w2 : IntKind.i64.wrap 2 = 2 := by decide
  have w21 : IntKind.i64.wrap (2 + 1) = 3 := by decide
  have w3 : IntKind.i64.wrap 3 = 3 := by decide
  refine runs_by (tbl := tblUs) tblUs_ok 0 5 (af := a15) rfl ?_
  rw [a15, b15, run_eq]
  refine ⟨by simp, ?_⟩
  simp (implicitDefEqProofs := false) [tengL, tblUs, dataSt, pureStep, forms46, a46, b46, forms50, a50, b50, forms53, a53, b53, forms56, a56, b56, forms157, a157, b157, forms109, a109, b109, forms110, a110, b110, forms150, a150, b150, forms151, a151, b151, forms108, a108, b108, forms111, a111, b111, forms155, a155, b155, forms51, a51, b51, forms162, a162, b162, z1, z2, z3, z4, gt, gg, gs, tengC_0, tengC_1, tengC_6, tengC_7, tengC_g0, tengC_g1, tengC_g6, tengC_g7, tengC_s6, tengC_s7, tengC_len, ha, teptr_some, teptr_none, tslotO_some, frag_tatt, hg, hel, t3, evs_length, st103, st102, st206, st152, d112, optR, hk1, hgl, hv, w01, w1, w11, w2, w21, w3, hst, hss, hB, hO, hne]
  rcases tth_cases hth with rfl | rfl | rfl | rfl
  · refine ends_plan [.pack (GD.tatt a) 5 [10, 11], .pack (GD.teng s) 0 [1, 2, 3, 4, 5, 6, 7, 8]] [0] ?_ ?_ ?_ <;> simp [frag_tatt, frag_teng, tengC, tps, teptr_some, teptr_none, setU, ha, tslotO_some, tslotO_none, u1, u2, u3, Rp.v, Rp.cells, rpNone, rpErr, rpDone, rpEnd, rpBusy, evs_append, evs_single, us_set, whyF_len, keyF_len, hss, hk1]
  · refine ends_plan [.pack (GD.tatt a) 5 [10, 11], .pack (GD.teng s) 0 [1, 2, 3, 4, 6, 5, 7, 8]] [0] ?_ ?_ ?_ <;> simp [frag_tatt, frag_teng, tengC, tps, teptr_some, teptr_none, setU, ha, tslotO_some, tslotO_none, u1, u2, u3, Rp.v, Rp.cells, rpNone, rpErr, rpDone, rpEnd, rpBusy, evs_append, evs_single, us_set, whyF_len, keyF_len, hss, hk1]
  · refine ends_plan [.pack (GD.tatt a) 5 [10, 11], .pack (GD.teng s) 0 [1, 2, 3, 4, 6, 7, 5, 8]] [0] ?_ ?_ ?_ <;> simp [frag_tatt, frag_teng, tengC, tps, teptr_some, teptr_none, setU, ha, tslotO_some, tslotO_none, u1, u2, u3, Rp.v, Rp.cells, rpNone, rpErr, rpDone, rpEnd, rpBusy, evs_append, evs_single, us_set, whyF_len, keyF_len, hss, hk1]
  · refine ends_plan [.pack (GD.tatt a) 5 [10, 11], .pack (GD.teng s) 0 [1, 2, 3, 4, 6, 7, 8, 5]] [0] ?_ ?_ ?_ <;> simp [frag_tatt, frag_teng, tengC, tps, teptr_some, teptr_none, setU, ha, tslotO_some, tslotO_none, u1, u2, u3, Rp.v, Rp.cells, rpNone, rpErr, rpDone, rpEnd, rpBusy, evs_append, evs_single, us_set, whyF_len, keyF_len, hss, hk1]
set_option maxRecDepth 10000 in
set_option maxHeartbeats 8000000 in
theorem tstep_r0o (s : TS) (hs : s.Ok) (hev : s.ev.length ≤ 100000) (th : Nat) (hth : th < 4) (a : TA) (ha : s.ts th = some a) (hk1 : a.ra.k = 1) (hv : getLog a.fs a.ra.t = none) (st : Int) (hst : ofT s.ws a.ra.t = st) (hss : a.ss = 0) (hB : ownTB s.ws st = false) (ver : Int) (hV : verT s.ws st = ver) (hlt : ¬ a.rv < ver) (w : Int) (hw : wordTV s.ws st = w) : Runs Tryz.prog cfg 15 [.pointer (some ⟨0, 0, none⟩), .int .i64 th] (AH.of [some (.hi (.teng s))])
    fun r H' => r = .ret (rpNone).v ∧ H' = AH.of [some (.hi (.teng ({ s with ts := setU s.ts th (some { a with ss := 1, sw := w }) })))] := by
  refine Runs.ends ?_
  generalize hS : (({ s with ts := setU s.ts th (some { a with ss := 1, sw := w }) }) : TS) = S'
  refine Runs.openTEng hth ?_
  have z1 : ¬ (th : Int) < 0 := by omega
  have z2 : ¬ 4 ≤ (th : Int) := by omega
  have z3 : (th : Int) < 4 := by omega
  have z4 : 2 + th + 1 ≤ 8 := by omega
  have gt : ∀ a b q ts x y, (tengC a b th q ts x y)[2 + th]? = some q := fun a b q ts x y => tengC_t a b hth q ts x y
  have gg : ∀ a b q ts x y (h : 2 + th < (tengC a b th q ts x y).length), (tengC a b th q ts x y)[2 + th]'h = q := fun a b q ts x y h => tengC_gt a b hth q ts x y h
  have gs : ∀ a b q ts x y v, (tengC a b th q ts x y).set (2 + th) v = tengC a b th v ts x y := fun a b q ts x y v => tengC_st a b hth q ts x y v
  have hok := hs.ts th a ha
  have hg := hs.tab
  have hel := tev_room hev
  have t3 := take_evs s.ev
  have hgl := hok.fs
  have hra := hok.ask.2.2.1 (.inl hk1)
  have w01 : IntKind.i64.wrap (0 + 1) = 1 := by decide
  have w1 : IntKind.i64.wrap 1 = 1 := by decide
  have w11 : IntKind.i64.wrap (1 + 1) = 2 := by decide
  have w2 : IntKind.i64.wrap 2 = 2 := by decide
  have w21 : IntKind.i64.wrap (2 + 1) = 3 := by decide
  have w3 : IntKind.i64.wrap 3 = 3 := by decide
  refine runs_by (tbl := tblUs) tblUs_ok 0 5 (af := a15) rfl ?_
  rw [a15, b15, run_eq]
  refine ⟨by simp, ?_⟩
  simp (implicitDefEqProofs := false) [tengL, tblUs, dataSt, pureStep, forms46, a46, b46, forms50, a50, b50, forms53, a53, b53, forms56, a56, b56, forms157, a157, b157, forms109, a109, b109, forms110, a110, b110, forms150, a150, b150, forms151, a151, b151, forms108, a108, b108, forms111, a111, b111, forms155, a155, b155, forms51, a51, b51, forms162, a162, b162, z1, z2, z3, z4, gt, gg, gs, tengC_0, tengC_1, tengC_6, tengC_7, tengC_g0, tengC_g1, tengC_g6, tengC_g7, tengC_s6, tengC_s7, tengC_len, ha, teptr_some, teptr_none, tslotO_some, frag_tatt, hg, hel, t3, evs_length, st103, st102, st206, st152, d112, optR, hk1, hgl, hv, w01, w1, w11, w2, w21, w3, hst, hss, hB, hV, hlt, hw]
  subst hS
  rcases tth_cases hth with rfl | rfl | rfl | rfl
  · refine ends_plan [.pack (GD.tatt { a with ss := 1, sw := w }) 5 [10, 11], .pack (GD.teng ({ s with ts := setU s.ts 0 (some { a with ss := 1, sw := w }) })) 0 [1, 2, 3, 4, 5, 6, 7, 8]] [0] ?_ ?_ ?_ <;> simp [frag_tatt, frag_teng, tengC, tps, teptr_some, teptr_none, setU, ha, tslotO_some, tslotO_none, u1, u2, u3, Rp.v, Rp.cells, rpNone, rpErr, rpDone, rpEnd, rpBusy, evs_append, evs_single, us_set, whyF_len, keyF_len, hk1]
  · refine ends_plan [.pack (GD.tatt { a with ss := 1, sw := w }) 5 [10, 11], .pack (GD.teng ({ s with ts := setU s.ts 1 (some { a with ss := 1, sw := w }) })) 0 [1, 2, 3, 4, 6, 5, 7, 8]] [0] ?_ ?_ ?_ <;> simp [frag_tatt, frag_teng, tengC, tps, teptr_some, teptr_none, setU, ha, tslotO_some, tslotO_none, u1, u2, u3, Rp.v, Rp.cells, rpNone, rpErr, rpDone, rpEnd, rpBusy, evs_append, evs_single, us_set, whyF_len, keyF_len, hk1]
  · refine ends_plan [.pack (GD.tatt { a with ss := 1, sw := w }) 5 [10, 11], .pack (GD.teng ({ s with ts := setU s.ts 2 (some { a with ss := 1, sw := w }) })) 0 [1, 2, 3, 4, 6, 7, 5, 8]] [0] ?_ ?_ ?_ <;> simp [frag_tatt, frag_teng, tengC, tps, teptr_some, teptr_none, setU, ha, tslotO_some, tslotO_none, u1, u2, u3, Rp.v, Rp.cells, rpNone, rpErr, rpDone, rpEnd, rpBusy, evs_append, evs_single, us_set, whyF_len, keyF_len, hk1]
  · refine ends_plan [.pack (GD.tatt { a with ss := 1, sw := w }) 5 [10, 11], .pack (GD.teng ({ s with ts := setU s.ts 3 (some { a with ss := 1, sw := w }) })) 0 [1, 2, 3, 4, 6, 7, 8, 5]] [0] ?_ ?_ ?_ <;> simp [frag_tatt, frag_teng, tengC, tps, teptr_some, teptr_none, setU, ha, tslotO_some, tslotO_none, u1, u2, u3, Rp.v, Rp.cells, rpNone, rpErr, rpDone, rpEnd, rpBusy, evs_append, evs_single, us_set, whyF_len, keyF_len, hk1]
set_option maxRecDepth 10000 in
set_option maxHeartbeats 8000000 in
theorem tstep_r0ot (s : TS) (hs : s.Ok) (hev : s.ev.length ≤ 100000) (th : Nat) (hth : th < 4) (a : TA) (ha : s.ts th = some a) (hk1 : a.ra.k = 1) (hv : getLog a.fs a.ra.t = none) (st : Int) (hst : ofT s.ws a.ra.t = st) (hss : a.ss = 0) (hB : ownTB s.ws st = true) (hO : ownTV s.ws st = (th : Int)) (ver : Int) (hV : verT s.ws st = ver) (hlt : ¬ a.rv < ver) (w : Int) (hw : wordTV s.ws st = w) : Runs Tryz.prog cfg 15 [.pointer (some ⟨0, 0, none⟩), .int .i64 th] (AH.of [some (.hi (.teng s))])
    fun r H' => r = .ret (rpNone).v ∧ H' = AH.of [some (.hi (.teng ({ s with ts := setU s.ts th (some { a with ss := 1, sw := w }) })))] := by
  refine Runs.ends ?_
  generalize hS : (({ s with ts := setU s.ts th (some { a with ss := 1, sw := w }) }) : TS) = S'
  refine Runs.openTEng hth ?_
  have z1 : ¬ (th : Int) < 0 := by omega
  have z2 : ¬ 4 ≤ (th : Int) := by omega
  have z3 : (th : Int) < 4 := by omega
  have z4 : 2 + th + 1 ≤ 8 := by omega
  have gt : ∀ a b q ts x y, (tengC a b th q ts x y)[2 + th]? = some q := fun a b q ts x y => tengC_t a b hth q ts x y
  have gg : ∀ a b q ts x y (h : 2 + th < (tengC a b th q ts x y).length), (tengC a b th q ts x y)[2 + th]'h = q := fun a b q ts x y h => tengC_gt a b hth q ts x y h
  have gs : ∀ a b q ts x y v, (tengC a b th q ts x y).set (2 + th) v = tengC a b th v ts x y := fun a b q ts x y v => tengC_st a b hth q ts x y v
  have hok := hs.ts th a ha
  have hg := hs.tab
  have hel := tev_room hev
  have t3 := take_evs s.ev
  have hgl := hok.fs
  have hra := hok.ask.2.2.1 (.inl hk1)
  have w01 : IntKind.i64.wrap (0 + 1) = 1 := by decide
  have w1 : IntKind.i64.wrap 1 = 1 := by decide
  have w11 : IntKind.i64.wrap (1 + 1) = 2 := by decide
  have w2 : IntKind.i64.wrap 2 = 2 := by decide
  have w21 : IntKind.i64.wrap (2 + 1) = 3 := by decide
  have w3 : IntKind.i64.wrap 3 = 3 := by decide
  refine runs_by (tbl := tblUs) tblUs_ok 0 5 (af := a15) rfl ?_
  rw [a15, b15, run_eq]
  refine ⟨by simp, ?_⟩
  simp (implicitDefEqProofs := false) [tengL, tblUs, dataSt, pureStep, forms46, a46, b46, forms50, a50, b50, forms53, a53, b53, forms56, a56, b56, forms157, a157, b157, forms109, a109, b109, forms110, a110, b110, forms150, a150, b150, forms151, a151, b151, forms108, a108, b108, forms111, a111, b111, forms155, a155, b155, forms51, a51, b51, forms162, a162, b162, z1, z2, z3, z4, gt, gg, gs, tengC_0, tengC_1, tengC_6, tengC_7, tengC_g0, tengC_g1, tengC_g6, tengC_g7, tengC_s6, tengC_s7, tengC_len, ha, teptr_some, teptr_none, tslotO_some, frag_tatt, hg, hel, t3, evs_length, st103, st102, st206, st152, d112, optR, hk1, hgl, hv, w01, w1, w11, w2, w21, w3, hst, hss, hB, hV, hO, hlt, hw]
  subst hS
  rcases tth_cases hth with rfl | rfl | rfl | rfl
  · refine ends_plan [.pack (GD.tatt { a with ss := 1, sw := w }) 5 [10, 11], .pack (GD.teng ({ s with ts := setU s.ts 0 (some { a with ss := 1, sw := w }) })) 0 [1, 2, 3, 4, 5, 6, 7, 8]] [0] ?_ ?_ ?_ <;> simp [frag_tatt, frag_teng, tengC, tps, teptr_some, teptr_none, setU, ha, tslotO_some, tslotO_none, u1, u2, u3, Rp.v, Rp.cells, rpNone, rpErr, rpDone, rpEnd, rpBusy, evs_append, evs_single, us_set, whyF_len, keyF_len, hk1]
  · refine ends_plan [.pack (GD.tatt { a with ss := 1, sw := w }) 5 [10, 11], .pack (GD.teng ({ s with ts := setU s.ts 1 (some { a with ss := 1, sw := w }) })) 0 [1, 2, 3, 4, 6, 5, 7, 8]] [0] ?_ ?_ ?_ <;> simp [frag_tatt, frag_teng, tengC, tps, teptr_some, teptr_none, setU, ha, tslotO_some, tslotO_none, u1, u2, u3, Rp.v, Rp.cells, rpNone, rpErr, rpDone, rpEnd, rpBusy, evs_append, evs_single, us_set, whyF_len, keyF_len, hk1]
  · refine ends_plan [.pack (GD.tatt { a with ss := 1, sw := w }) 5 [10, 11], .pack (GD.teng ({ s with ts := setU s.ts 2 (some { a with ss := 1, sw := w }) })) 0 [1, 2, 3, 4, 6, 7, 5, 8]] [0] ?_ ?_ ?_ <;> simp [frag_tatt, frag_teng, tengC, tps, teptr_some, teptr_none, setU, ha, tslotO_some, tslotO_none, u1, u2, u3, Rp.v, Rp.cells, rpNone, rpErr, rpDone, rpEnd, rpBusy, evs_append, evs_single, us_set, whyF_len, keyF_len, hk1]
  · refine ends_plan [.pack (GD.tatt { a with ss := 1, sw := w }) 5 [10, 11], .pack (GD.teng ({ s with ts := setU s.ts 3 (some { a with ss := 1, sw := w }) })) 0 [1, 2, 3, 4, 6, 7, 8, 5]] [0] ?_ ?_ ?_ <;> simp [frag_tatt, frag_teng, tengC, tps, teptr_some, teptr_none, setU, ha, tslotO_some, tslotO_none, u1, u2, u3, Rp.v, Rp.cells, rpNone, rpErr, rpDone, rpEnd, rpBusy, evs_append, evs_single, us_set, whyF_len, keyF_len, hk1]
set_option maxRecDepth 10000 in
set_option maxHeartbeats 8000000 in
theorem tstep_r1 (s : TS) (hs : s.Ok) (hev : s.ev.length ≤ 100000) (th : Nat) (hth : th < 4) (a : TA) (ha : s.ts th = some a) (hk1 : a.ra.k = 1) (hv : getLog a.fs a.ra.t = none) (st : Int) (hst : ofT s.ws a.ra.t = st) (hss : a.ss = 1) (y : Int) (hy : s.hp[a.ra.t.toNat]? = some y) : Runs Tryz.prog cfg 15 [.pointer (some ⟨0, 0, none⟩), .int .i64 th] (AH.of [some (.hi (.teng s))])
    fun r H' => r = .ret (rpNone).v ∧ H' = AH.of [some (.hi (.teng ({ s with ts := setU s.ts th (some { a with ss := 2, sv := y }) })))] := by
  refine Runs.ends ?_
  generalize hS : (({ s with ts := setU s.ts th (some { a with ss := 2, sv := y }) }) : TS) = S'
  refine Runs.openTEng hth ?_
  have z1 : ¬ (th : Int) < 0 := by omega
  have z2 : ¬ 4 ≤ (th : Int) := by omega
  have z3 : (th : Int) < 4 := by omega
  have z4 : 2 + th + 1 ≤ 8 := by omega
  have gt : ∀ a b q ts x y, (tengC a b th q ts x y)[2 + th]? = some q := fun a b q ts x y => tengC_t a b hth q ts x y
  have gg : ∀ a b q ts x y (h : 2 + th < (tengC a b th q ts x y).length), (tengC a b th q ts x y)[2 + th]'h = q := fun a b q ts x y h => tengC_gt a b hth q ts x y h
  have gs : ∀ a b q ts x y v, (tengC a b th q ts x y).set (2 + th) v = tengC a b th v ts x y := fun a b q ts x y v => tengC_st a b hth q ts x y v
  have hok := hs.ts th a ha
  have hg := hs.tab
  have hel := tev_room hev
  have t3 := take_evs s.ev
  have hgl := hok.fs
  have hra := hok.ask.2.2.1 (.inl hk1)
  have w01 : IntKind.i64.wrap (0 + 1) = 1 := by decide
  have w1 : IntKind.i64.wrap 1 = 1 := by decide
  have w11 : IntKind.i64.wrap (1 + 1) = 2 := by decide
  have w2 : IntKind.i64.wrap 2 = 2 := by decide
  have w21 : IntKind.i64.wrap (2 + 1) = 3 := by decide
  have w3 : IntKind.i64.wrap 3 = 3 := by decide
  have uy := us_at hy
  refine runs_by (tbl := tblUs) tblUs_ok 0 5 (af := a15) rfl ?_
  rw [a15, b15, run_eq]
  refine ⟨by simp, ?_⟩
  simp (implicitDefEqProofs := false) [tengL, tblUs, dataSt, pureStep, forms46, a46, b46, forms50, a50, b50, forms53, a53, b53, forms56, a56, b56, forms157, a157, b157, forms109, a109, b109, forms110, a110, b110, forms150, a150, b150, forms151, a151, b151, forms108, a108, b108, forms111, a111, b111, forms155, a155, b155, forms51, a51, b51, forms162, a162, b162, z1, z2, z3, z4, gt, gg, gs, tengC_0, tengC_1, tengC_6, tengC_7, tengC_g0, tengC_g1, tengC_g6, tengC_g7, tengC_s6, tengC_s7, tengC_len, ha, teptr_some, teptr_none, tslotO_some, frag_tatt, hg, hel, t3, evs_length, st103, st102, st206, st152, d112, optR, hk1, hgl, hv, w01, w1, w11, w2, w21, w3, hst, hss, hra, uy]
  subst hS
  rcases tth_cases hth with rfl | rfl | rfl | rfl
  · refine ends_plan [.pack (GD.tatt { a with ss := 2, sv := y }) 5 [10, 11], .pack (GD.teng ({ s with ts := setU s.ts 0 (some { a with ss := 2, sv := y }) })) 0 [1, 2, 3, 4, 5, 6, 7, 8]] [0] ?_ ?_ ?_ <;> simp [frag_tatt, frag_teng, tengC, tps, teptr_some, teptr_none, setU, ha, tslotO_some, tslotO_none, u1, u2, u3, Rp.v, Rp.cells, rpNone, rpErr, rpDone, rpEnd, rpBusy, evs_append, evs_single, us_set, whyF_len, keyF_len, hk1]
  · refine ends_plan [.pack (GD.tatt { a with ss := 2, sv := y }) 5 [10, 11], .pack (GD.teng ({ s with ts := setU s.ts 1 (some { a with ss := 2, sv := y }) })) 0 [1, 2, 3, 4, 6, 5, 7, 8]] [0] ?_ ?_ ?_ <;> simp [frag_tatt, frag_teng, tengC, tps, teptr_some, teptr_none, setU, ha, tslotO_some, tslotO_none, u1, u2, u3, Rp.v, Rp.cells, rpNone, rpErr, rpDone, rpEnd, rpBusy, evs_append, evs_single, us_set, whyF_len, keyF_len, hk1]
  · refine ends_plan [.pack (GD.tatt { a with ss := 2, sv := y }) 5 [10, 11], .pack (GD.teng ({ s with ts := setU s.ts 2 (some { a with ss := 2, sv := y }) })) 0 [1, 2, 3, 4, 6, 7, 5, 8]] [0] ?_ ?_ ?_ <;> simp [frag_tatt, frag_teng, tengC, tps, teptr_some, teptr_none, setU, ha, tslotO_some, tslotO_none, u1, u2, u3, Rp.v, Rp.cells, rpNone, rpErr, rpDone, rpEnd, rpBusy, evs_append, evs_single, us_set, whyF_len, keyF_len, hk1]
  · refine ends_plan [.pack (GD.tatt { a with ss := 2, sv := y }) 5 [10, 11], .pack (GD.teng ({ s with ts := setU s.ts 3 (some { a with ss := 2, sv := y }) })) 0 [1, 2, 3, 4, 6, 7, 8, 5]] [0] ?_ ?_ ?_ <;> simp [frag_tatt, frag_teng, tengC, tps, teptr_some, teptr_none, setU, ha, tslotO_some, tslotO_none, u1, u2, u3, Rp.v, Rp.cells, rpNone, rpErr, rpDone, rpEnd, rpBusy, evs_append, evs_single, us_set, whyF_len, keyF_len, hk1]
set_option maxRecDepth 10000 in
set_option maxHeartbeats 8000000 in
theorem tstep_r2g (s : TS) (hs : s.Ok) (hev : s.ev.length ≤ 100000) (th : Nat) (hth : th < 4) (a : TA) (ha : s.ts th = some a) (hk1 : a.ra.k = 1) (hv : getLog a.fs a.ra.t = none) (st : Int) (hst : ofT s.ws a.ra.t = st) (hss : a.ss = 2) (hw : wordTV s.ws st = a.sw) (ver : Int) (hV : verT s.ws st = ver) (hA : addCode a.es ⟨a.ra.t, a.sv, ver⟩ = 0) : Runs Tryz.prog cfg 15 [.pointer (some ⟨0, 0, none⟩), .int .i64 th] (AH.of [some (.hi (.teng s))])
    fun r H' => r = .ret (rpDone a.sv).v ∧ H' = AH.of [some (.hi (.teng (tgotS s th ({ a with ss := 3, es := addL a.es ⟨a.ra.t, a.sv, ver⟩ }) a.sv)))] := by
  refine Runs.ends ?_
  generalize hS : ((tgotS s th ({ a with ss := 3, es := addL a.es ⟨a.ra.t, a.sv, ver⟩ }) a.sv) : TS) = S'
  refine Runs.openTEng hth ?_
  have z1 : ¬ (th : Int) < 0 := by omega
  have z2 : ¬ 4 ≤ (th : Int) := by omega
  have z3 : (th : Int) < 4 := by omega
  have z4 : 2 + th + 1 ≤ 8 := by omega
  have gt : ∀ a b q ts x y, (tengC a b th q ts x y)[2 + th]? = some q := fun a b q ts x y => tengC_t a b hth q ts x y
  have gg : ∀ a b q ts x y (h : 2 + th < (tengC a b th q ts x y).length), (tengC a b th q ts x y)[2 + th]'h = q := fun a b q ts x y h => tengC_gt a b hth q ts x y h
  have gs : ∀ a b q ts x y v, (tengC a b th q ts x y).set (2 + th) v = tengC a b th v ts x y := fun a b q ts x y v => tengC_st a b hth q ts x y v
  have hok := hs.ts th a ha
  have hg := hs.tab
  have hel := tev_room hev
  have t3 := take_evs s.ev
  have hgl := hok.fs
  have hra := hok.ask.2.2.1 (.inl hk1)
  have w01 : IntKind.i64.wrap (0 + 1) = 1 := by decide
  have w1 : IntKind.i64.wrap 1 = 1 := by decide
  have w11 : IntKind.i64.wrap (1 + 1) = 2 := by decide
  have w2 : IntKind.i64.wrap 2 = 2 := by decide
  have w21 : IntKind.i64.wrap (2 + 1) = 3 := by decide
  have w3 : IntKind.i64.wrap 3 = 3 := by decide
  have hgu := hok.es.uniq
  refine runs_by (tbl := tblUs) tblUs_ok 0 5 (af := a15) rfl ?_
  rw [a15, b15, run_eq]
  refine ⟨by simp, ?_⟩
  simp (implicitDefEqProofs := false) [tengL, tblUs, dataSt, pureStep, forms46, a46, b46, forms50, a50, b50, forms53, a53, b53, forms56, a56, b56, forms157, a157, b157, forms109, a109, b109, forms110, a110, b110, forms150, a150, b150, forms151, a151, b151, forms108, a108, b108, forms111, a111, b111, forms155, a155, b155, forms51, a51, b51, forms162, a162, b162, z1, z2, z3, z4, gt, gg, gs, tengC_0, tengC_1, tengC_6, tengC_7, tengC_g0, tengC_g1, tengC_g6, tengC_g7, tengC_s6, tengC_s7, tengC_len, ha, teptr_some, teptr_none, tslotO_some, frag_tatt, hg, hel, t3, evs_length, st103, st102, st206, st152, d112, optR, hk1, hgl, hv, w01, w1, w11, w2, w21, w3, st153, hst, hss, hw, hV, hgu, hA]
  subst hS
  rcases tth_cases hth with rfl | rfl | rfl | rfl
  · refine ends_plan [.pack (GD.tatt { ({ a with ss := 3, es := addL a.es ⟨a.ra.t, a.sv, ver⟩ }) with ra := ⟨0, 0, 0⟩ }) 5 [10, 11], .pack (GD.teng (tgotS s 0 ({ a with ss := 3, es := addL a.es ⟨a.ra.t, a.sv, ver⟩ }) a.sv)) 0 [1, 2, 16, 4, 5, 6, 7, 8]] [0] ?_ ?_ ?_ <;> simp [frag_tatt, frag_teng, tengC, tps, teptr_some, teptr_none, setU, ha, tslotO_some, tslotO_none, u1, u2, u3, Rp.v, Rp.cells, rpNone, rpErr, rpDone, rpEnd, rpBusy, evs_append, evs_single, us_set, whyF_len, keyF_len, tgotS]
  · refine ends_plan [.pack (GD.tatt { ({ a with ss := 3, es := addL a.es ⟨a.ra.t, a.sv, ver⟩ }) with ra := ⟨0, 0, 0⟩ }) 5 [10, 11], .pack (GD.teng (tgotS s 1 ({ a with ss := 3, es := addL a.es ⟨a.ra.t, a.sv, ver⟩ }) a.sv)) 0 [1, 2, 16, 4, 6, 5, 7, 8]] [0] ?_ ?_ ?_ <;> simp [frag_tatt, frag_teng, tengC, tps, teptr_some, teptr_none, setU, ha, tslotO_some, tslotO_none, u1, u2, u3, Rp.v, Rp.cells, rpNone, rpErr, rpDone, rpEnd, rpBusy, evs_append, evs_single, us_set, whyF_len, keyF_len, tgotS]
  · refine ends_plan [.pack (GD.tatt { ({ a with ss := 3, es := addL a.es ⟨a.ra.t, a.sv, ver⟩ }) with ra := ⟨0, 0, 0⟩ }) 5 [10, 11], .pack (GD.teng (tgotS s 2 ({ a with ss := 3, es := addL a.es ⟨a.ra.t, a.sv, ver⟩ }) a.sv)) 0 [1, 2, 16, 4, 6, 7, 5, 8]] [0] ?_ ?_ ?_ <;> simp [frag_tatt, frag_teng, tengC, tps, teptr_some, teptr_none, setU, ha, tslotO_some, tslotO_none, u1, u2, u3, Rp.v, Rp.cells, rpNone, rpErr, rpDone, rpEnd, rpBusy, evs_append, evs_single, us_set, whyF_len, keyF_len, tgotS]
  · refine ends_plan [.pack (GD.tatt { ({ a with ss := 3, es := addL a.es ⟨a.ra.t, a.sv, ver⟩ }) with ra := ⟨0, 0, 0⟩ }) 5 [10, 11], .pack (GD.teng (tgotS s 3 ({ a with ss := 3, es := addL a.es ⟨a.ra.t, a.sv, ver⟩ }) a.sv)) 0 [1, 2, 16, 4, 6, 7, 8, 5]] [0] ?_ ?_ ?_ <;> simp [frag_tatt, frag_teng, tengC, tps, teptr_some, teptr_none, setU, ha, tslotO_some, tslotO_none, u1, u2, u3, Rp.v, Rp.cells, rpNone, rpErr, rpDone, rpEnd, rpBusy, evs_append, evs_single, us_set, whyF_len, keyF_len, tgotS]
end YtapbabkndhaemaaGreat
end Go.Proofs
/-
  TL2: Step. (Printed by tools/genstep_t.py.)
-/
namespace Go.Proofs
namespace YtapbabkndhaemaaGreat
open Go.Abs
set_option maxRecDepth 10000 in
set_option maxHeartbeats 8000000 in
theorem tstep_r0c (s : TS) (hs : s.Ok) (hev : s.ev.length ≤ 100000) (th : Nat) (hth : th < 4) (a : TA) (ha : s.ts th = some a) (hk1 : a.ra.k = 1) (hv : getLog a.fs a.ra.t = none) (st : Int) (hst : ofT s.ws a.ra.t = st) (hss : a.ss = 0) (hB : ownTB s.ws st = false) (ver : Int) (hV : verT s.ws st = ver) (hlt : a.rv < ver) (W : List Int) (hW : dropL s.ws th = W) : Runs Tryz.prog cfg 15 [.pointer (some ⟨0, 0, none⟩), .int .i64 th] (AH.of [some (.hi (.teng s))])
    fun r H' => r = .ret (rpEnd 1).v ∧ H' = AH.of [some (.hi (.teng ({ ws := W, c := s.c, hp := s.hp, ts := setU s.ts th none, ev := s.ev ++ [⟨9, a.n, 0, 0⟩], ft := whyF s.ft a.n 1 })))] := by
  refine Runs.ends ?_
  generalize hS : (({ ws := W, c := s.c, hp := s.hp, ts := setU s.ts th none, ev := s.ev ++ [⟨9, a.n, 0, 0⟩], ft := whyF s.ft a.n 1 }) : TS) = S'
  refine Runs.openTEng hth ?_
  have z1 : ¬ (th : Int) < 0 := by omega
  have z2 : ¬ 4 ≤ (th : Int) := by omega
  have z3 : (th : Int) < 4 := by omega
  have z4 : 2 + th + 1 ≤ 8 := by omega
  have gt : ∀ a b q ts x y, (tengC a b th q ts x y)[2 + th]? = some q := fun a b q ts x y => tengC_t a b hth q ts x y
  have gg : ∀ a b q ts x y (h : 2 + th < (tengC a b th q ts x y).length), (tengC a b th q ts x y)[2 + th]'h = q := fun a b q ts x y h => tengC_gt a b hth q ts x y h
  have gs : ∀ a b q ts x y v, (tengC a b th q ts x y).set (2 + th) v = tengC a b th v ts x y := fun a b q ts x y v => tengC_st a b hth q ts x y v
  have hok := hs.ts th a ha
  have hg := hs.tab
  have hel := tev_room hev
  have t3 := take_evs s.ev
  have hgl := hok.fs
  have hra := hok.ask.2.2.1 (.inl hk1)
  have w01 : IntKind.i64.wrap (0 + 1) = 1 := by decide
  have w1 : IntKind.i64.wrap 1 = 1 := by decide
  have w11 : IntKind.i64.wrap (1 + 1) = 2 := by decide
  have w2 : IntKind.i64.wrap 2 = 2 := by decide
  have w21 : IntKind.i64.wrap (2 + 1) = 3 := by decide
  have w3 : IntKind.i64.wrap 3 = 3 := by decide
  have hn1 := hok.n
  have hn2 : (a.n : Int) < s.ft.length := by omega
  have hn3 : a.n * 3 + 2 + 1 ≤ s.ft.length * 3 := by omega
  have hfw := fates_why 1 hok.n
  refine runs_by (tbl := tblUs) tblUs_ok 0 5 (af := a15) rfl ?_
  rw [a15, b15, run_eq]
  refine ⟨by simp, ?_⟩
  simp (implicitDefEqProofs := false) [tengL, tblUs, dataSt, pureStep, forms46, a46, b46, forms50, a50, b50, forms53, a53, b53, forms56, a56, b56, forms157, a157, b157, forms109, a109, b109, forms110, a110, b110, forms150, a150, b150, forms151, a151, b151, forms108, a108, b108, forms111, a111, b111, forms155, a155, b155, forms51, a51, b51, forms162, a162, b162, z1, z2, z3, z4, gt, gg, gs, tengC_0, tengC_1, tengC_6, tengC_7, tengC_g0, tengC_g1, tengC_g6, tengC_g7, tengC_s6, tengC_s7, tengC_len, ha, teptr_some, teptr_none, tslotO_some, frag_tatt, hg, hel, t3, evs_length, st103, st102, st206, st152, d112, optR, hk1, hgl, hv, w01, w1, w11, w2, w21, w3, hst, hss, hB, hV, hlt, st113, hW, hn1, hn2, hn3, hfw, fates_length]
  subst hS
  rcases tth_cases hth with rfl | rfl | rfl | rfl
  · refine ends_plan [.nil 98, .pack (GD.teng ({ ws := W, c := s.c, hp := s.hp, ts := setU s.ts 0 none, ev := s.ev ++ [⟨9, a.n, 0, 0⟩], ft := whyF s.ft a.n 1 })) 0 [1, 2, 18, 4, 19, 6, 7, 8]] [0] ?_ ?_ ?_ <;> simp [frag_tatt, frag_teng, tengC, tps, teptr_some, teptr_none, setU, ha, tslotO_some, tslotO_none, u1, u2, u3, Rp.v, Rp.cells, rpNone, rpErr, rpDone, rpEnd, rpBusy, evs_append, evs_single, us_set, whyF_len, keyF_len]
  · refine ends_plan [.nil 98, .pack (GD.teng ({ ws := W, c := s.c, hp := s.hp, ts := setU s.ts 1 none, ev := s.ev ++ [⟨9, a.n, 0, 0⟩], ft := whyF s.ft a.n 1 })) 0 [1, 2, 18, 4, 6, 19, 7, 8]] [0] ?_ ?_ ?_ <;> simp [frag_tatt, frag_teng, tengC, tps, teptr_some, teptr_none, setU, ha, tslotO_some, tslotO_none, u1, u2, u3, Rp.v, Rp.cells, rpNone, rpErr, rpDone, rpEnd, rpBusy, evs_append, evs_single, us_set, whyF_len, keyF_len]
  · refine ends_plan [.nil 98, .pack (GD.teng ({ ws := W, c := s.c, hp := s.hp, ts := setU s.ts 2 none, ev := s.ev ++ [⟨9, a.n, 0, 0⟩], ft := whyF s.ft a.n 1 })) 0 [1, 2, 18, 4, 6, 7, 19, 8]] [0] ?_ ?_ ?_ <;> simp [frag_tatt, frag_teng, tengC, tps, teptr_some, teptr_none, setU, ha, tslotO_some, tslotO_none, u1, u2, u3, Rp.v, Rp.cells, rpNone, rpErr, rpDone, rpEnd, rpBusy, evs_append, evs_single, us_set, whyF_len, keyF_len]
  · refine ends_plan [.nil 98, .pack (GD.teng ({ ws := W, c := s.c, hp := s.hp, ts := setU s.ts 3 none, ev := s.ev ++ [⟨9, a.n, 0, 0⟩], ft := whyF s.ft a.n 1 })) 0 [1, 2, 18, 4, 6, 7, 8, 19]] [0] ?_ ?_ ?_ <;> simp [frag_tatt, frag_teng, tengC, tps, teptr_some, teptr_none, setU, ha, tslotO_some, tslotO_none, u1, u2, u3, Rp.v, Rp.cells, rpNone, rpErr, rpDone, rpEnd, rpBusy, evs_append, evs_single, us_set, whyF_len, keyF_len]
set_option maxRecDepth 10000 in
set_option maxHeartbeats 8000000 in
theorem tstep_r0ct (s : TS) (hs : s.Ok) (hev : s.ev.length ≤ 100000) (th : Nat) (hth : th < 4) (a : TA) (ha : s.ts th = some a) (hk1 : a.ra.k = 1) (hv : getLog a.fs a.ra.t = none) (st : Int) (hst : ofT s.ws a.ra.t = st) (hss : a.ss = 0) (hB : ownTB s.ws st = true) (hO : ownTV s.ws st = (th : Int)) (ver : Int) (hV : verT s.ws st = ver) (hlt : a.rv < ver) (W : List Int) (hW : dropL s.ws th = W) : Runs Tryz.prog cfg 15 [.pointer (some ⟨0, 0, none⟩), .int .i64 th] (AH.of [some (.hi (.teng s))])
    fun r H' => r = .ret (rpEnd 1).v ∧ H' = AH.of [some (.hi (.teng ({ ws := W, c := s.c, hp := s.hp, ts := setU s.ts th none, ev := s.ev ++ [⟨9, a.n, 0, 0⟩], ft := whyF s.ft a.n 1 })))] := by
  refine Runs.ends ?_
  generalize hS : (({ ws := W, c := s.c, hp := s.hp, ts := setU s.ts th none, ev := s.ev ++ [⟨9, a.n, 0, 0⟩], ft := whyF s.ft a.n 1 }) : TS) = S'
  refine Runs.openTEng hth ?_
  have z1 : ¬ (th : Int) < 0 := by omega
  have z2 : ¬ 4 ≤ (th : Int) := by omega
  have z3 : (th : Int) < 4 := by omega
  have z4 : 2 + th + 1 ≤ 8 := by omega
  have gt : ∀ a b q ts x y, (tengC a b th q ts x y)[2 + th]? = some q := fun a b q ts x y => tengC_t a b hth q ts x y
  have gg : ∀ a b q ts x y (h : 2 + th < (tengC a b th q ts x y).length), (tengC a b th q ts x y)[2 + th]'h = q := fun a b q ts x y h => tengC_gt a b hth q ts x y h
  have gs : ∀ a b q ts x y v, (tengC a b th q ts x y).set (2 + th) v = tengC a b th v ts x y := fun a b q ts x y v => tengC_st a b hth q ts x y v
  have hok := hs.ts th a ha
  have hg := hs.tab
  have hel := tev_room hev
  have t3 := take_evs s.ev
  have hgl := hok.fs
  have hra := hok.ask.2.2.1 (.inl hk1)
  have w01 : IntKind.i64.wrap (0 + 1) = 1 := by decide
  have w1 : IntKind.i64.wrap 1 = 1 := by decide
  have w11 : IntKind.i64.wrap (1 + 1) = 2 := by decide
  have w2 : IntKind.i64.wrap 2 = 2 := by decide
  have w21 : IntKind.i64.wrap (2 + 1) = 3 := by decide
  have w3 : IntKind.i64.wrap 3 = 3 := by decide
  have hn1 := hok.n
  have hn2 : (a.n : Int) < s.ft.length := by omega
  have hn3 : a.n * 3 + 2 + 1 ≤ s.ft.length * 3 := by omega
  have hfw := fates_why 1 hok.n
  refine runs_by (tbl := tblUs) tblUs_ok 0 5 (af := a15) rfl ?_
  rw [a15, b15, run_eq]
  refine ⟨by simp, ?_⟩
  simp (implicitDefEqProofs := false) [tengL, tblUs, dataSt, pureStep, forms46, a46, b46, forms50, a50, b50, forms53, a53, b53, forms56, a56, b56, forms157, a157, b157, forms109, a109, b109, forms110, a110, b110, forms150, a150, b150, forms151, a151, b151, forms108, a108, b108, forms111, a111, b111, forms155, a155, b155, forms51, a51, b51, forms162, a162, b162, z1, z2, z3, z4, gt, gg, gs, tengC_0, tengC_1, tengC_6, tengC_7, tengC_g0, tengC_g1, tengC_g6, tengC_g7, tengC_s6, tengC_s7, tengC_len, ha, teptr_some, teptr_none, tslotO_some, frag_tatt, hg, hel, t3, evs_length, st103, st102, st206, st152, d112, optR, hk1, hgl, hv, w01, w1, w11, w2, w21, w3, hst, hss, hB, hV, hO, hlt, st113, hW, hn1, hn2, hn3, hfw, fates_length]
  subst hS
  rcases tth_cases hth with rfl | rfl | rfl | rfl
  · refine ends_plan [.nil 98, .pack (GD.teng ({ ws := W, c := s.c, hp := s.hp, ts := setU s.ts 0 none, ev := s.ev ++ [⟨9, a.n, 0, 0⟩], ft := whyF s.ft a.n 1 })) 0 [1, 2, 18, 4, 19, 6, 7, 8]] [0] ?_ ?_ ?_ <;> simp [frag_tatt, frag_teng, tengC, tps, teptr_some, teptr_none, setU, ha, tslotO_some, tslotO_none, u1, u2, u3, Rp.v, Rp.cells, rpNone, rpErr, rpDone, rpEnd, rpBusy, evs_append, evs_single, us_set, whyF_len, keyF_len]
  · refine ends_plan [.nil 98, .pack (GD.teng ({ ws := W, c := s.c, hp := s.hp, ts := setU s.ts 1 none, ev := s.ev ++ [⟨9, a.n, 0, 0⟩], ft := whyF s.ft a.n 1 })) 0 [1, 2, 18, 4, 6, 19, 7, 8]] [0] ?_ ?_ ?_ <;> simp [frag_tatt, frag_teng, tengC, tps, teptr_some, teptr_none, setU, ha, tslotO_some, tslotO_none, u1, u2, u3, Rp.v, Rp.cells, rpNone, rpErr, rpDone, rpEnd, rpBusy, evs_append, evs_single, us_set, whyF_len, keyF_len]
  · refine ends_plan [.nil 98, .pack (GD.teng ({ ws := W, c := s.c, hp := s.hp, ts := setU s.ts 2 none, ev := s.ev ++ [⟨9, a.n, 0, 0⟩], ft := whyF s.ft a.n 1 })) 0 [1, 2, 18, 4, 6, 7, 19, 8]] [0] ?_ ?_ ?_ <;> simp [frag_tatt, frag_teng, tengC, tps, teptr_some, teptr_none, setU, ha, tslotO_some, tslotO_none, u1, u2, u3, Rp.v, Rp.cells, rpNone, rpErr, rpDone, rpEnd, rpBusy, evs_append, evs_single, us_set, whyF_len, keyF_len]
  · refine ends_plan [.nil 98, .pack (GD.teng ({ ws := W, c := s.c, hp := s.hp, ts := setU s.ts 3 none, ev := s.ev ++ [⟨9, a.n, 0, 0⟩], ft := whyF s.ft a.n 1 })) 0 [1, 2, 18, 4, 6, 7, 8, 19]] [0] ?_ ?_ ?_ <;> simp [frag_tatt, frag_teng, tengC, tps, teptr_some, teptr_none, setU, ha, tslotO_some, tslotO_none, u1, u2, u3, Rp.v, Rp.cells, rpNone, rpErr, rpDone, rpEnd, rpBusy, evs_append, evs_single, us_set, whyF_len, keyF_len]
set_option maxRecDepth 10000 in
set_option maxHeartbeats 8000000 in
theorem tstep_r2n (s : TS) (hs : s.Ok) (hev : s.ev.length ≤ 100000) (th : Nat) (hth : th < 4) (a : TA) (ha : s.ts th = some a) (hk1 : a.ra.k = 1) (hv : getLog a.fs a.ra.t = none) (st : Int) (hst : ofT s.ws a.ra.t = st) (hss : a.ss = 2) (w : Int) (hw : wordTV s.ws st = w) (hne : ¬ w = a.sw) (W : List Int) (hW : dropL s.ws th = W) : Runs Tryz.prog cfg 15 [.pointer (some ⟨0, 0, none⟩), .int .i64 th] (AH.of [some (.hi (.teng s))])
    fun r H' => r = .ret (rpEnd 1).v ∧ H' = AH.of [some (.hi (.teng ({ ws := W, c := s.c, hp := s.hp, ts := setU s.ts th none, ev := s.ev ++ [⟨9, a.n, 0, 0⟩], ft := whyF s.ft a.n 1 })))] := by
  refine Runs.ends ?_
  generalize hS : (({ ws := W, c := s.c, hp := s.hp, ts := setU s.ts th none, ev := s.ev ++ [⟨9, a.n, 0, 0⟩], ft := whyF s.ft a.n 1 }) : TS) = S'
  refine Runs.openTEng hth ?_
  have z1 : ¬ (th : Int) < 0 := by omega
  have z2 : ¬ 4 ≤ (th : Int) := by omega
  have z3 : (th : Int) < 4 := by omega
  have z4 : 2 + th + 1 ≤ 8 := by omega
  have gt : ∀ a b q ts x y, (tengC a b th q ts x y)[2 + th]? = some q := fun a b q ts x y => tengC_t a b hth q ts x y
  have gg : ∀ a b q ts x y (h : 2 + th < (tengC a b th q ts x y).length), (tengC a b th q ts x y)[2 + th]'h = q := fun a b q ts x y h => tengC_gt a b hth q ts x y h
  have gs : ∀ a b q ts x y v, (tengC a b th q ts x y).set (2 + th) v = tengC a b th v ts x y := fun a b q ts x y v => tengC_st a b hth q ts x y v
  have hok := hs.ts th a ha
  have hg := hs.tab
  have hel := tev_room hev
  have t3 := take_evs s.ev
  have hgl := hok.fs
  have hra := hok.ask.2.2.1 (.inl hk1)
  have w01 : IntKind.i64.wrap (0 + 1) = 1 := by decide
  have w1 : IntKind.i64.wrap 1 = 1 := by decide
  have w11 : IntKind.i64.wrap (1 + 1) = 2 := by decide
  have w2 : IntKind.i64.wrap 2 = 2 := by decide
  have w21 : IntKind.i64.wrap (2 + 1) = 3 := by decide
  have w3 : IntKind.i64.wrap 3 = 3 := by decide
  have hn1 := hok.n
  have hn2 : (a.n : Int) < s.ft.length := by omega
  have hn3 : a.n * 3 + 2 + 1 ≤ s.ft.length * 3 := by omega
  have hfw := fates_why 1 hok.n
  refine runs_by (tbl := tblUs) tblUs_ok 0 5 (af := a15) rfl ?_
  rw [a15, b15, run_eq]
  refine ⟨by simp, ?_⟩
  simp (implicitDefEqProofs := false) [tengL, tblUs, dataSt, pureStep, forms46, a46, b46, forms50, a50, b50, forms53, a53, b53, forms56, a56, b56, forms157, a157, b157, forms109, a109, b109, forms110, a110, b110, forms150, a150, b150, forms151, a151, b151, forms108, a108, b108, forms111, a111, b111, forms155, a155, b155, forms51, a51, b51, forms162, a162, b162, z1, z2, z3, z4, gt, gg, gs, tengC_0, tengC_1, tengC_6, tengC_7, tengC_g0, tengC_g1, tengC_g6, tengC_g7, tengC_s6, tengC_s7, tengC_len, ha, teptr_some, teptr_none, tslotO_some, frag_tatt, hg, hel, t3, evs_length, st103, st102, st206, st152, d112, optR, hk1, hgl, hv, w01, w1, w11, w2, w21, w3, hst, hss, hw, hne, st113, hW, hn1, hn2, hn3, hfw, fates_length]
  subst hS
  rcases tth_cases hth with rfl | rfl | rfl | rfl
  · refine ends_plan [.nil 98, .pack (GD.teng ({ ws := W, c := s.c, hp := s.hp, ts := setU s.ts 0 none, ev := s.ev ++ [⟨9, a.n, 0, 0⟩], ft := whyF s.ft a.n 1 })) 0 [1, 2, 16, 4, 17, 6, 7, 8]] [0] ?_ ?_ ?_ <;> simp [frag_tatt, frag_teng, tengC, tps, teptr_some, teptr_none, setU, ha, tslotO_some, tslotO_none, u1, u2, u3, Rp.v, Rp.cells, rpNone, rpErr, rpDone, rpEnd, rpBusy, evs_append, evs_single, us_set, whyF_len, keyF_len]
  · refine ends_plan [.nil 98, .pack (GD.teng ({ ws := W, c := s.c, hp := s.hp, ts := setU s.ts 1 none, ev := s.ev ++ [⟨9, a.n, 0, 0⟩], ft := whyF s.ft a.n 1 })) 0 [1, 2, 16, 4, 6, 17, 7, 8]] [0] ?_ ?_ ?_ <;> simp [frag_tatt, frag_teng, tengC, tps, teptr_some, teptr_none, setU, ha, tslotO_some, tslotO_none, u1, u2, u3, Rp.v, Rp.cells, rpNone, rpErr, rpDone, rpEnd, rpBusy, evs_append, evs_single, us_set, whyF_len, keyF_len]
  · refine ends_plan [.nil 98, .pack (GD.teng ({ ws := W, c := s.c, hp := s.hp, ts := setU s.ts 2 none, ev := s.ev ++ [⟨9, a.n, 0, 0⟩], ft := whyF s.ft a.n 1 })) 0 [1, 2, 16, 4, 6, 7, 17, 8]] [0] ?_ ?_ ?_ <;> simp [frag_tatt, frag_teng, tengC, tps, teptr_some, teptr_none, setU, ha, tslotO_some, tslotO_none, u1, u2, u3, Rp.v, Rp.cells, rpNone, rpErr, rpDone, rpEnd, rpBusy, evs_append, evs_single, us_set, whyF_len, keyF_len]
  · refine ends_plan [.nil 98, .pack (GD.teng ({ ws := W, c := s.c, hp := s.hp, ts := setU s.ts 3 none, ev := s.ev ++ [⟨9, a.n, 0, 0⟩], ft := whyF s.ft a.n 1 })) 0 [1, 2, 16, 4, 6, 7, 8, 17]] [0] ?_ ?_ ?_ <;> simp [frag_tatt, frag_teng, tengC, tps, teptr_some, teptr_none, setU, ha, tslotO_some, tslotO_none, u1, u2, u3, Rp.v, Rp.cells, rpNone, rpErr, rpDone, rpEnd, rpBusy, evs_append, evs_single, us_set, whyF_len, keyF_len]
set_option maxRecDepth 10000 in
set_option maxHeartbeats 8000000 in
theorem tstep_r2f (s : TS) (hs : s.Ok) (hev : s.ev.length ≤ 100000) (th : Nat) (hth : th < 4) (a : TA) (ha : s.ts th = some a) (hk1 : a.ra.k = 1) (hv : getLog a.fs a.ra.t = none) (st : Int) (hst : ofT s.ws a.ra.t = st) (hss : a.ss = 2) (hw : wordTV s.ws st = a.sw) (ver : Int) (hV : verT s.ws st = ver) (hA : ¬ addCode a.es ⟨a.ra.t, a.sv, ver⟩ = 0) (W : List Int) (hW : dropL s.ws th = W) : Runs Tryz.prog cfg 15 [.pointer (some ⟨0, 0, none⟩), .int .i64 th] (AH.of [some (.hi (.teng s))])
    fun r H' => r = .ret (rpEnd 2).v ∧ H' = AH.of [some (.hi (.teng ({ ws := W, c := s.c, hp := s.hp, ts := setU s.ts th none, ev := s.ev ++ [⟨9, a.n, 0, 0⟩], ft := whyF s.ft a.n 2 })))] := by
  refine Runs.ends ?_
  generalize hS : (({ ws := W, c := s.c, hp := s.hp, ts := setU s.ts th none, ev := s.ev ++ [⟨9, a.n, 0, 0⟩], ft := whyF s.ft a.n 2 }) : TS) = S'
  refine Runs.openTEng hth ?_
  have z1 : ¬ (th : Int) < 0 := by omega
  have z2 : ¬ 4 ≤ (th : Int) := by omega
  have z3 : (th : Int) < 4 := by omega
  have z4 : 2 + th + 1 ≤ 8 := by omega
  have gt : ∀ a b q ts x y, (tengC a b th q ts x y)[2 + th]? = some q := fun a b q ts x y => tengC_t a b hth q ts x y
  have gg : ∀ a b q ts x y (h : 2 + th < (tengC a b th q ts x y).length), (tengC a b th q ts x y)[2 + th]'h = q := fun a b q ts x y h => tengC_gt a b hth q ts x y h
  have gs : ∀ a b q ts x y v, (tengC a b th q ts x y).set (2 + th) v = tengC a b th v ts x y := fun a b q ts x y v => tengC_st a b hth q ts x y v
  have hok := hs.ts th a ha
  have hg := hs.tab
  have hel := tev_room hev
  have t3 := take_evs s.ev
  have hgl := hok.fs
  have hra := hok.ask.2.2.1 (.inl hk1)
  have w01 : IntKind.i64.wrap (0 + 1) = 1 := by decide
  have w1 : IntKind.i64.wrap 1 = 1 := by decide
  have w11 : IntKind.i64.wrap (1 + 1) = 2 := by decide
  have w2 : IntKind.i64.wrap 2 = 2 := by decide
  have w21 : IntKind.i64.wrap (2 + 1) = 3 := by decide
  have w3 : IntKind.i64.wrap 3 = 3 := by decide
  have hgu := hok.es.uniq
  have hn1 := hok.n
  have hn2 : (a.n : Int) < s.ft.length := by omega
  have hn3 : a.n * 3 + 2 + 1 ≤ s.ft.length * 3 := by omega
  have hfw := fates_why 2 hok.n
  refine runs_by (tbl := tblUs) tblUs_ok 0 5 (af := a15) rfl ?_
  rw [a15, b15, run_eq]
  refine ⟨by simp, ?_⟩
  simp (implicitDefEqProofs := false) [tengL, tblUs, dataSt, pureStep, forms46, a46, b46, forms50, a50, b50, forms53, a53, b53, forms56, a56, b56, forms157, a157, b157, forms109, a109, b109, forms110, a110, b110, forms150, a150, b150, forms151, a151, b151, forms108, a108, b108, forms111, a111, b111, forms155, a155, b155, forms51, a51, b51, forms162, a162, b162, z1, z2, z3, z4, gt, gg, gs, tengC_0, tengC_1, tengC_6, tengC_7, tengC_g0, tengC_g1, tengC_g6, tengC_g7, tengC_s6, tengC_s7, tengC_len, ha, teptr_some, teptr_none, tslotO_some, frag_tatt, hg, hel, t3, evs_length, st103, st102, st206, st152, d112, optR, hk1, hgl, hv, w01, w1, w11, w2, w21, w3, st153, hst, hss, hw, hV, hgu, hA, st113, hW, hn1, hn2, hn3, hfw, fates_length]
  subst hS
  rcases tth_cases hth with rfl | rfl | rfl | rfl
  · refine ends_plan [.nil 98, .pack (GD.teng ({ ws := W, c := s.c, hp := s.hp, ts := setU s.ts 0 none, ev := s.ev ++ [⟨9, a.n, 0, 0⟩], ft := whyF s.ft a.n 2 })) 0 [1, 2, 16, 4, 17, 6, 7, 8]] [0] ?_ ?_ ?_ <;> simp [frag_tatt, frag_teng, tengC, tps, teptr_some, teptr_none, setU, ha, tslotO_some, tslotO_none, u1, u2, u3, Rp.v, Rp.cells, rpNone, rpErr, rpDone, rpEnd, rpBusy, evs_append, evs_single, us_set, whyF_len, keyF_len]
  · refine ends_plan [.nil 98, .pack (GD.teng ({ ws := W, c := s.c, hp := s.hp, ts := setU s.ts 1 none, ev := s.ev ++ [⟨9, a.n, 0, 0⟩], ft := whyF s.ft a.n 2 })) 0 [1, 2, 16, 4, 6, 17, 7, 8]] [0] ?_ ?_ ?_ <;> simp [frag_tatt, frag_teng, tengC, tps, teptr_some, teptr_none, setU, ha, tslotO_some, tslotO_none, u1, u2, u3, Rp.v, Rp.cells, rpNone, rpErr, rpDone, rpEnd, rpBusy, evs_append, evs_single, us_set, whyF_len, keyF_len]
  · refine ends_plan [.nil 98, .pack (GD.teng ({ ws := W, c := s.c, hp := s.hp, ts := setU s.ts 2 none, ev := s.ev ++ [⟨9, a.n, 0, 0⟩], ft := whyF s.ft a.n 2 })) 0 [1, 2, 16, 4, 6, 7, 17, 8]] [0] ?_ ?_ ?_ <;> simp [frag_tatt, frag_teng, tengC, tps, teptr_some, teptr_none, setU, ha, tslotO_some, tslotO_none, u1, u2, u3, Rp.v, Rp.cells, rpNone, rpErr, rpDone, rpEnd, rpBusy, evs_append, evs_single, us_set, whyF_len, keyF_len]
  · refine ends_plan [.nil 98, .pack (GD.teng ({ ws := W, c := s.c, hp := s.hp, ts := setU s.ts 3 none, ev := s.ev ++ [⟨9, a.n, 0, 0⟩], ft := whyF s.ft a.n 2 })) 0 [1, 2, 16, 4, 6, 7, 8, 17]] [0] ?_ ?_ ?_ <;> simp [frag_tatt, frag_teng, tengC, tps, teptr_some, teptr_none, setU, ha, tslotO_some, tslotO_none, u1, u2, u3, Rp.v, Rp.cells, rpNone, rpErr, rpDone, rpEnd, rpBusy, evs_append, evs_single, us_set, whyF_len, keyF_len]
set_option maxRecDepth 10000 in
set_option maxHeartbeats 8000000 in
theorem tstep_k7 (s : TS) (hs : s.Ok) (hev : s.ev.length ≤ 100000) (th : Nat) (hth : th < 4) (a : TA) (ha : s.ts th = some a) (hk7 : a.ra.k = 7) (W : List Int) (hW : dropL s.ws th = W) : Runs Tryz.prog cfg 15 [.pointer (some ⟨0, 0, none⟩), .int .i64 th] (AH.of [some (.hi (.teng s))])
    fun r H' => r = .ret (rpEnd 4).v ∧ H' = AH.of [some (.hi (.teng ({ ws := W, c := s.c, hp := s.hp, ts := setU s.ts th none, ev := s.ev ++ [⟨9, a.n, 0, 0⟩], ft := whyF s.ft a.n 4 })))] := by
  refine Runs.ends ?_
  generalize hS : (({ ws := W, c := s.c, hp := s.hp, ts := setU s.ts th none, ev := s.ev ++ [⟨9, a.n, 0, 0⟩], ft := whyF s.ft a.n 4 }) : TS) = S'
  refine Runs.openTEng hth ?_
  have z1 : ¬ (th : Int) < 0 := by omega
  have z2 : ¬ 4 ≤ (th : Int) := by omega
  have z3 : (th : Int) < 4 := by omega
  have z4 : 2 + th + 1 ≤ 8 := by omega
  have gt : ∀ a b q ts x y, (tengC a b th q ts x y)[2 + th]? = some q := fun a b q ts x y => tengC_t a b hth q ts x y
  have gg : ∀ a b q ts x y (h : 2 + th < (tengC a b th q ts x y).length), (tengC a b th q ts x y)[2 + th]'h = q := fun a b q ts x y h => tengC_gt a b hth q ts x y h
  have gs : ∀ a b q ts x y v, (tengC a b th q ts x y).set (2 + th) v = tengC a b th v ts x y := fun a b q ts x y v => tengC_st a b hth q ts x y v
  have hok := hs.ts th a ha
  have hg := hs.tab
  have hel := tev_room hev
  have t3 := take_evs s.ev
  have hn1 := hok.n
  have hn2 : (a.n : Int) < s.ft.length := by omega
  have hn3 : a.n * 3 + 2 + 1 ≤ s.ft.length * 3 := by omega
  have hfw := fates_why 4 hok.n
  refine runs_by (tbl := tblUs) tblUs_ok 0 5 (af := a15) rfl ?_
  rw [a15, b15, run_eq]
  refine ⟨by simp, ?_⟩
  simp (implicitDefEqProofs := false) [tengL, tblUs, dataSt, pureStep, forms46, a46, b46, forms50, a50, b50, forms53, a53, b53, forms56, a56, b56, forms157, a157, b157, forms109, a109, b109, forms110, a110, b110, forms150, a150, b150, forms151, a151, b151, forms108, a108, b108, forms111, a111, b111, forms155, a155, b155, forms51, a51, b51, forms162, a162, b162, z1, z2, z3, z4, gt, gg, gs, tengC_0, tengC_1, tengC_6, tengC_7, tengC_g0, tengC_g1, tengC_g6, tengC_g7, tengC_s6, tengC_s7, tengC_len, ha, teptr_some, teptr_none, tslotO_some, frag_tatt, hg, hel, t3, evs_length, hk7, st113, hW, hn1, hn2, hn3, hfw, fates_length]
  subst hS
  rcases tth_cases hth with rfl | rfl | rfl | rfl
  · refine ends_plan [.nil 98, .pack (GD.teng ({ ws := W, c := s.c, hp := s.hp, ts := setU s.ts 0 none, ev := s.ev ++ [⟨9, a.n, 0, 0⟩], ft := whyF s.ft a.n 4 })) 0 [1, 2, 16, 4, 17, 6, 7, 8]] [0] ?_ ?_ ?_ <;> simp [frag_tatt, frag_teng, tengC, tps, teptr_some, teptr_none, setU, ha, tslotO_some, tslotO_none, u1, u2, u3, Rp.v, Rp.cells, rpNone, rpErr, rpDone, rpEnd, rpBusy, evs_append, evs_single, us_set, whyF_len, keyF_len]
  · refine ends_plan [.nil 98, .pack (GD.teng ({ ws := W, c := s.c, hp := s.hp, ts := setU s.ts 1 none, ev := s.ev ++ [⟨9, a.n, 0, 0⟩], ft := whyF s.ft a.n 4 })) 0 [1, 2, 16, 4, 6, 17, 7, 8]] [0] ?_ ?_ ?_ <;> simp [frag_tatt, frag_teng, tengC, tps, teptr_some, teptr_none, setU, ha, tslotO_some, tslotO_none, u1, u2, u3, Rp.v, Rp.cells, rpNone, rpErr, rpDone, rpEnd, rpBusy, evs_append, evs_single, us_set, whyF_len, keyF_len]
  · refine ends_plan [.nil 98, .pack (GD.teng ({ ws := W, c := s.c, hp := s.hp, ts := setU s.ts 2 none, ev := s.ev ++ [⟨9, a.n, 0, 0⟩], ft := whyF s.ft a.n 4 })) 0 [1, 2, 16, 4, 6, 7, 17, 8]] [0] ?_ ?_ ?_ <;> simp [frag_tatt, frag_teng, tengC, tps, teptr_some, teptr_none, setU, ha, tslotO_some, tslotO_none, u1, u2, u3, Rp.v, Rp.cells, rpNone, rpErr, rpDone, rpEnd, rpBusy, evs_append, evs_single, us_set, whyF_len, keyF_len]
  · refine ends_plan [.nil 98, .pack (GD.teng ({ ws := W, c := s.c, hp := s.hp, ts := setU s.ts 3 none, ev := s.ev ++ [⟨9, a.n, 0, 0⟩], ft := whyF s.ft a.n 4 })) 0 [1, 2, 16, 4, 6, 7, 8, 17]] [0] ?_ ?_ ?_ <;> simp [frag_tatt, frag_teng, tengC, tps, teptr_some, teptr_none, setU, ha, tslotO_some, tslotO_none, u1, u2, u3, Rp.v, Rp.cells, rpNone, rpErr, rpDone, rpEnd, rpBusy, evs_append, evs_single, us_set, whyF_len, keyF_len]
end YtapbabkndhaemaaGreat
end Go.Proofs
/-
  TL2: Step. (Printed by tools/genstep_t.py.)
-/
namespace Go.Proofs
namespace YtapbabkndhaemaaGreat
open Go.Abs
set_option maxRecDepth 10000 in
set_option maxHeartbeats 8000000 in
theorem tstep_g0e (s : TS) (hs : s.Ok) (hev : s.ev.length ≤ 100000) (th : Nat) (hth : th < 4) (a : TA) (ha : s.ts th = some a) (hk6 : a.ra.k = 6) (hph : a.ph = 0) (hall : allL a.fs = []) : Runs Tryz.prog cfg 15 [.pointer (some ⟨0, 0, none⟩), .int .i64 th] (AH.of [some (.hi (.teng s))])
    fun r H' => r = .ret (rpEnd 0).v ∧ H' = AH.of [some (.hi (.teng ({ s with ws := s.ws, ts := setU s.ts th none, ev := s.ev ++ [⟨7, a.n, 0, 0⟩] ++ [⟨8, a.n, 0, 0⟩] })))] := by
  refine Runs.ends ?_
  generalize hS : (({ s with ws := s.ws, ts := setU s.ts th none, ev := s.ev ++ [⟨7, a.n, 0, 0⟩] ++ [⟨8, a.n, 0, 0⟩] }) : TS) = S'
  refine Runs.openTEng hth ?_
  have z1 : ¬ (th : Int) < 0 := by omega
  have z2 : ¬ 4 ≤ (th : Int) := by omega
  have z3 : (th : Int) < 4 := by omega
  have z4 : 2 + th + 1 ≤ 8 := by omega
  have gt : ∀ a b q ts x y, (tengC a b th q ts x y)[2 + th]? = some q := fun a b q ts x y => tengC_t a b hth q ts x y
  have gg : ∀ a b q ts x y (h : 2 + th < (tengC a b th q ts x y).length), (tengC a b th q ts x y)[2 + th]'h = q := fun a b q ts x y h => tengC_gt a b hth q ts x y h
  have gs : ∀ a b q ts x y v, (tengC a b th q ts x y).set (2 + th) v = tengC a b th v ts x y := fun a b q ts x y v => tengC_st a b hth q ts x y v
  have hok := hs.ts th a ha
  have hg := hs.tab
  have hel := tev_room hev
  have t3 := take_evs s.ev
  have hgl := hok.fs
  have hel2 := tev_room2 hev
  have t5 := ttake_evs7 s.ev a.n
  refine runs_by (tbl := tblUs) tblUs_ok 0 5 (af := a15) rfl ?_
  rw [a15, b15, run_eq]
  refine ⟨by simp, ?_⟩
  simp (implicitDefEqProofs := false) [tengL, tblUs, dataSt, pureStep, forms46, a46, b46, forms50, a50, b50, forms53, a53, b53, forms56, a56, b56, forms157, a157, b157, forms109, a109, b109, forms110, a110, b110, forms150, a150, b150, forms151, a151, b151, forms108, a108, b108, forms111, a111, b111, forms155, a155, b155, forms51, a51, b51, forms162, a162, b162, z1, z2, z3, z4, gt, gg, gs, tengC_0, tengC_1, tengC_6, tengC_7, tengC_g0, tengC_g1, tengC_g6, tengC_g7, tengC_s6, tengC_s7, tengC_len, ha, teptr_some, teptr_none, tslotO_some, frag_tatt, hg, hel, t3, evs_length, st55, hk6, hph, hgl, hall, hel2, t5, prs]
  refine ⟨⟨by omega, by omega⟩, ?_⟩
  subst hS
  rcases tth_cases hth with rfl | rfl | rfl | rfl
  · refine ends_plan [.nil 98, .pack (GD.teng ({ s with ws := s.ws, ts := setU s.ts 0 none, ev := s.ev ++ [⟨7, a.n, 0, 0⟩] ++ [⟨8, a.n, 0, 0⟩] })) 0 [1, 2, 20, 4, 21, 6, 7, 8]] [0] ?_ ?_ ?_ <;> simp [frag_tatt, frag_teng, tengC, tps, teptr_some, teptr_none, setU, ha, tslotO_some, tslotO_none, u1, u2, u3, Rp.v, Rp.cells, rpNone, rpErr, rpDone, rpEnd, rpBusy, evs_append, evs_single, us_set, whyF_len, keyF_len, tevs_pair]
  · refine ends_plan [.nil 98, .pack (GD.teng ({ s with ws := s.ws, ts := setU s.ts 1 none, ev := s.ev ++ [⟨7, a.n, 0, 0⟩] ++ [⟨8, a.n, 0, 0⟩] })) 0 [1, 2, 20, 4, 6, 21, 7, 8]] [0] ?_ ?_ ?_ <;> simp [frag_tatt, frag_teng, tengC, tps, teptr_some, teptr_none, setU, ha, tslotO_some, tslotO_none, u1, u2, u3, Rp.v, Rp.cells, rpNone, rpErr, rpDone, rpEnd, rpBusy, evs_append, evs_single, us_set, whyF_len, keyF_len, tevs_pair]
  · refine ends_plan [.nil 98, .pack (GD.teng ({ s with ws := s.ws, ts := setU s.ts 2 none, ev := s.ev ++ [⟨7, a.n, 0, 0⟩] ++ [⟨8, a.n, 0, 0⟩] })) 0 [1, 2, 20, 4, 6, 7, 21, 8]] [0] ?_ ?_ ?_ <;> simp [frag_tatt, frag_teng, tengC, tps, teptr_some, teptr_none, setU, ha, tslotO_some, tslotO_none, u1, u2, u3, Rp.v, Rp.cells, rpNone, rpErr, rpDone, rpEnd, rpBusy, evs_append, evs_single, us_set, whyF_len, keyF_len, tevs_pair]
  · refine ends_plan [.nil 98, .pack (GD.teng ({ s with ws := s.ws, ts := setU s.ts 3 none, ev := s.ev ++ [⟨7, a.n, 0, 0⟩] ++ [⟨8, a.n, 0, 0⟩] })) 0 [1, 2, 20, 4, 6, 7, 8, 21]] [0] ?_ ?_ ?_ <;> simp [frag_tatt, frag_teng, tengC, tps, teptr_some, teptr_none, setU, ha, tslotO_some, tslotO_none, u1, u2, u3, Rp.v, Rp.cells, rpNone, rpErr, rpDone, rpEnd, rpBusy, evs_append, evs_single, us_set, whyF_len, keyF_len, tevs_pair]
set_option maxRecDepth 10000 in
set_option maxHeartbeats 8000000 in
theorem tstep_g0n (s : TS) (hs : s.Ok) (hev : s.ev.length ≤ 100000) (th : Nat) (hth : th < 4) (a : TA) (ha : s.ts th = some a) (hk6 : a.ra.k = 6) (hph : a.ph = 0) (hall : ¬ allL a.fs = []) : Runs Tryz.prog cfg 15 [.pointer (some ⟨0, 0, none⟩), .int .i64 th] (AH.of [some (.hi (.teng s))])
    fun r H' => r = .ret (rpNone).v ∧ H' = AH.of [some (.hi (.teng ({ s with ts := setU s.ts th (some { a with ph := 1 }), ev := s.ev ++ [⟨7, a.n, 0, 0⟩] })))] := by
  refine Runs.ends ?_
  generalize hS : (({ s with ts := setU s.ts th (some { a with ph := 1 }), ev := s.ev ++ [⟨7, a.n, 0, 0⟩] }) : TS) = S'
  refine Runs.openTEng hth ?_
  have z1 : ¬ (th : Int) < 0 := by omega
  have z2 : ¬ 4 ≤ (th : Int) := by omega
  have z3 : (th : Int) < 4 := by omega
  have z4 : 2 + th + 1 ≤ 8 := by omega
  have gt : ∀ a b q ts x y, (tengC a b th q ts x y)[2 + th]? = some q := fun a b q ts x y => tengC_t a b hth q ts x y
  have gg : ∀ a b q ts x y (h : 2 + th < (tengC a b th q ts x y).length), (tengC a b th q ts x y)[2 + th]'h = q := fun a b q ts x y h => tengC_gt a b hth q ts x y h
  have gs : ∀ a b q ts x y v, (tengC a b th q ts x y).set (2 + th) v = tengC a b th v ts x y := fun a b q ts x y v => tengC_st a b hth q ts x y v
  have hok := hs.ts th a ha
  have hg := hs.tab
  have hel := tev_room hev
  have t3 := take_evs s.ev
  have hgl := hok.fs
  have hln : ¬ (allL a.fs).length = 0 := fun h => hall (List.length_eq_zero_iff.1 h)
  have hln2 : ¬ ((allL a.fs).length : Int) = 0 := by omega
  refine runs_by (tbl := tblUs) tblUs_ok 0 5 (af := a15) rfl ?_
  rw [a15, b15, run_eq]
  refine ⟨by simp, ?_⟩
  simp (implicitDefEqProofs := false) [tengL, tblUs, dataSt, pureStep, forms46, a46, b46, forms50, a50, b50, forms53, a53, b53, forms56, a56, b56, forms157, a157, b157, forms109, a109, b109, forms110, a110, b110, forms150, a150, b150, forms151, a151, b151, forms108, a108, b108, forms111, a111, b111, forms155, a155, b155, forms51, a51, b51, forms162, a162, b162, z1, z2, z3, z4, gt, gg, gs, tengC_0, tengC_1, tengC_6, tengC_7, tengC_g0, tengC_g1, tengC_g6, tengC_g7, tengC_s6, tengC_s7, tengC_len, ha, teptr_some, teptr_none, tslotO_some, frag_tatt, hg, hel, t3, evs_length, st55, hk6, hph, hgl, hall, hln, hln2]
  subst hS
  rcases tth_cases hth with rfl | rfl | rfl | rfl
  · refine ends_plan [.pack (GD.tatt { a with ph := 1 }) 5 [10, 11], .pack (GD.teng ({ s with ts := setU s.ts 0 (some { a with ph := 1 }), ev := s.ev ++ [⟨7, a.n, 0, 0⟩] })) 0 [1, 2, 15, 4, 5, 6, 7, 8]] [0] ?_ ?_ ?_ <;> simp [frag_tatt, frag_teng, tengC, tps, teptr_some, teptr_none, setU, ha, tslotO_some, tslotO_none, u1, u2, u3, Rp.v, Rp.cells, rpNone, rpErr, rpDone, rpEnd, rpBusy, evs_append, evs_single, us_set, whyF_len, keyF_len, hk6]
  · refine ends_plan [.pack (GD.tatt { a with ph := 1 }) 5 [10, 11], .pack (GD.teng ({ s with ts := setU s.ts 1 (some { a with ph := 1 }), ev := s.ev ++ [⟨7, a.n, 0, 0⟩] })) 0 [1, 2, 15, 4, 6, 5, 7, 8]] [0] ?_ ?_ ?_ <;> simp [frag_tatt, frag_teng, tengC, tps, teptr_some, teptr_none, setU, ha, tslotO_some, tslotO_none, u1, u2, u3, Rp.v, Rp.cells, rpNone, rpErr, rpDone, rpEnd, rpBusy, evs_append, evs_single, us_set, whyF_len, keyF_len, hk6]
  · refine ends_plan [.pack (GD.tatt { a with ph := 1 }) 5 [10, 11], .pack (GD.teng ({ s with ts := setU s.ts 2 (some { a with ph := 1 }), ev := s.ev ++ [⟨7, a.n, 0, 0⟩] })) 0 [1, 2, 15, 4, 6, 7, 5, 8]] [0] ?_ ?_ ?_ <;> simp [frag_tatt, frag_teng, tengC, tps, teptr_some, teptr_none, setU, ha, tslotO_some, tslotO_none, u1, u2, u3, Rp.v, Rp.cells, rpNone, rpErr, rpDone, rpEnd, rpBusy, evs_append, evs_single, us_set, whyF_len, keyF_len, hk6]
  · refine ends_plan [.pack (GD.tatt { a with ph := 1 }) 5 [10, 11], .pack (GD.teng ({ s with ts := setU s.ts 3 (some { a with ph := 1 }), ev := s.ev ++ [⟨7, a.n, 0, 0⟩] })) 0 [1, 2, 15, 4, 6, 7, 8, 5]] [0] ?_ ?_ ?_ <;> simp [frag_tatt, frag_teng, tengC, tps, teptr_some, teptr_none, setU, ha, tslotO_some, tslotO_none, u1, u2, u3, Rp.v, Rp.cells, rpNone, rpErr, rpDone, rpEnd, rpBusy, evs_append, evs_single, us_set, whyF_len, keyF_len, hk6]
set_option maxRecDepth 10000 in
set_option maxHeartbeats 8000000 in
theorem tstep_g2e (s : TS) (hs : s.Ok) (hev : s.ev.length ≤ 100000) (th : Nat) (hth : th < 4) (a : TA) (ha : s.ts th = some a) (hk6 : a.ra.k = 6) (hph : a.ph = 2) (hx : a.nx = a.es.length) : Runs Tryz.prog cfg 15 [.pointer (some ⟨0, 0, none⟩), .int .i64 th] (AH.of [some (.hi (.teng s))])
    fun r H' => r = .ret (rpNone).v ∧ H' = AH.of [some (.hi (.teng ({ s with ts := setU s.ts th (some { a with dec := true, ph := 3, nx := 0 }), ft := keyF s.ft a.n (2 * a.wv) })))] := by
  refine Runs.ends ?_
  generalize hS : (({ s with ts := setU s.ts th (some { a with dec := true, ph := 3, nx := 0 }), ft := keyF s.ft a.n (2 * a.wv) }) : TS) = S'
  refine Runs.openTEng hth ?_
  have z1 : ¬ (th : Int) < 0 := by omega
  have z2 : ¬ 4 ≤ (th : Int) := by omega
  have z3 : (th : Int) < 4 := by omega
  have z4 : 2 + th + 1 ≤ 8 := by omega
  have gt : ∀ a b q ts x y, (tengC a b th q ts x y)[2 + th]? = some q := fun a b q ts x y => tengC_t a b hth q ts x y
  have gg : ∀ a b q ts x y (h : 2 + th < (tengC a b th q ts x y).length), (tengC a b th q ts x y)[2 + th]'h = q := fun a b q ts x y h => tengC_gt a b hth q ts x y h
  have gs : ∀ a b q ts x y v, (tengC a b th q ts x y).set (2 + th) v = tengC a b th v ts x y := fun a b q ts x y v => tengC_st a b hth q ts x y v
  have hok := hs.ts th a ha
  have hg := hs.tab
  have hel := tev_room hev
  have t3 := take_evs s.ev
  have hg8 := hok.es.len
  have hgu := hok.es.uniq
  have hn1 := hok.n
  have hn2 : (a.n : Int) < s.ft.length := by omega
  have hn3 : a.n * 3 + 1 + 1 ≤ s.ft.length * 3 := by omega
  have hwv := hok.wv
  have hc1 := hg.c1
  have hw2 : IntKind.u64.wrap (2 * a.wv) = 2 * a.wv := wrap_u64 (by omega) (by omega)
  have hfk := fates_key (2 * a.wv) hok.n
  have hx1 : ((a.nx : Int) = (a.es.length : Int)) = True := eq_true (by omega)
  have hx2 : (a.nx = a.es.length) = True := eq_true hx
  refine runs_by (tbl := tblUs) tblUs_ok 0 5 (af := a15) rfl ?_
  rw [a15, b15, run_eq]
  refine ⟨by simp, ?_⟩
  simp (implicitDefEqProofs := false) [tengL, tblUs, dataSt, pureStep, forms46, a46, b46, forms50, a50, b50, forms53, a53, b53, forms56, a56, b56, forms157, a157, b157, forms109, a109, b109, forms110, a110, b110, forms150, a150, b150, forms151, a151, b151, forms108, a108, b108, forms111, a111, b111, forms155, a155, b155, forms51, a51, b51, forms162, a162, b162, z1, z2, z3, z4, gt, gg, gs, tengC_0, tengC_1, tengC_6, tengC_7, tengC_g0, tengC_g1, tengC_g6, tengC_g7, tengC_s6, tengC_s7, tengC_len, ha, teptr_some, teptr_none, tslotO_some, frag_tatt, hg, hel, t3, evs_length, st98, hk6, hph, hx1, hx2, hg8, hgu, hn1, hn2, hn3, hw2, hfk, fates_length]
  subst hS
  rcases tth_cases hth with rfl | rfl | rfl | rfl
  · refine ends_plan [.pack (GD.tatt { a with dec := true, ph := 3, nx := 0 }) 5 [10, 11], .pack (GD.teng ({ s with ts := setU s.ts 0 (some { a with dec := true, ph := 3, nx := 0 }), ft := keyF s.ft a.n (2 * a.wv) })) 0 [1, 2, 3, 4, 5, 6, 7, 8]] [0] ?_ ?_ ?_ <;> simp [frag_tatt, frag_teng, tengC, tps, teptr_some, teptr_none, setU, ha, tslotO_some, tslotO_none, u1, u2, u3, Rp.v, Rp.cells, rpNone, rpErr, rpDone, rpEnd, rpBusy, evs_append, evs_single, us_set, whyF_len, keyF_len, hk6]
  · refine ends_plan [.pack (GD.tatt { a with dec := true, ph := 3, nx := 0 }) 5 [10, 11], .pack (GD.teng ({ s with ts := setU s.ts 1 (some { a with dec := true, ph := 3, nx := 0 }), ft := keyF s.ft a.n (2 * a.wv) })) 0 [1, 2, 3, 4, 6, 5, 7, 8]] [0] ?_ ?_ ?_ <;> simp [frag_tatt, frag_teng, tengC, tps, teptr_some, teptr_none, setU, ha, tslotO_some, tslotO_none, u1, u2, u3, Rp.v, Rp.cells, rpNone, rpErr, rpDone, rpEnd, rpBusy, evs_append, evs_single, us_set, whyF_len, keyF_len, hk6]
  · refine ends_plan [.pack (GD.tatt { a with dec := true, ph := 3, nx := 0 }) 5 [10, 11], .pack (GD.teng ({ s with ts := setU s.ts 2 (some { a with dec := true, ph := 3, nx := 0 }), ft := keyF s.ft a.n (2 * a.wv) })) 0 [1, 2, 3, 4, 6, 7, 5, 8]] [0] ?_ ?_ ?_ <;> simp [frag_tatt, frag_teng, tengC, tps, teptr_some, teptr_none, setU, ha, tslotO_some, tslotO_none, u1, u2, u3, Rp.v, Rp.cells, rpNone, rpErr, rpDone, rpEnd, rpBusy, evs_append, evs_single, us_set, whyF_len, keyF_len, hk6]
  · refine ends_plan [.pack (GD.tatt { a with dec := true, ph := 3, nx := 0 }) 5 [10, 11], .pack (GD.teng ({ s with ts := setU s.ts 3 (some { a with dec := true, ph := 3, nx := 0 }), ft := keyF s.ft a.n (2 * a.wv) })) 0 [1, 2, 3, 4, 6, 7, 8, 5]] [0] ?_ ?_ ?_ <;> simp [frag_tatt, frag_teng, tengC, tps, teptr_some, teptr_none, setU, ha, tslotO_some, tslotO_none, u1, u2, u3, Rp.v, Rp.cells, rpNone, rpErr, rpDone, rpEnd, rpBusy, evs_append, evs_single, us_set, whyF_len, keyF_len, hk6]
set_option maxRecDepth 10000 in
set_option maxHeartbeats 8000000 in
theorem tstep_g2o (s : TS) (hs : s.Ok) (hev : s.ev.length ≤ 100000) (th : Nat) (hth : th < 4) (a : TA) (ha : s.ts th = some a) (hk6 : a.ra.k = 6) (hph : a.ph = 2) (e : Ent) (hx : a.es[a.nx]? = some e) (st : Int) (hst : ofT s.ws e.t = st) (w : Int) (hw : wordTV s.ws st = w) (hR : RightW w) (hP : passB w th a.rv = true) : Runs Tryz.prog cfg 15 [.pointer (some ⟨0, 0, none⟩), .int .i64 th] (AH.of [some (.hi (.teng s))])
    fun r H' => r = .ret (rpNone).v ∧ H' = AH.of [some (.hi (.teng ({ s with ts := setU s.ts th (some { a with nx := a.nx + 1 }) })))] := by
  refine Runs.ends ?_
  generalize hS : (({ s with ts := setU s.ts th (some { a with nx := a.nx + 1 }) }) : TS) = S'
  refine Runs.openTEng hth ?_
  have z1 : ¬ (th : Int) < 0 := by omega
  have z2 : ¬ 4 ≤ (th : Int) := by omega
  have z3 : (th : Int) < 4 := by omega
  have z4 : 2 + th + 1 ≤ 8 := by omega
  have gt : ∀ a b q ts x y, (tengC a b th q ts x y)[2 + th]? = some q := fun a b q ts x y => tengC_t a b hth q ts x y
  have gg : ∀ a b q ts x y (h : 2 + th < (tengC a b th q ts x y).length), (tengC a b th q ts x y)[2 + th]'h = q := fun a b q ts x y h => tengC_gt a b hth q ts x y h
  have gs : ∀ a b q ts x y v, (tengC a b th q ts x y).set (2 + th) v = tengC a b th v ts x y := fun a b q ts x y v => tengC_st a b hth q ts x y v
  have hok := hs.ts th a ha
  have hg := hs.tab
  have hel := tev_room hev
  have t3 := take_evs s.ev
  have hg8 := hok.es.len
  have hgu := hok.es.uniq
  have hlt := (List.getElem?_eq_some_iff.1 hx).1
  have hne : ¬ (a.nx : Int) = a.es.length := by omega
  have hlt2 : (a.nx : Int) < a.es.length := by omega
  obtain ⟨rx, rv⟩ := trows_cell hx
  have hnx := hok.nx
  have hwr : IntKind.i64.wrap ((a.nx : Int) + 1) = ((a.nx + 1 : Nat) : Int) := by rw [wrap_i64 (by omega) (by omega)]; omega
  refine runs_by (tbl := tblUs) tblUs_ok 0 5 (af := a15) rfl ?_
  rw [a15, b15, run_eq]
  refine ⟨by simp, ?_⟩
  simp (implicitDefEqProofs := false) [tengL, tblUs, dataSt, pureStep, forms46, a46, b46, forms50, a50, b50, forms53, a53, b53, forms56, a56, b56, forms157, a157, b157, forms109, a109, b109, forms110, a110, b110, forms150, a150, b150, forms151, a151, b151, forms108, a108, b108, forms111, a111, b111, forms155, a155, b155, forms51, a51, b51, forms162, a162, b162, z1, z2, z3, z4, gt, gg, gs, tengC_0, tengC_1, tengC_6, tengC_7, tengC_g0, tengC_g1, tengC_g6, tengC_g7, tengC_s6, tengC_s7, tengC_len, ha, teptr_some, teptr_none, tslotO_some, frag_tatt, hg, hel, t3, evs_length, st98, st103, st102, p104, hk6, hph, hne, hlt, hlt2, hg8, hgu, rx, rv, hst, hw, hR, hwr, hP]
  subst hS
  rcases tth_cases hth with rfl | rfl | rfl | rfl
  · refine ends_plan [.pack (GD.tatt { a with nx := a.nx + 1 }) 5 [10, 11], .pack (GD.teng ({ s with ts := setU s.ts 0 (some { a with nx := a.nx + 1 }) })) 0 [1, 2, 3, 4, 5, 6, 7, 8]] [0] ?_ ?_ ?_ <;> simp [frag_tatt, frag_teng, tengC, tps, teptr_some, teptr_none, setU, ha, tslotO_some, tslotO_none, u1, u2, u3, Rp.v, Rp.cells, rpNone, rpErr, rpDone, rpEnd, rpBusy, evs_append, evs_single, us_set, whyF_len, keyF_len, hk6, hph]
  · refine ends_plan [.pack (GD.tatt { a with nx := a.nx + 1 }) 5 [10, 11], .pack (GD.teng ({ s with ts := setU s.ts 1 (some { a with nx := a.nx + 1 }) })) 0 [1, 2, 3, 4, 6, 5, 7, 8]] [0] ?_ ?_ ?_ <;> simp [frag_tatt, frag_teng, tengC, tps, teptr_some, teptr_none, setU, ha, tslotO_some, tslotO_none, u1, u2, u3, Rp.v, Rp.cells, rpNone, rpErr, rpDone, rpEnd, rpBusy, evs_append, evs_single, us_set, whyF_len, keyF_len, hk6, hph]
  · refine ends_plan [.pack (GD.tatt { a with nx := a.nx + 1 }) 5 [10, 11], .pack (GD.teng ({ s with ts := setU s.ts 2 (some { a with nx := a.nx + 1 }) })) 0 [1, 2, 3, 4, 6, 7, 5, 8]] [0] ?_ ?_ ?_ <;> simp [frag_tatt, frag_teng, tengC, tps, teptr_some, teptr_none, setU, ha, tslotO_some, tslotO_none, u1, u2, u3, Rp.v, Rp.cells, rpNone, rpErr, rpDone, rpEnd, rpBusy, evs_append, evs_single, us_set, whyF_len, keyF_len, hk6, hph]
  · refine ends_plan [.pack (GD.tatt { a with nx := a.nx + 1 }) 5 [10, 11], .pack (GD.teng ({ s with ts := setU s.ts 3 (some { a with nx := a.nx + 1 }) })) 0 [1, 2, 3, 4, 6, 7, 8, 5]] [0] ?_ ?_ ?_ <;> simp [frag_tatt, frag_teng, tengC, tps, teptr_some, teptr_none, setU, ha, tslotO_some, tslotO_none, u1, u2, u3, Rp.v, Rp.cells, rpNone, rpErr, rpDone, rpEnd, rpBusy, evs_append, evs_single, us_set, whyF_len, keyF_len, hk6, hph]
set_option maxRecDepth 10000 in
set_option maxHeartbeats 8000000 in
theorem tstep_g2c (s : TS) (hs : s.Ok) (hev : s.ev.length ≤ 100000) (th : Nat) (hth : th < 4) (a : TA) (ha : s.ts th = some a) (hk6 : a.ra.k = 6) (hph : a.ph = 2) (e : Ent) (hx : a.es[a.nx]? = some e) (st : Int) (hst : ofT s.ws e.t = st) (w : Int) (hw : wordTV s.ws st = w) (hR : RightW w) (hP : passB w th a.rv = false) (W : List Int) (hW : dropL s.ws th = W) : Runs Tryz.prog cfg 15 [.pointer (some ⟨0, 0, none⟩), .int .i64 th] (AH.of [some (.hi (.teng s))])
    fun r H' => r = .ret (rpEnd 1).v ∧ H' = AH.of [some (.hi (.teng ({ ws := W, c := s.c, hp := s.hp, ts := setU s.ts th none, ev := s.ev ++ [⟨9, a.n, 0, 0⟩], ft := whyF s.ft a.n 1 })))] := by
  refine Runs.ends ?_
  generalize hS : (({ ws := W, c := s.c, hp := s.hp, ts := setU s.ts th none, ev := s.ev ++ [⟨9, a.n, 0, 0⟩], ft := whyF s.ft a.n 1 }) : TS) = S'
  refine Runs.openTEng hth ?_
  have z1 : ¬ (th : Int) < 0 := by omega
  have z2 : ¬ 4 ≤ (th : Int) := by omega
  have z3 : (th : Int) < 4 := by omega
  have z4 : 2 + th + 1 ≤ 8 := by omega
  have gt : ∀ a b q ts x y, (tengC a b th q ts x y)[2 + th]? = some q := fun a b q ts x y => tengC_t a b hth q ts x y
  have gg : ∀ a b q ts x y (h : 2 + th < (tengC a b th q ts x y).length), (tengC a b th q ts x y)[2 + th]'h = q := fun a b q ts x y h => tengC_gt a b hth q ts x y h
  have gs : ∀ a b q ts x y v, (tengC a b th q ts x y).set (2 + th) v = tengC a b th v ts x y := fun a b q ts x y v => tengC_st a b hth q ts x y v
  have hok := hs.ts th a ha
  have hg := hs.tab
  have hel := tev_room hev
  have t3 := take_evs s.ev
  have hg8 := hok.es.len
  have hgu := hok.es.uniq
  have hlt := (List.getElem?_eq_some_iff.1 hx).1
  have hne : ¬ (a.nx : Int) = a.es.length := by omega
  have hlt2 : (a.nx : Int) < a.es.length := by omega
  obtain ⟨rx, rv⟩ := trows_cell hx
  have hnx := hok.nx
  have hwr : IntKind.i64.wrap ((a.nx : Int) + 1) = ((a.nx + 1 : Nat) : Int) := by rw [wrap_i64 (by omega) (by omega)]; omega
  have hn1 := hok.n
  have hn2 : (a.n : Int) < s.ft.length := by omega
  have hn3 : a.n * 3 + 2 + 1 ≤ s.ft.length * 3 := by omega
  have hfw := fates_why 1 hok.n
  refine runs_by (tbl := tblUs) tblUs_ok 0 5 (af := a15) rfl ?_
  rw [a15, b15, run_eq]
  refine ⟨by simp, ?_⟩
  simp (implicitDefEqProofs := false) [tengL, tblUs, dataSt, pureStep, forms46, a46, b46, forms50, a50, b50, forms53, a53, b53, forms56, a56, b56, forms157, a157, b157, forms109, a109, b109, forms110, a110, b110, forms150, a150, b150, forms151, a151, b151, forms108, a108, b108, forms111, a111, b111, forms155, a155, b155, forms51, a51, b51, forms162, a162, b162, z1, z2, z3, z4, gt, gg, gs, tengC_0, tengC_1, tengC_6, tengC_7, tengC_g0, tengC_g1, tengC_g6, tengC_g7, tengC_s6, tengC_s7, tengC_len, ha, teptr_some, teptr_none, tslotO_some, frag_tatt, hg, hel, t3, evs_length, st98, st103, st102, p104, hk6, hph, hne, hlt, hlt2, hg8, hgu, rx, rv, hst, hw, hR, hwr, hP, st113, hW, hn1, hn2, hn3, hfw, fates_length]
  subst hS
  rcases tth_cases hth with rfl | rfl | rfl | rfl
  · refine ends_plan [.nil 98, .pack (GD.teng ({ ws := W, c := s.c, hp := s.hp, ts := setU s.ts 0 none, ev := s.ev ++ [⟨9, a.n, 0, 0⟩], ft := whyF s.ft a.n 1 })) 0 [1, 2, 18, 4, 19, 6, 7, 8]] [0] ?_ ?_ ?_ <;> simp [frag_tatt, frag_teng, tengC, tps, teptr_some, teptr_none, setU, ha, tslotO_some, tslotO_none, u1, u2, u3, Rp.v, Rp.cells, rpNone, rpErr, rpDone, rpEnd, rpBusy, evs_append, evs_single, us_set, whyF_len, keyF_len]
  · refine ends_plan [.nil 98, .pack (GD.teng ({ ws := W, c := s.c, hp := s.hp, ts := setU s.ts 1 none, ev := s.ev ++ [⟨9, a.n, 0, 0⟩], ft := whyF s.ft a.n 1 })) 0 [1, 2, 18, 4, 6, 19, 7, 8]] [0] ?_ ?_ ?_ <;> simp [frag_tatt, frag_teng, tengC, tps, teptr_some, teptr_none, setU, ha, tslotO_some, tslotO_none, u1, u2, u3, Rp.v, Rp.cells, rpNone, rpErr, rpDone, rpEnd, rpBusy, evs_append, evs_single, us_set, whyF_len, keyF_len]
  · refine ends_plan [.nil 98, .pack (GD.teng ({ ws := W, c := s.c, hp := s.hp, ts := setU s.ts 2 none, ev := s.ev ++ [⟨9, a.n, 0, 0⟩], ft := whyF s.ft a.n 1 })) 0 [1, 2, 18, 4, 6, 7, 19, 8]] [0] ?_ ?_ ?_ <;> simp [frag_tatt, frag_teng, tengC, tps, teptr_some, teptr_none, setU, ha, tslotO_some, tslotO_none, u1, u2, u3, Rp.v, Rp.cells, rpNone, rpErr, rpDone, rpEnd, rpBusy, evs_append, evs_single, us_set, whyF_len, keyF_len]
  · refine ends_plan [.nil 98, .pack (GD.teng ({ ws := W, c := s.c, hp := s.hp, ts := setU s.ts 3 none, ev := s.ev ++ [⟨9, a.n, 0, 0⟩], ft := whyF s.ft a.n 1 })) 0 [1, 2, 18, 4, 6, 7, 8, 19]] [0] ?_ ?_ ?_ <;> simp [frag_tatt, frag_teng, tengC, tps, teptr_some, teptr_none, setU, ha, tslotO_some, tslotO_none, u1, u2, u3, Rp.v, Rp.cells, rpNone, rpErr, rpDone, rpEnd, rpBusy, evs_append, evs_single, us_set, whyF_len, keyF_len]
set_option maxRecDepth 10000 in
set_option maxHeartbeats 8000000 in
theorem tstep_g3m (s : TS) (hs : s.Ok) (hev : s.ev.length ≤ 100000) (th : Nat) (hth : th < 4) (a : TA) (ha : s.ts th = some a) (hk6 : a.ra.k = 6) (hph : a.ph = 3) (p : Pr) (hx : (allL a.fs)[a.nx]? = some p) (hp : 0 ≤ p.t ∧ p.t < s.hp.length) (hl : ¬ a.nx + 1 = (allL a.fs).length) : Runs Tryz.prog cfg 15 [.pointer (some ⟨0, 0, none⟩), .int .i64 th] (AH.of [some (.hi (.teng s))])
    fun r H' => r = .ret (rpNone).v ∧ H' = AH.of [some (.hi (.teng ({ s with ts := setU s.ts th (some { a with nx := a.nx + 1 }), hp := s.hp.set p.t.toNat p.v })))] := by
  refine Runs.ends ?_
  generalize hS : (({ s with ts := setU s.ts th (some { a with nx := a.nx + 1 }), hp := s.hp.set p.t.toNat p.v }) : TS) = S'
  refine Runs.openTEng hth ?_
  have z1 : ¬ (th : Int) < 0 := by omega
  have z2 : ¬ 4 ≤ (th : Int) := by omega
  have z3 : (th : Int) < 4 := by omega
  have z4 : 2 + th + 1 ≤ 8 := by omega
  have gt : ∀ a b q ts x y, (tengC a b th q ts x y)[2 + th]? = some q := fun a b q ts x y => tengC_t a b hth q ts x y
  have gg : ∀ a b q ts x y (h : 2 + th < (tengC a b th q ts x y).length), (tengC a b th q ts x y)[2 + th]'h = q := fun a b q ts x y h => tengC_gt a b hth q ts x y h
  have gs : ∀ a b q ts x y v, (tengC a b th q ts x y).set (2 + th) v = tengC a b th v ts x y := fun a b q ts x y v => tengC_st a b hth q ts x y v
  have hok := hs.ts th a ha
  have hg := hs.tab
  have hel := tev_room hev
  have t3 := take_evs s.ev
  have hgl := hok.fs
  have hlt := (List.getElem?_eq_some_iff.1 hx).1
  have hlt2 : (a.nx : Int) < (allL a.fs).length := by omega
  obtain ⟨rx, rv⟩ := prs_at hx
  have hnx := hok.nx
  have hwr : IntKind.i64.wrap ((a.nx : Int) + 1) = ((a.nx + 1 : Nat) : Int) := by rw [wrap_i64 (by omega) (by omega)]; omega
  have hpl : (p.t.toNat : Int) < s.hp.length := by omega
  have hpl2 : p.t.toNat < s.hp.length := by omega
  have hpl3 : p.t.toNat + 1 ≤ s.hp.length := by omega
  have hl2 : ¬ (a.nx : Int) + 1 = (allL a.fs).length := by omega
  refine runs_by (tbl := tblUs) tblUs_ok 0 5 (af := a15) rfl ?_
  rw [a15, b15, run_eq]
  refine ⟨by simp, ?_⟩
  simp (implicitDefEqProofs := false) [tengL, tblUs, dataSt, pureStep, forms46, a46, b46, forms50, a50, b50, forms53, a53, b53, forms56, a56, b56, forms157, a157, b157, forms109, a109, b109, forms110, a110, b110, forms150, a150, b150, forms151, a151, b151, forms108, a108, b108, forms111, a111, b111, forms155, a155, b155, forms51, a51, b51, forms162, a162, b162, z1, z2, z3, z4, gt, gg, gs, tengC_0, tengC_1, tengC_6, tengC_7, tengC_g0, tengC_g1, tengC_g6, tengC_g7, tengC_s6, tengC_s7, tengC_len, ha, teptr_some, teptr_none, tslotO_some, frag_tatt, hg, hel, t3, evs_length, st55, hk6, hph, hgl, hlt, hlt2, rx, rv, hwr, hp, hpl, hpl2, hpl3, hl, hl2, us_length, us_set]
  subst hS
  rcases tth_cases hth with rfl | rfl | rfl | rfl
  · refine ends_plan [.pack (GD.tatt { a with nx := a.nx + 1 }) 5 [10, 11], .pack (GD.teng ({ s with ts := setU s.ts 0 (some { a with nx := a.nx + 1 }), hp := s.hp.set p.t.toNat p.v })) 0 [1, 2, 3, 4, 5, 6, 7, 8]] [0] ?_ ?_ ?_ <;> simp [frag_tatt, frag_teng, tengC, tps, teptr_some, teptr_none, setU, ha, tslotO_some, tslotO_none, u1, u2, u3, Rp.v, Rp.cells, rpNone, rpErr, rpDone, rpEnd, rpBusy, evs_append, evs_single, us_set, whyF_len, keyF_len, hk6, hph]
  · refine ends_plan [.pack (GD.tatt { a with nx := a.nx + 1 }) 5 [10, 11], .pack (GD.teng ({ s with ts := setU s.ts 1 (some { a with nx := a.nx + 1 }), hp := s.hp.set p.t.toNat p.v })) 0 [1, 2, 3, 4, 6, 5, 7, 8]] [0] ?_ ?_ ?_ <;> simp [frag_tatt, frag_teng, tengC, tps, teptr_some, teptr_none, setU, ha, tslotO_some, tslotO_none, u1, u2, u3, Rp.v, Rp.cells, rpNone, rpErr, rpDone, rpEnd, rpBusy, evs_append, evs_single, us_set, whyF_len, keyF_len, hk6, hph]
  · refine ends_plan [.pack (GD.tatt { a with nx := a.nx + 1 }) 5 [10, 11], .pack (GD.teng ({ s with ts := setU s.ts 2 (some { a with nx := a.nx + 1 }), hp := s.hp.set p.t.toNat p.v })) 0 [1, 2, 3, 4, 6, 7, 5, 8]] [0] ?_ ?_ ?_ <;> simp [frag_tatt, frag_teng, tengC, tps, teptr_some, teptr_none, setU, ha, tslotO_some, tslotO_none, u1, u2, u3, Rp.v, Rp.cells, rpNone, rpErr, rpDone, rpEnd, rpBusy, evs_append, evs_single, us_set, whyF_len, keyF_len, hk6, hph]
  · refine ends_plan [.pack (GD.tatt { a with nx := a.nx + 1 }) 5 [10, 11], .pack (GD.teng ({ s with ts := setU s.ts 3 (some { a with nx := a.nx + 1 }), hp := s.hp.set p.t.toNat p.v })) 0 [1, 2, 3, 4, 6, 7, 8, 5]] [0] ?_ ?_ ?_ <;> simp [frag_tatt, frag_teng, tengC, tps, teptr_some, teptr_none, setU, ha, tslotO_some, tslotO_none, u1, u2, u3, Rp.v, Rp.cells, rpNone, rpErr, rpDone, rpEnd, rpBusy, evs_append, evs_single, us_set, whyF_len, keyF_len, hk6, hph]
set_option maxRecDepth 10000 in
set_option maxHeartbeats 8000000 in
theorem tstep_g3l (s : TS) (hs : s.Ok) (hev : s.ev.length ≤ 100000) (th : Nat) (hth : th < 4) (a : TA) (ha : s.ts th = some a) (hk6 : a.ra.k = 6) (hph : a.ph = 3) (p : Pr) (hx : (allL a.fs)[a.nx]? = some p) (hp : 0 ≤ p.t ∧ p.t < s.hp.length) (hl : a.nx + 1 = (allL a.fs).length) : Runs Tryz.prog cfg 15 [.pointer (some ⟨0, 0, none⟩), .int .i64 th] (AH.of [some (.hi (.teng s))])
    fun r H' => r = .ret (rpNone).v ∧ H' = AH.of [some (.hi (.teng ({ s with ts := setU s.ts th (some { a with nx := a.nx + 1, ph := 4 }), hp := s.hp.set p.t.toNat p.v })))] := by
  refine Runs.ends ?_
  generalize hS : (({ s with ts := setU s.ts th (some { a with nx := a.nx + 1, ph := 4 }), hp := s.hp.set p.t.toNat p.v }) : TS) = S'
  refine Runs.openTEng hth ?_
  have z1 : ¬ (th : Int) < 0 := by omega
  have z2 : ¬ 4 ≤ (th : Int) := by omega
  have z3 : (th : Int) < 4 := by omega
  have z4 : 2 + th + 1 ≤ 8 := by omega
  have gt : ∀ a b q ts x y, (tengC a b th q ts x y)[2 + th]? = some q := fun a b q ts x y => tengC_t a b hth q ts x y
  have gg : ∀ a b q ts x y (h : 2 + th < (tengC a b th q ts x y).length), (tengC a b th q ts x y)[2 + th]'h = q := fun a b q ts x y h => tengC_gt a b hth q ts x y h
  have gs : ∀ a b q ts x y v, (tengC a b th q ts x y).set (2 + th) v = tengC a b th v ts x y := fun a b q ts x y v => tengC_st a b hth q ts x y v
  have hok := hs.ts th a ha
  have hg := hs.tab
  have hel := tev_room hev
  have t3 := take_evs s.ev
  have hgl := hok.fs
  have hlt := (List.getElem?_eq_some_iff.1 hx).1
  have hlt2 : (a.nx : Int) < (allL a.fs).length := by omega
  obtain ⟨rx, rv⟩ := prs_at hx
  have hnx := hok.nx
  have hwr : IntKind.i64.wrap ((a.nx : Int) + 1) = ((a.nx + 1 : Nat) : Int) := by rw [wrap_i64 (by omega) (by omega)]; omega
  have hpl : (p.t.toNat : Int) < s.hp.length := by omega
  have hpl2 : p.t.toNat < s.hp.length := by omega
  have hpl3 : p.t.toNat + 1 ≤ s.hp.length := by omega
  have hl2 : ((a.nx : Int) + 1 = ((allL a.fs).length : Int)) = True := eq_true (by omega)
  have hl3 : (a.nx + 1 = (allL a.fs).length) = True := eq_true hl
  refine runs_by (tbl := tblUs) tblUs_ok 0 5 (af := a15) rfl ?_
  rw [a15, b15, run_eq]
  refine ⟨by simp, ?_⟩
  simp (implicitDefEqProofs := false) [tengL, tblUs, dataSt, pureStep, forms46, a46, b46, forms50, a50, b50, forms53, a53, b53, forms56, a56, b56, forms157, a157, b157, forms109, a109, b109, forms110, a110, b110, forms150, a150, b150, forms151, a151, b151, forms108, a108, b108, forms111, a111, b111, forms155, a155, b155, forms51, a51, b51, forms162, a162, b162, z1, z2, z3, z4, gt, gg, gs, tengC_0, tengC_1, tengC_6, tengC_7, tengC_g0, tengC_g1, tengC_g6, tengC_g7, tengC_s6, tengC_s7, tengC_len, ha, teptr_some, teptr_none, tslotO_some, frag_tatt, hg, hel, t3, evs_length, st55, hk6, hph, hgl, hlt, hlt2, rx, rv, hwr, hp, hpl, hpl2, hpl3, hl2, hl3, us_length, us_set]
  subst hS
  rcases tth_cases hth with rfl | rfl | rfl | rfl
  · refine ends_plan [.pack (GD.tatt { a with nx := a.nx + 1, ph := 4 }) 5 [10, 11], .pack (GD.teng ({ s with ts := setU s.ts 0 (some { a with nx := a.nx + 1, ph := 4 }), hp := s.hp.set p.t.toNat p.v })) 0 [1, 2, 3, 4, 5, 6, 7, 8]] [0] ?_ ?_ ?_ <;> simp [frag_tatt, frag_teng, tengC, tps, teptr_some, teptr_none, setU, ha, tslotO_some, tslotO_none, u1, u2, u3, Rp.v, Rp.cells, rpNone, rpErr, rpDone, rpEnd, rpBusy, evs_append, evs_single, us_set, whyF_len, keyF_len, hk6]
  · refine ends_plan [.pack (GD.tatt { a with nx := a.nx + 1, ph := 4 }) 5 [10, 11], .pack (GD.teng ({ s with ts := setU s.ts 1 (some { a with nx := a.nx + 1, ph := 4 }), hp := s.hp.set p.t.toNat p.v })) 0 [1, 2, 3, 4, 6, 5, 7, 8]] [0] ?_ ?_ ?_ <;> simp [frag_tatt, frag_teng, tengC, tps, teptr_some, teptr_none, setU, ha, tslotO_some, tslotO_none, u1, u2, u3, Rp.v, Rp.cells, rpNone, rpErr, rpDone, rpEnd, rpBusy, evs_append, evs_single, us_set, whyF_len, keyF_len, hk6]
  · refine ends_plan [.pack (GD.tatt { a with nx := a.nx + 1, ph := 4 }) 5 [10, 11], .pack (GD.teng ({ s with ts := setU s.ts 2 (some { a with nx := a.nx + 1, ph := 4 }), hp := s.hp.set p.t.toNat p.v })) 0 [1, 2, 3, 4, 6, 7, 5, 8]] [0] ?_ ?_ ?_ <;> simp [frag_tatt, frag_teng, tengC, tps, teptr_some, teptr_none, setU, ha, tslotO_some, tslotO_none, u1, u2, u3, Rp.v, Rp.cells, rpNone, rpErr, rpDone, rpEnd, rpBusy, evs_append, evs_single, us_set, whyF_len, keyF_len, hk6]
  · refine ends_plan [.pack (GD.tatt { a with nx := a.nx + 1, ph := 4 }) 5 [10, 11], .pack (GD.teng ({ s with ts := setU s.ts 3 (some { a with nx := a.nx + 1, ph := 4 }), hp := s.hp.set p.t.toNat p.v })) 0 [1, 2, 3, 4, 6, 7, 8, 5]] [0] ?_ ?_ ?_ <;> simp [frag_tatt, frag_teng, tengC, tps, teptr_some, teptr_none, setU, ha, tslotO_some, tslotO_none, u1, u2, u3, Rp.v, Rp.cells, rpNone, rpErr, rpDone, rpEnd, rpBusy, evs_append, evs_single, us_set, whyF_len, keyF_len, hk6]
set_option maxRecDepth 10000 in
set_option maxHeartbeats 8000000 in
theorem tstep_g4c (s : TS) (hs : s.Ok) (hev : s.ev.length ≤ 100000) (th : Nat) (hth : th < 4) (a : TA) (ha : s.ts th = some a) (hk6 : a.ra.k = 6) (hph : a.ph = 4) (h : Int) (hh : heldL s.ws th = [h]) (W : List Int) (hW : unlockTL s.ws s.c th h a.wv = W) : Runs Tryz.prog cfg 15 [.pointer (some ⟨0, 0, none⟩), .int .i64 th] (AH.of [some (.hi (.teng s))])
    fun r H' => r = .ret (rpEnd 0).v ∧ H' = AH.of [some (.hi (.teng ({ s with ws := W, ts := setU s.ts th none, ev := s.ev ++ [⟨8, a.n, 0, 0⟩] })))] := by
  refine Runs.ends ?_
  generalize hS : (({ s with ws := W, ts := setU s.ts th none, ev := s.ev ++ [⟨8, a.n, 0, 0⟩] }) : TS) = S'
  refine Runs.openTEng hth ?_
  have z1 : ¬ (th : Int) < 0 := by omega
  have z2 : ¬ 4 ≤ (th : Int) := by omega
  have z3 : (th : Int) < 4 := by omega
  have z4 : 2 + th + 1 ≤ 8 := by omega
  have gt : ∀ a b q ts x y, (tengC a b th q ts x y)[2 + th]? = some q := fun a b q ts x y => tengC_t a b hth q ts x y
  have gg : ∀ a b q ts x y (h : 2 + th < (tengC a b th q ts x y).length), (tengC a b th q ts x y)[2 + th]'h = q := fun a b q ts x y h => tengC_gt a b hth q ts x y h
  have gs : ∀ a b q ts x y v, (tengC a b th q ts x y).set (2 + th) v = tengC a b th v ts x y := fun a b q ts x y v => tengC_st a b hth q ts x y v
  have hok := hs.ts th a ha
  have hg := hs.tab
  have hel := tev_room hev
  have t3 := take_evs s.ev
  have hwv := hok.wv.1
  have ih : ints [h] = [.int .i64 h] := rfl
  refine runs_by (tbl := tblUs) tblUs_ok 0 5 (af := a15) rfl ?_
  rw [a15, b15, run_eq]
  refine ⟨by simp, ?_⟩
  simp (implicitDefEqProofs := false) [tengL, tblUs, dataSt, pureStep, forms46, a46, b46, forms50, a50, b50, forms53, a53, b53, forms56, a56, b56, forms157, a157, b157, forms109, a109, b109, forms110, a110, b110, forms150, a150, b150, forms151, a151, b151, forms108, a108, b108, forms111, a111, b111, forms155, a155, b155, forms51, a51, b51, forms162, a162, b162, z1, z2, z3, z4, gt, gg, gs, tengC_0, tengC_1, tengC_6, tengC_7, tengC_g0, tengC_g1, tengC_g6, tengC_g7, tengC_s6, tengC_s7, tengC_len, ha, teptr_some, teptr_none, tslotO_some, frag_tatt, hg, hel, t3, evs_length, st58, st156, hk6, hph, hh, ih, hwv, hW]
  subst hS
  rcases tth_cases hth with rfl | rfl | rfl | rfl
  · refine ends_plan [.nil 98, .pack (GD.teng ({ s with ws := W, ts := setU s.ts 0 none, ev := s.ev ++ [⟨8, a.n, 0, 0⟩] })) 0 [1, 2, 17, 4, 18, 6, 7, 8]] [0] ?_ ?_ ?_ <;> simp [frag_tatt, frag_teng, tengC, tps, teptr_some, teptr_none, setU, ha, tslotO_some, tslotO_none, u1, u2, u3, Rp.v, Rp.cells, rpNone, rpErr, rpDone, rpEnd, rpBusy, evs_append, evs_single, us_set, whyF_len, keyF_len]
  · refine ends_plan [.nil 98, .pack (GD.teng ({ s with ws := W, ts := setU s.ts 1 none, ev := s.ev ++ [⟨8, a.n, 0, 0⟩] })) 0 [1, 2, 17, 4, 6, 18, 7, 8]] [0] ?_ ?_ ?_ <;> simp [frag_tatt, frag_teng, tengC, tps, teptr_some, teptr_none, setU, ha, tslotO_some, tslotO_none, u1, u2, u3, Rp.v, Rp.cells, rpNone, rpErr, rpDone, rpEnd, rpBusy, evs_append, evs_single, us_set, whyF_len, keyF_len]
  · refine ends_plan [.nil 98, .pack (GD.teng ({ s with ws := W, ts := setU s.ts 2 none, ev := s.ev ++ [⟨8, a.n, 0, 0⟩] })) 0 [1, 2, 17, 4, 6, 7, 18, 8]] [0] ?_ ?_ ?_ <;> simp [frag_tatt, frag_teng, tengC, tps, teptr_some, teptr_none, setU, ha, tslotO_some, tslotO_none, u1, u2, u3, Rp.v, Rp.cells, rpNone, rpErr, rpDone, rpEnd, rpBusy, evs_append, evs_single, us_set, whyF_len, keyF_len]
  · refine ends_plan [.nil 98, .pack (GD.teng ({ s with ws := W, ts := setU s.ts 3 none, ev := s.ev ++ [⟨8, a.n, 0, 0⟩] })) 0 [1, 2, 17, 4, 6, 7, 8, 18]] [0] ?_ ?_ ?_ <;> simp [frag_tatt, frag_teng, tengC, tps, teptr_some, teptr_none, setU, ha, tslotO_some, tslotO_none, u1, u2, u3, Rp.v, Rp.cells, rpNone, rpErr, rpDone, rpEnd, rpBusy, evs_append, evs_single, us_set, whyF_len, keyF_len]
set_option maxRecDepth 10000 in
set_option maxHeartbeats 8000000 in
theorem tstep_g4m (s : TS) (hs : s.Ok) (hev : s.ev.length ≤ 100000) (th : Nat) (hth : th < 4) (a : TA) (ha : s.ts th = some a) (hk6 : a.ra.k = 6) (hph : a.ph = 4) (h h2 : Int) (rest : List Int) (hh : heldL s.ws th = h :: h2 :: rest) (W : List Int) (hW : unlockTL s.ws s.c th h a.wv = W) : Runs Tryz.prog cfg 15 [.pointer (some ⟨0, 0, none⟩), .int .i64 th] (AH.of [some (.hi (.teng s))])
    fun r H' => r = .ret (rpNone).v ∧ H' = AH.of [some (.hi (.teng ({ s with ws := W })))] := by
  refine Runs.ends ?_
  generalize hS : (({ s with ws := W }) : TS) = S'
  refine Runs.openTEng hth ?_
  have z1 : ¬ (th : Int) < 0 := by omega
  have z2 : ¬ 4 ≤ (th : Int) := by omega
  have z3 : (th : Int) < 4 := by omega
  have z4 : 2 + th + 1 ≤ 8 := by omega
  have gt : ∀ a b q ts x y, (tengC a b th q ts x y)[2 + th]? = some q := fun a b q ts x y => tengC_t a b hth q ts x y
  have gg : ∀ a b q ts x y (h : 2 + th < (tengC a b th q ts x y).length), (tengC a b th q ts x y)[2 + th]'h = q := fun a b q ts x y h => tengC_gt a b hth q ts x y h
  have gs : ∀ a b q ts x y v, (tengC a b th q ts x y).set (2 + th) v = tengC a b th v ts x y := fun a b q ts x y v => tengC_st a b hth q ts x y v
  have hok := hs.ts th a ha
  have hg := hs.tab
  have hel := tev_room hev
  have t3 := take_evs s.ev
  have hwv := hok.wv.1
  have ih : ints (h :: h2 :: rest) = .int .i64 h :: .int .i64 h2 :: ints rest := rfl
  have hl1 : ¬ ((rest.length : Int) + 1 + 1 = 1) := by omega
  have hl2 : (0 : Int) < (rest.length : Int) + 1 + 1 := by omega
  refine runs_by (tbl := tblUs) tblUs_ok 0 5 (af := a15) rfl ?_
  rw [a15, b15, run_eq]
  refine ⟨by simp, ?_⟩
  simp (implicitDefEqProofs := false) [tengL, tblUs, dataSt, pureStep, forms46, a46, b46, forms50, a50, b50, forms53, a53, b53, forms56, a56, b56, forms157, a157, b157, forms109, a109, b109, forms110, a110, b110, forms150, a150, b150, forms151, a151, b151, forms108, a108, b108, forms111, a111, b111, forms155, a155, b155, forms51, a51, b51, forms162, a162, b162, z1, z2, z3, z4, gt, gg, gs, tengC_0, tengC_1, tengC_6, tengC_7, tengC_g0, tengC_g1, tengC_g6, tengC_g7, tengC_s6, tengC_s7, tengC_len, ha, teptr_some, teptr_none, tslotO_some, frag_tatt, hg, hel, t3, evs_length, st58, st156, hk6, hph, hh, ih, hwv, hW, hl1, hl2]
  subst hS
  rcases tth_cases hth with rfl | rfl | rfl | rfl
  · refine ends_plan [.pack (GD.tatt a) 5 [10, 11], .pack (GD.teng { s with ws := W }) 0 [1, 2, 3, 4, 5, 6, 7, 8]] [0] ?_ ?_ ?_ <;> simp [frag_tatt, frag_teng, tengC, tps, teptr_some, teptr_none, setU, ha, tslotO_some, tslotO_none, u1, u2, u3, Rp.v, Rp.cells, rpNone, rpErr, rpDone, rpEnd, rpBusy, evs_append, evs_single, us_set, whyF_len, keyF_len, hk6, hph]
  · refine ends_plan [.pack (GD.tatt a) 5 [10, 11], .pack (GD.teng { s with ws := W }) 0 [1, 2, 3, 4, 6, 5, 7, 8]] [0] ?_ ?_ ?_ <;> simp [frag_tatt, frag_teng, tengC, tps, teptr_some, teptr_none, setU, ha, tslotO_some, tslotO_none, u1, u2, u3, Rp.v, Rp.cells, rpNone, rpErr, rpDone, rpEnd, rpBusy, evs_append, evs_single, us_set, whyF_len, keyF_len, hk6, hph]
  · refine ends_plan [.pack (GD.tatt a) 5 [10, 11], .pack (GD.teng { s with ws := W }) 0 [1, 2, 3, 4, 6, 7, 5, 8]] [0] ?_ ?_ ?_ <;> simp [frag_tatt, frag_teng, tengC, tps, teptr_some, teptr_none, setU, ha, tslotO_some, tslotO_none, u1, u2, u3, Rp.v, Rp.cells, rpNone, rpErr, rpDone, rpEnd, rpBusy, evs_append, evs_single, us_set, whyF_len, keyF_len, hk6, hph]
  · refine ends_plan [.pack (GD.tatt a) 5 [10, 11], .pack (GD.teng { s with ws := W }) 0 [1, 2, 3, 4, 6, 7, 8, 5]] [0] ?_ ?_ ?_ <;> simp [frag_tatt, frag_teng, tengC, tps, teptr_some, teptr_none, setU, ha, tslotO_some, tslotO_none, u1, u2, u3, Rp.v, Rp.cells, rpNone, rpErr, rpDone, rpEnd, rpBusy, evs_append, evs_single, us_set, whyF_len, keyF_len, hk6, hph]
end YtapbabkndhaemaaGreat
end Go.Proofs
/-
  TL2: Step. (Printed by tools/genstep_t.py.)
-/
namespace Go.Proofs
namespace YtapbabkndhaemaaGreat
open Go.Abs
set_option maxRecDepth 10000 in
set_option maxHeartbeats 8000000 in
theorem tstep_t3 (s : TS) (hs : s.Ok) (hev : s.ev.length ≤ 100000) (th : Nat) (hth : th < 4) (a : TA) (ha : s.ts th = some a) (hk3 : a.ra.k = 3) (f : List Pr) (fs : List (List Pr)) (hfs : a.fs = f :: fs) (hl : ¬ 4 ≤ fs.length) : Runs Tryz.prog cfg 15 [.pointer (some ⟨0, 0, none⟩), .int .i64 th] (AH.of [some (.hi (.teng s))])
    fun r H' => r = .ret (rpDone 0).v ∧ H' = AH.of [some (.hi (.teng ({ s with ts := setU s.ts th (some { a with ra := ⟨0, 0, 0⟩, fs := [] :: f :: fs }), ev := s.ev ++ [⟨4, a.n, 0, 0⟩] })))] := by
  refine Runs.ends ?_
  generalize hS : (({ s with ts := setU s.ts th (some { a with ra := ⟨0, 0, 0⟩, fs := [] :: f :: fs }), ev := s.ev ++ [⟨4, a.n, 0, 0⟩] }) : TS) = S'
  refine Runs.openTEng hth ?_
  have z1 : ¬ (th : Int) < 0 := by omega
  have z2 : ¬ 4 ≤ (th : Int) := by omega
  have z3 : (th : Int) < 4 := by omega
  have z4 : 2 + th + 1 ≤ 8 := by omega
  have gt : ∀ a b q ts x y, (tengC a b th q ts x y)[2 + th]? = some q := fun a b q ts x y => tengC_t a b hth q ts x y
  have gg : ∀ a b q ts x y (h : 2 + th < (tengC a b th q ts x y).length), (tengC a b th q ts x y)[2 + th]'h = q := fun a b q ts x y h => tengC_gt a b hth q ts x y h
  have gs : ∀ a b q ts x y v, (tengC a b th q ts x y).set (2 + th) v = tengC a b th v ts x y := fun a b q ts x y v => tengC_st a b hth q ts x y v
  have hok := hs.ts th a ha
  have hg := hs.tab
  have hel := tev_room hev
  have t3 := take_evs s.ev
  have hgl := hok.fs
  rw [hfs] at hgl
  have hl5 : fs.length ≤ 100 := by have := hgl.2.1; simp at this; omega
  refine runs_by (tbl := tblUs) tblUs_ok 0 5 (af := a15) rfl ?_
  rw [a15, b15, run_eq]
  refine ⟨by simp, ?_⟩
  simp (implicitDefEqProofs := false) [tengL, tblUs, dataSt, pureStep, forms46, a46, b46, forms50, a50, b50, forms53, a53, b53, forms56, a56, b56, forms157, a157, b157, forms109, a109, b109, forms110, a110, b110, forms150, a150, b150, forms151, a151, b151, forms108, a108, b108, forms111, a111, b111, forms155, a155, b155, forms51, a51, b51, forms162, a162, b162, z1, z2, z3, z4, gt, gg, gs, tengC_0, tengC_1, tengC_6, tengC_7, tengC_g0, tengC_g1, tengC_g6, tengC_g7, tengC_s6, tengC_s7, tengC_len, ha, teptr_some, teptr_none, tslotO_some, frag_tatt, hg, hel, t3, evs_length, d158, hk3, hfs, hl, hl5]
  subst hS
  rcases tth_cases hth with rfl | rfl | rfl | rfl
  · refine ends_plan [.pack (GD.tatt { a with ra := ⟨0, 0, 0⟩, fs := [] :: f :: fs }) 5 [10, 11], .pack (GD.teng ({ s with ts := setU s.ts 0 (some { a with ra := ⟨0, 0, 0⟩, fs := [] :: f :: fs }), ev := s.ev ++ [⟨4, a.n, 0, 0⟩] })) 0 [1, 2, 16, 4, 5, 6, 7, 8]] [0] ?_ ?_ ?_ <;> simp [frag_tatt, frag_teng, tengC, tps, teptr_some, teptr_none, setU, ha, tslotO_some, tslotO_none, u1, u2, u3, Rp.v, Rp.cells, rpNone, rpErr, rpDone, rpEnd, rpBusy, evs_append, evs_single, us_set, whyF_len, keyF_len]
  · refine ends_plan [.pack (GD.tatt { a with ra := ⟨0, 0, 0⟩, fs := [] :: f :: fs }) 5 [10, 11], .pack (GD.teng ({ s with ts := setU s.ts 1 (some { a with ra := ⟨0, 0, 0⟩, fs := [] :: f :: fs }), ev := s.ev ++ [⟨4, a.n, 0, 0⟩] })) 0 [1, 2, 16, 4, 6, 5, 7, 8]] [0] ?_ ?_ ?_ <;> simp [frag_tatt, frag_teng, tengC, tps, teptr_some, teptr_none, setU, ha, tslotO_some, tslotO_none, u1, u2, u3, Rp.v, Rp.cells, rpNone, rpErr, rpDone, rpEnd, rpBusy, evs_append, evs_single, us_set, whyF_len, keyF_len]
  · refine ends_plan [.pack (GD.tatt { a with ra := ⟨0, 0, 0⟩, fs := [] :: f :: fs }) 5 [10, 11], .pack (GD.teng ({ s with ts := setU s.ts 2 (some { a with ra := ⟨0, 0, 0⟩, fs := [] :: f :: fs }), ev := s.ev ++ [⟨4, a.n, 0, 0⟩] })) 0 [1, 2, 16, 4, 6, 7, 5, 8]] [0] ?_ ?_ ?_ <;> simp [frag_tatt, frag_teng, tengC, tps, teptr_some, teptr_none, setU, ha, tslotO_some, tslotO_none, u1, u2, u3, Rp.v, Rp.cells, rpNone, rpErr, rpDone, rpEnd, rpBusy, evs_append, evs_single, us_set, whyF_len, keyF_len]
  · refine ends_plan [.pack (GD.tatt { a with ra := ⟨0, 0, 0⟩, fs := [] :: f :: fs }) 5 [10, 11], .pack (GD.teng ({ s with ts := setU s.ts 3 (some { a with ra := ⟨0, 0, 0⟩, fs := [] :: f :: fs }), ev := s.ev ++ [⟨4, a.n, 0, 0⟩] })) 0 [1, 2, 16, 4, 6, 7, 8, 5]] [0] ?_ ?_ ?_ <;> simp [frag_tatt, frag_teng, tengC, tps, teptr_some, teptr_none, setU, ha, tslotO_some, tslotO_none, u1, u2, u3, Rp.v, Rp.cells, rpNone, rpErr, rpDone, rpEnd, rpBusy, evs_append, evs_single, us_set, whyF_len, keyF_len]
set_option maxRecDepth 10000 in
set_option maxHeartbeats 8000000 in
theorem tstep_t4 (s : TS) (hs : s.Ok) (hev : s.ev.length ≤ 100000) (th : Nat) (hth : th < 4) (a : TA) (ha : s.ts th = some a) (hk4 : a.ra.k = 4) (f g : List Pr) (fs : List (List Pr)) (hfs : a.fs = f :: g :: fs) : Runs Tryz.prog cfg 15 [.pointer (some ⟨0, 0, none⟩), .int .i64 th] (AH.of [some (.hi (.teng s))])
    fun r H' => r = .ret (rpDone 0).v ∧ H' = AH.of [some (.hi (.teng ({ s with ts := setU s.ts th (some { a with ra := ⟨0, 0, 0⟩, fs := g :: fs }), ev := s.ev ++ [⟨5, a.n, 0, 0⟩] })))] := by
  refine Runs.ends ?_
  generalize hS : (({ s with ts := setU s.ts th (some { a with ra := ⟨0, 0, 0⟩, fs := g :: fs }), ev := s.ev ++ [⟨5, a.n, 0, 0⟩] }) : TS) = S'
  refine Runs.openTEng hth ?_
  have z1 : ¬ (th : Int) < 0 := by omega
  have z2 : ¬ 4 ≤ (th : Int) := by omega
  have z3 : (th : Int) < 4 := by omega
  have z4 : 2 + th + 1 ≤ 8 := by omega
  have gt : ∀ a b q ts x y, (tengC a b th q ts x y)[2 + th]? = some q := fun a b q ts x y => tengC_t a b hth q ts x y
  have gg : ∀ a b q ts x y (h : 2 + th < (tengC a b th q ts x y).length), (tengC a b th q ts x y)[2 + th]'h = q := fun a b q ts x y h => tengC_gt a b hth q ts x y h
  have gs : ∀ a b q ts x y v, (tengC a b th q ts x y).set (2 + th) v = tengC a b th v ts x y := fun a b q ts x y v => tengC_st a b hth q ts x y v
  have hok := hs.ts th a ha
  have hg := hs.tab
  have hel := tev_room hev
  have t3 := take_evs s.ev
  have hgl := hok.fs
  rw [hfs] at hgl
  have hl5 : fs.length + 1 ≤ 100 := by have := hgl.2.1; simp at this; omega
  refine runs_by (tbl := tblUs) tblUs_ok 0 5 (af := a15) rfl ?_
  rw [a15, b15, run_eq]
  refine ⟨by simp, ?_⟩
  simp (implicitDefEqProofs := false) [tengL, tblUs, dataSt, pureStep, forms46, a46, b46, forms50, a50, b50, forms53, a53, b53, forms56, a56, b56, forms157, a157, b157, forms109, a109, b109, forms110, a110, b110, forms150, a150, b150, forms151, a151, b151, forms108, a108, b108, forms111, a111, b111, forms155, a155, b155, forms51, a51, b51, forms162, a162, b162, z1, z2, z3, z4, gt, gg, gs, tengC_0, tengC_1, tengC_6, tengC_7, tengC_g0, tengC_g1, tengC_g6, tengC_g7, tengC_s6, tengC_s7, tengC_len, ha, teptr_some, teptr_none, tslotO_some, frag_tatt, hg, hel, t3, evs_length, d159, hk4, hfs, hl5]
  subst hS
  rcases tth_cases hth with rfl | rfl | rfl | rfl
  · refine ends_plan [.pack (GD.tatt { a with ra := ⟨0, 0, 0⟩, fs := g :: fs }) 5 [10, 11], .pack (GD.teng ({ s with ts := setU s.ts 0 (some { a with ra := ⟨0, 0, 0⟩, fs := g :: fs }), ev := s.ev ++ [⟨5, a.n, 0, 0⟩] })) 0 [1, 2, 16, 4, 5, 6, 7, 8]] [0] ?_ ?_ ?_ <;> simp [frag_tatt, frag_teng, tengC, tps, teptr_some, teptr_none, setU, ha, tslotO_some, tslotO_none, u1, u2, u3, Rp.v, Rp.cells, rpNone, rpErr, rpDone, rpEnd, rpBusy, evs_append, evs_single, us_set, whyF_len, keyF_len]
  · refine ends_plan [.pack (GD.tatt { a with ra := ⟨0, 0, 0⟩, fs := g :: fs }) 5 [10, 11], .pack (GD.teng ({ s with ts := setU s.ts 1 (some { a with ra := ⟨0, 0, 0⟩, fs := g :: fs }), ev := s.ev ++ [⟨5, a.n, 0, 0⟩] })) 0 [1, 2, 16, 4, 6, 5, 7, 8]] [0] ?_ ?_ ?_ <;> simp [frag_tatt, frag_teng, tengC, tps, teptr_some, teptr_none, setU, ha, tslotO_some, tslotO_none, u1, u2, u3, Rp.v, Rp.cells, rpNone, rpErr, rpDone, rpEnd, rpBusy, evs_append, evs_single, us_set, whyF_len, keyF_len]
  · refine ends_plan [.pack (GD.tatt { a with ra := ⟨0, 0, 0⟩, fs := g :: fs }) 5 [10, 11], .pack (GD.teng ({ s with ts := setU s.ts 2 (some { a with ra := ⟨0, 0, 0⟩, fs := g :: fs }), ev := s.ev ++ [⟨5, a.n, 0, 0⟩] })) 0 [1, 2, 16, 4, 6, 7, 5, 8]] [0] ?_ ?_ ?_ <;> simp [frag_tatt, frag_teng, tengC, tps, teptr_some, teptr_none, setU, ha, tslotO_some, tslotO_none, u1, u2, u3, Rp.v, Rp.cells, rpNone, rpErr, rpDone, rpEnd, rpBusy, evs_append, evs_single, us_set, whyF_len, keyF_len]
  · refine ends_plan [.pack (GD.tatt { a with ra := ⟨0, 0, 0⟩, fs := g :: fs }) 5 [10, 11], .pack (GD.teng ({ s with ts := setU s.ts 3 (some { a with ra := ⟨0, 0, 0⟩, fs := g :: fs }), ev := s.ev ++ [⟨5, a.n, 0, 0⟩] })) 0 [1, 2, 16, 4, 6, 7, 8, 5]] [0] ?_ ?_ ?_ <;> simp [frag_tatt, frag_teng, tengC, tps, teptr_some, teptr_none, setU, ha, tslotO_some, tslotO_none, u1, u2, u3, Rp.v, Rp.cells, rpNone, rpErr, rpDone, rpEnd, rpBusy, evs_append, evs_single, us_set, whyF_len, keyF_len]
set_option maxRecDepth 10000 in
set_option maxHeartbeats 8000000 in
theorem tstep_t5 (s : TS) (hs : s.Ok) (hev : s.ev.length ≤ 100000) (th : Nat) (hth : th < 4) (a : TA) (ha : s.ts th = some a) (hk5 : a.ra.k = 5) (f g : List Pr) (fs : List (List Pr)) (hfs : a.fs = f :: g :: fs) : Runs Tryz.prog cfg 15 [.pointer (some ⟨0, 0, none⟩), .int .i64 th] (AH.of [some (.hi (.teng s))])
    fun r H' => r = .ret (rpDone 0).v ∧ H' = AH.of [some (.hi (.teng ({ s with ts := setU s.ts th (some { a with ra := ⟨0, 0, 0⟩, fs := mergeF g f :: fs }), ev := s.ev ++ [⟨6, a.n, 0, 0⟩] })))] := by
  refine Runs.ends ?_
  generalize hS : (({ s with ts := setU s.ts th (some { a with ra := ⟨0, 0, 0⟩, fs := mergeF g f :: fs }), ev := s.ev ++ [⟨6, a.n, 0, 0⟩] }) : TS) = S'
  refine Runs.openTEng hth ?_
  have z1 : ¬ (th : Int) < 0 := by omega
  have z2 : ¬ 4 ≤ (th : Int) := by omega
  have z3 : (th : Int) < 4 := by omega
  have z4 : 2 + th + 1 ≤ 8 := by omega
  have gt : ∀ a b q ts x y, (tengC a b th q ts x y)[2 + th]? = some q := fun a b q ts x y => tengC_t a b hth q ts x y
  have gg : ∀ a b q ts x y (h : 2 + th < (tengC a b th q ts x y).length), (tengC a b th q ts x y)[2 + th]'h = q := fun a b q ts x y h => tengC_gt a b hth q ts x y h
  have gs : ∀ a b q ts x y v, (tengC a b th q ts x y).set (2 + th) v = tengC a b th v ts x y := fun a b q ts x y v => tengC_st a b hth q ts x y v
  have hok := hs.ts th a ha
  have hg := hs.tab
  have hel := tev_room hev
  have t3 := take_evs s.ev
  have hgl := hok.fs
  rw [hfs] at hgl
  refine runs_by (tbl := tblUs) tblUs_ok 0 5 (af := a15) rfl ?_
  rw [a15, b15, run_eq]
  refine ⟨by simp, ?_⟩
  simp (implicitDefEqProofs := false) [tengL, tblUs, dataSt, pureStep, forms46, a46, b46, forms50, a50, b50, forms53, a53, b53, forms56, a56, b56, forms157, a157, b157, forms109, a109, b109, forms110, a110, b110, forms150, a150, b150, forms151, a151, b151, forms108, a108, b108, forms111, a111, b111, forms155, a155, b155, forms51, a51, b51, forms162, a162, b162, z1, z2, z3, z4, gt, gg, gs, tengC_0, tengC_1, tengC_6, tengC_7, tengC_g0, tengC_g1, tengC_g6, tengC_g7, tengC_s6, tengC_s7, tengC_len, ha, teptr_some, teptr_none, tslotO_some, frag_tatt, hg, hel, t3, evs_length, d160, hk5, hfs, hgl]
  subst hS
  rcases tth_cases hth with rfl | rfl | rfl | rfl
  · refine ends_plan [.pack (GD.tatt { a with ra := ⟨0, 0, 0⟩, fs := mergeF g f :: fs }) 5 [10, 11], .pack (GD.teng ({ s with ts := setU s.ts 0 (some { a with ra := ⟨0, 0, 0⟩, fs := mergeF g f :: fs }), ev := s.ev ++ [⟨6, a.n, 0, 0⟩] })) 0 [1, 2, 16, 4, 5, 6, 7, 8]] [0] ?_ ?_ ?_ <;> simp [frag_tatt, frag_teng, tengC, tps, teptr_some, teptr_none, setU, ha, tslotO_some, tslotO_none, u1, u2, u3, Rp.v, Rp.cells, rpNone, rpErr, rpDone, rpEnd, rpBusy, evs_append, evs_single, us_set, whyF_len, keyF_len]
  · refine ends_plan [.pack (GD.tatt { a with ra := ⟨0, 0, 0⟩, fs := mergeF g f :: fs }) 5 [10, 11], .pack (GD.teng ({ s with ts := setU s.ts 1 (some { a with ra := ⟨0, 0, 0⟩, fs := mergeF g f :: fs }), ev := s.ev ++ [⟨6, a.n, 0, 0⟩] })) 0 [1, 2, 16, 4, 6, 5, 7, 8]] [0] ?_ ?_ ?_ <;> simp [frag_tatt, frag_teng, tengC, tps, teptr_some, teptr_none, setU, ha, tslotO_some, tslotO_none, u1, u2, u3, Rp.v, Rp.cells, rpNone, rpErr, rpDone, rpEnd, rpBusy, evs_append, evs_single, us_set, whyF_len, keyF_len]
  · refine ends_plan [.pack (GD.tatt { a with ra := ⟨0, 0, 0⟩, fs := mergeF g f :: fs }) 5 [10, 11], .pack (GD.teng ({ s with ts := setU s.ts 2 (some { a with ra := ⟨0, 0, 0⟩, fs := mergeF g f :: fs }), ev := s.ev ++ [⟨6, a.n, 0, 0⟩] })) 0 [1, 2, 16, 4, 6, 7, 5, 8]] [0] ?_ ?_ ?_ <;> simp [frag_tatt, frag_teng, tengC, tps, teptr_some, teptr_none, setU, ha, tslotO_some, tslotO_none, u1, u2, u3, Rp.v, Rp.cells, rpNone, rpErr, rpDone, rpEnd, rpBusy, evs_append, evs_single, us_set, whyF_len, keyF_len]
  · refine ends_plan [.pack (GD.tatt { a with ra := ⟨0, 0, 0⟩, fs := mergeF g f :: fs }) 5 [10, 11], .pack (GD.teng ({ s with ts := setU s.ts 3 (some { a with ra := ⟨0, 0, 0⟩, fs := mergeF g f :: fs }), ev := s.ev ++ [⟨6, a.n, 0, 0⟩] })) 0 [1, 2, 16, 4, 6, 7, 8, 5]] [0] ?_ ?_ ?_ <;> simp [frag_tatt, frag_teng, tengC, tps, teptr_some, teptr_none, setU, ha, tslotO_some, tslotO_none, u1, u2, u3, Rp.v, Rp.cells, rpNone, rpErr, rpDone, rpEnd, rpBusy, evs_append, evs_single, us_set, whyF_len, keyF_len]
set_option maxRecDepth 10000 in
set_option maxHeartbeats 8000000 in
theorem tstep_t2y (s : TS) (hs : s.Ok) (hev : s.ev.length ≤ 100000) (th : Nat) (hth : th < 4) (a : TA) (ha : s.ts th = some a) (hk2 : a.ra.k = 2) (f : List Pr) (fs : List (List Pr)) (hfs : a.fs = f :: fs) (hP : putCode f fs a.ra.t a.ra.v = 0) : Runs Tryz.prog cfg 15 [.pointer (some ⟨0, 0, none⟩), .int .i64 th] (AH.of [some (.hi (.teng s))])
    fun r H' => r = .ret (rpDone 0).v ∧ H' = AH.of [some (.hi (.teng ({ s with ts := setU s.ts th (some { a with ra := ⟨0, 0, 0⟩, fs := putF f ⟨a.ra.t, a.ra.v⟩ :: fs }), ev := s.ev ++ [⟨3, a.n, a.ra.t, a.ra.v⟩] })))] := by
  refine Runs.ends ?_
  generalize hS : (({ s with ts := setU s.ts th (some { a with ra := ⟨0, 0, 0⟩, fs := putF f ⟨a.ra.t, a.ra.v⟩ :: fs }), ev := s.ev ++ [⟨3, a.n, a.ra.t, a.ra.v⟩] }) : TS) = S'
  refine Runs.openTEng hth ?_
  have z1 : ¬ (th : Int) < 0 := by omega
  have z2 : ¬ 4 ≤ (th : Int) := by omega
  have z3 : (th : Int) < 4 := by omega
  have z4 : 2 + th + 1 ≤ 8 := by omega
  have gt : ∀ a b q ts x y, (tengC a b th q ts x y)[2 + th]? = some q := fun a b q ts x y => tengC_t a b hth q ts x y
  have gg : ∀ a b q ts x y (h : 2 + th < (tengC a b th q ts x y).length), (tengC a b th q ts x y)[2 + th]'h = q := fun a b q ts x y h => tengC_gt a b hth q ts x y h
  have gs : ∀ a b q ts x y v, (tengC a b th q ts x y).set (2 + th) v = tengC a b th v ts x y := fun a b q ts x y v => tengC_st a b hth q ts x y v
  have hok := hs.ts th a ha
  have hg := hs.tab
  have hel := tev_room hev
  have t3 := take_evs s.ev
  have hgl := hok.fs
  rw [hfs] at hgl
  have hrv := hok.ask.2.2.2
  refine runs_by (tbl := tblUs) tblUs_ok 0 5 (af := a15) rfl ?_
  rw [a15, b15, run_eq]
  refine ⟨by simp, ?_⟩
  simp (implicitDefEqProofs := false) [tengL, tblUs, dataSt, pureStep, forms46, a46, b46, forms50, a50, b50, forms53, a53, b53, forms56, a56, b56, forms157, a157, b157, forms109, a109, b109, forms110, a110, b110, forms150, a150, b150, forms151, a151, b151, forms108, a108, b108, forms111, a111, b111, forms155, a155, b155, forms51, a51, b51, forms162, a162, b162, z1, z2, z3, z4, gt, gg, gs, tengC_0, tengC_1, tengC_6, tengC_7, tengC_g0, tengC_g1, tengC_g6, tengC_g7, tengC_s6, tengC_s7, tengC_len, ha, teptr_some, teptr_none, tslotO_some, frag_tatt, hg, hel, t3, evs_length, d161, hk2, hfs, hgl, hrv, hP]
  subst hS
  rcases tth_cases hth with rfl | rfl | rfl | rfl
  · refine ends_plan [.pack (GD.tatt { a with ra := ⟨0, 0, 0⟩, fs := putF f ⟨a.ra.t, a.ra.v⟩ :: fs }) 5 [10, 11], .pack (GD.teng ({ s with ts := setU s.ts 0 (some { a with ra := ⟨0, 0, 0⟩, fs := putF f ⟨a.ra.t, a.ra.v⟩ :: fs }), ev := s.ev ++ [⟨3, a.n, a.ra.t, a.ra.v⟩] })) 0 [1, 2, 16, 4, 5, 6, 7, 8]] [0] ?_ ?_ ?_ <;> simp [frag_tatt, frag_teng, tengC, tps, teptr_some, teptr_none, setU, ha, tslotO_some, tslotO_none, u1, u2, u3, Rp.v, Rp.cells, rpNone, rpErr, rpDone, rpEnd, rpBusy, evs_append, evs_single, us_set, whyF_len, keyF_len]
  · refine ends_plan [.pack (GD.tatt { a with ra := ⟨0, 0, 0⟩, fs := putF f ⟨a.ra.t, a.ra.v⟩ :: fs }) 5 [10, 11], .pack (GD.teng ({ s with ts := setU s.ts 1 (some { a with ra := ⟨0, 0, 0⟩, fs := putF f ⟨a.ra.t, a.ra.v⟩ :: fs }), ev := s.ev ++ [⟨3, a.n, a.ra.t, a.ra.v⟩] })) 0 [1, 2, 16, 4, 6, 5, 7, 8]] [0] ?_ ?_ ?_ <;> simp [frag_tatt, frag_teng, tengC, tps, teptr_some, teptr_none, setU, ha, tslotO_some, tslotO_none, u1, u2, u3, Rp.v, Rp.cells, rpNone, rpErr, rpDone, rpEnd, rpBusy, evs_append, evs_single, us_set, whyF_len, keyF_len]
  · refine ends_plan [.pack (GD.tatt { a with ra := ⟨0, 0, 0⟩, fs := putF f ⟨a.ra.t, a.ra.v⟩ :: fs }) 5 [10, 11], .pack (GD.teng ({ s with ts := setU s.ts 2 (some { a with ra := ⟨0, 0, 0⟩, fs := putF f ⟨a.ra.t, a.ra.v⟩ :: fs }), ev := s.ev ++ [⟨3, a.n, a.ra.t, a.ra.v⟩] })) 0 [1, 2, 16, 4, 6, 7, 5, 8]] [0] ?_ ?_ ?_ <;> simp [frag_tatt, frag_teng, tengC, tps, teptr_some, teptr_none, setU, ha, tslotO_some, tslotO_none, u1, u2, u3, Rp.v, Rp.cells, rpNone, rpErr, rpDone, rpEnd, rpBusy, evs_append, evs_single, us_set, whyF_len, keyF_len]
  · refine ends_plan [.pack (GD.tatt { a with ra := ⟨0, 0, 0⟩, fs := putF f ⟨a.ra.t, a.ra.v⟩ :: fs }) 5 [10, 11], .pack (GD.teng ({ s with ts := setU s.ts 3 (some { a with ra := ⟨0, 0, 0⟩, fs := putF f ⟨a.ra.t, a.ra.v⟩ :: fs }), ev := s.ev ++ [⟨3, a.n, a.ra.t, a.ra.v⟩] })) 0 [1, 2, 16, 4, 6, 7, 8, 5]] [0] ?_ ?_ ?_ <;> simp [frag_tatt, frag_teng, tengC, tps, teptr_some, teptr_none, setU, ha, tslotO_some, tslotO_none, u1, u2, u3, Rp.v, Rp.cells, rpNone, rpErr, rpDone, rpEnd, rpBusy, evs_append, evs_single, us_set, whyF_len, keyF_len]
set_option maxRecDepth 10000 in
set_option maxHeartbeats 8000000 in
theorem tstep_t2f (s : TS) (hs : s.Ok) (hev : s.ev.length ≤ 100000) (th : Nat) (hth : th < 4) (a : TA) (ha : s.ts th = some a) (hk2 : a.ra.k = 2) (f : List Pr) (fs : List (List Pr)) (hfs : a.fs = f :: fs) (hP : ¬ putCode f fs a.ra.t a.ra.v = 0) (W : List Int) (hW : dropL s.ws th = W) : Runs Tryz.prog cfg 15 [.pointer (some ⟨0, 0, none⟩), .int .i64 th] (AH.of [some (.hi (.teng s))])
    fun r H' => r = .ret (rpEnd 2).v ∧ H' = AH.of [some (.hi (.teng ({ ws := W, c := s.c, hp := s.hp, ts := setU s.ts th none, ev := s.ev ++ [⟨9, a.n, 0, 0⟩], ft := whyF s.ft a.n 2 })))] := by
  refine Runs.ends ?_
  generalize hS : (({ ws := W, c := s.c, hp := s.hp, ts := setU s.ts th none, ev := s.ev ++ [⟨9, a.n, 0, 0⟩], ft := whyF s.ft a.n 2 }) : TS) = S'
  refine Runs.openTEng hth ?_
  have z1 : ¬ (th : Int) < 0 := by omega
  have z2 : ¬ 4 ≤ (th : Int) := by omega
  have z3 : (th : Int) < 4 := by omega
  have z4 : 2 + th + 1 ≤ 8 := by omega
  have gt : ∀ a b q ts x y, (tengC a b th q ts x y)[2 + th]? = some q := fun a b q ts x y => tengC_t a b hth q ts x y
  have gg : ∀ a b q ts x y (h : 2 + th < (tengC a b th q ts x y).length), (tengC a b th q ts x y)[2 + th]'h = q := fun a b q ts x y h => tengC_gt a b hth q ts x y h
  have gs : ∀ a b q ts x y v, (tengC a b th q ts x y).set (2 + th) v = tengC a b th v ts x y := fun a b q ts x y v => tengC_st a b hth q ts x y v
  have hok := hs.ts th a ha
  have hg := hs.tab
  have hel := tev_room hev
  have t3 := take_evs s.ev
  have hgl := hok.fs
  rw [hfs] at hgl
  have hrv := hok.ask.2.2.2
  have hn1 := hok.n
  have hn2 : (a.n : Int) < s.ft.length := by omega
  have hn3 : a.n * 3 + 2 + 1 ≤ s.ft.length * 3 := by omega
  have hfw := fates_why 2 hok.n
  refine runs_by (tbl := tblUs) tblUs_ok 0 5 (af := a15) rfl ?_
  rw [a15, b15, run_eq]
  refine ⟨by simp, ?_⟩
  simp (implicitDefEqProofs := false) [tengL, tblUs, dataSt, pureStep, forms46, a46, b46, forms50, a50, b50, forms53, a53, b53, forms56, a56, b56, forms157, a157, b157, forms109, a109, b109, forms110, a110, b110, forms150, a150, b150, forms151, a151, b151, forms108, a108, b108, forms111, a111, b111, forms155, a155, b155, forms51, a51, b51, forms162, a162, b162, z1, z2, z3, z4, gt, gg, gs, tengC_0, tengC_1, tengC_6, tengC_7, tengC_g0, tengC_g1, tengC_g6, tengC_g7, tengC_s6, tengC_s7, tengC_len, ha, teptr_some, teptr_none, tslotO_some, frag_tatt, hg, hel, t3, evs_length, d161, hk2, hfs, hgl, hrv, hP, st113, hW, hn1, hn2, hn3, hfw, fates_length]
  subst hS
  rcases tth_cases hth with rfl | rfl | rfl | rfl
  · refine ends_plan [.nil 98, .pack (GD.teng ({ ws := W, c := s.c, hp := s.hp, ts := setU s.ts 0 none, ev := s.ev ++ [⟨9, a.n, 0, 0⟩], ft := whyF s.ft a.n 2 })) 0 [1, 2, 17, 4, 18, 6, 7, 8]] [0] ?_ ?_ ?_ <;> simp [frag_tatt, frag_teng, tengC, tps, teptr_some, teptr_none, setU, ha, tslotO_some, tslotO_none, u1, u2, u3, Rp.v, Rp.cells, rpNone, rpErr, rpDone, rpEnd, rpBusy, evs_append, evs_single, us_set, whyF_len, keyF_len]
  · refine ends_plan [.nil 98, .pack (GD.teng ({ ws := W, c := s.c, hp := s.hp, ts := setU s.ts 1 none, ev := s.ev ++ [⟨9, a.n, 0, 0⟩], ft := whyF s.ft a.n 2 })) 0 [1, 2, 17, 4, 6, 18, 7, 8]] [0] ?_ ?_ ?_ <;> simp [frag_tatt, frag_teng, tengC, tps, teptr_some, teptr_none, setU, ha, tslotO_some, tslotO_none, u1, u2, u3, Rp.v, Rp.cells, rpNone, rpErr, rpDone, rpEnd, rpBusy, evs_append, evs_single, us_set, whyF_len, keyF_len]
  · refine ends_plan [.nil 98, .pack (GD.teng ({ ws := W, c := s.c, hp := s.hp, ts := setU s.ts 2 none, ev := s.ev ++ [⟨9, a.n, 0, 0⟩], ft := whyF s.ft a.n 2 })) 0 [1, 2, 17, 4, 6, 7, 18, 8]] [0] ?_ ?_ ?_ <;> simp [frag_tatt, frag_teng, tengC, tps, teptr_some, teptr_none, setU, ha, tslotO_some, tslotO_none, u1, u2, u3, Rp.v, Rp.cells, rpNone, rpErr, rpDone, rpEnd, rpBusy, evs_append, evs_single, us_set, whyF_len, keyF_len]
  · refine ends_plan [.nil 98, .pack (GD.teng ({ ws := W, c := s.c, hp := s.hp, ts := setU s.ts 3 none, ev := s.ev ++ [⟨9, a.n, 0, 0⟩], ft := whyF s.ft a.n 2 })) 0 [1, 2, 17, 4, 6, 7, 8, 18]] [0] ?_ ?_ ?_ <;> simp [frag_tatt, frag_teng, tengC, tps, teptr_some, teptr_none, setU, ha, tslotO_some, tslotO_none, u1, u2, u3, Rp.v, Rp.cells, rpNone, rpErr, rpDone, rpEnd, rpBusy, evs_append, evs_single, us_set, whyF_len, keyF_len]
end YtapbabkndhaemaaGreat
end Go.Proofs
/-
  TL2: Step: the locks.
-/
namespace Go.Proofs
namespace YtapbabkndhaemaaGreat
open Go.Abs
def tvarsP (fs : List (List Pr)) : List Int := (allL fs).map (·.t)
theorem tvarsP_succ {fs : List (List Pr)} {i : Nat} {p : Pr} (h : (allL fs)[i]? = some p) : (tvarsP fs).take (i + 1) = (tvarsP fs).take i ++ [p.t] := by
  unfold tvarsP
  rw [List.take_add_one, List.getElem?_map, h]; rfl
theorem needsL_eq (ws : List Int) (fs : List (List Pr)) : stripesL ws (tvarsP fs) (tvarsP fs).length = needsL ws fs := by
  unfold needsL tvarsP; rw [List.length_map]
theorem firstN_at {l held : List Int} {i : Nat} {x : Int} (hpre : ∀ j y, j < i → l[j]? = some y → y ∈ held) (hx : l[i]? = some x) (hn : x ∉ held) : firstN l held = some x := by
  induction l generalizing i with
  | nil => simp at hx
  | cons e l ih =>
    unfold firstN
    rw [List.find?_cons]
    cases i with
    | zero => simp at hx; subst hx; simp [hn]
    | succ i =>
      have h0 : e ∈ held := hpre 0 e (by omega) rfl
      simp only [h0, not_true_eq_false, decide_false]
      exact ih (i := i) (fun j y hj hy => hpre (j + 1) y (by omega) (by simpa using hy)) (by simpa using hx)
theorem firstN_none {l held : List Int} (hpre : ∀ j y, j < l.length → l[j]? = some y → y ∈ held) : firstN l held = none := by
  unfold firstN
  rw [List.find?_eq_none]
  intro x hx
  obtain ⟨j, hj⟩ := List.mem_iff_getElem?.1 hx
  have := hpre j x (List.getElem?_eq_some_iff.1 hj).1 hj
  simp [this]
theorem needs_range {ws : List Int} {c : Int} (h : GoodT ws c) (fs : List (List Pr)) {x : Int} (hx : x ∈ needsL ws fs) : 0 ≤ x ∧ x < ws.length := by
  unfold needsL at hx
  rw [stripes_same h] at hx
  unfold rstrN at hx
  obtain ⟨i, hi, rfl⟩ := List.mem_map.1 hx
  have := List.mem_range.1 (List.mem_filter.1 hi).1
  omega
theorem held_mem {ws : List Int} {o x : Int} : x ∈ heldL ws o ↔ ∃ i : Nat, i < ws.length ∧ x = (i : Int) ∧ isH ws o i = true := by
  unfold heldL heldN
  constructor
  · intro h
    obtain ⟨i, hi, rfl⟩ := List.mem_map.1 h
    obtain ⟨h1, h2⟩ := List.mem_filter.1 hi
    exact ⟨i, List.mem_range.1 h1, rfl, h2⟩
  · rintro ⟨i, h1, rfl, h2⟩
    exact List.mem_map.2 ⟨i, List.mem_filter.2 ⟨List.mem_range.2 h1, h2⟩, rfl⟩
theorem not_held_own {ws : List Int} {o x : Int} (hr : 0 ≤ x ∧ x < ws.length) (hn : x ∉ heldL ws o) (hB : ownTB ws x = true) : ownTV ws x ≠ o := fun h => by
  refine hn (held_mem.2 ⟨x.toNat, by omega, by omega, ?_⟩)
  have e : ((x.toNat : Nat) : Int) = x := by omega
  simp [isH, e, hB, h]
def lockB (s : TS) (th : Nat) (a : TA) : List (Option (AObj GD)) :=
  [some (.arr 89 (tengC (.pointer (some ⟨1, 0, none⟩)) (.slice (some ⟨2, 0, none⟩) s.hp.length 1) th (.pointer (some ⟨5, 0, none⟩)) s.ts (.slice (some ⟨3, 0, none⟩) s.ev.length 1) (.slice (some ⟨4, 0, none⟩) s.ft.length 1))),
    some (.hi (.tab s.ws s.c)), some (.arr 30 (us s.hp)), some (.arr 121 (evs s.ev)), some (.arr 100 (fates s.ft)),
    some (.arr 98 [.pointer (some ⟨10, 0, none⟩), .pointer (some ⟨11, 0, none⟩), .int .i64 a.n, .int .u64 a.rv, .int .u64 a.wv, .int .u8 6, .int .i64 a.ra.t, .int .u64 a.ra.v, .int .i64 1, .int .i64 a.nx, .int .u64 a.sw, .int .u64 a.sv, .int .i64 a.ss, .bool a.dec]),
    some (tslotO (s.ts (u1 th))), some (tslotO (s.ts (u2 th))), some (tslotO (s.ts (u3 th))),
    some (.arr 41 rpNone.cells), some (.hi (.set 0 a.es)), some (.hi (.log a.fs)), some (.arr 41 rpNone.cells), some (.arr 41 rpNone.cells), some (.arr 3 (ints (heldL s.ws th))), some (.arr 104 (prs (allL a.fs)))]
theorem ren_tengC (θ : Nat → Nat) (a b : Value) (th : Nat) (q : Value) (ts : Nat → Option TA) (x y : Value) (h6 : θ 6 = 6) (h7 : θ 7 = 7) (h8 : θ 8 = 8) : rens θ (tengC a b th q ts x y) = tengC (ren θ a) (ren θ b) th (ren θ q) ts (ren θ x) (ren θ y) := by
  unfold tengC tps
  split <;> simp [rens, h6, h7, h8]
set_option maxRecDepth 10000 in
set_option maxHeartbeats 16000000 in
theorem tstep_g1 (s : TS) (hs : s.Ok) (hev : s.ev.length ≤ 100000) (th : Nat) (hth : th < 4) (a : TA) (ha : s.ts th = some a) (hk6 : a.ra.k = 6) (hph : a.ph = 1) : Runs Tryz.prog cfg 15 [.pointer (some ⟨0, 0, none⟩), .int .i64 th] (AH.of [some (.hi (.teng s))])
    fun r H' => r = .ret (tlockS s th a).1.v ∧ H' = AH.of [some (.hi (.teng (tlockS s th a).2))] := by
  refine Runs.ends ?_
  have hok := hs.ts th a ha
  have hg := hs.tab
  have hgl := hok.fs
  have hn12 := allL_le a.fs
  obtain ⟨T, hT⟩ : ∃ T, tvarsP a.fs = T := ⟨_, rfl⟩
  obtain ⟨n, hn⟩ : ∃ n, (allL a.fs).length = n := ⟨_, rfl⟩
  have hTl : T.length = n := by rw [← hT, ← hn, tvarsP, List.length_map]
  obtain ⟨N, hN⟩ : ∃ N, needsL s.ws a.fs = N := ⟨_, rfl⟩
  have hst : stripesL s.ws T n = N := by rw [← hN, ← needsL_eq, hT, hTl]
  have hNl : N.length ≤ 8 := by have h1 := rstrN_le s.ws T n s.ws.length; rw [← stripes_same hg, hst] at h1; have := hg.len8; omega
  have hNr : ∀ x ∈ N, 0 ≤ x ∧ x < s.ws.length := fun x hx => needs_range hg a.fs (by rw [hN]; exact hx)
  obtain ⟨Hd, hHd⟩ : ∃ Hd, heldL s.ws th = Hd := ⟨_, rfl⟩
  have hHl : Hd.length ≤ 1000 := by have h1 := heldN_le s.ws th s.ws.length; have h2 := hg.len8; rw [← hHd]; unfold heldL; omega
  have hR : tlockS s th a = match firstN N Hd with
    | some st => if otherB s.ws th st = true then (rpBusy (ownTV s.ws st), s) else (rpNone, { s with ws := lockTL s.ws th st })
    | none => if nextC s.c = 0 then (rpNone, { s with c := nextV s.c, ts := setU s.ts th (some { a with wv := nextV s.c, ph := 2, nx := 0 }) }) else (rpEnd 2, tendS s th a 2) := by
    unfold tlockS; rw [hN, hHd]
    cases firstN N Hd <;> rfl
  generalize tlockS s th a = R at hR ⊢
  refine Runs.openTEng hth ?_
  have z1 : ¬ (th : Int) < 0 := by omega
  have z2 : ¬ 4 ≤ (th : Int) := by omega
  have z3 : (th : Int) < 4 := by omega
  have z4 : 2 + th + 1 ≤ 8 := by omega
  have gt : ∀ a b q ts x y, (tengC a b th q ts x y)[2 + th]? = some q := fun a b q ts x y => tengC_t a b hth q ts x y
  have gg : ∀ a b q ts x y (h : 2 + th < (tengC a b th q ts x y).length), (tengC a b th q ts x y)[2 + th]'h = q := fun a b q ts x y h => tengC_gt a b hth q ts x y h
  have gs : ∀ a b q ts x y v, (tengC a b th q ts x y).set (2 + th) v = tengC a b th v ts x y := fun a b q ts x y v => tengC_st a b hth q ts x y v
  refine runs_by (tbl := tblUs) tblUs_ok 13 5 (af := a15) rfl ?_
  rw [a15, b15, run_eq]
  refine ⟨by simp, ?_⟩
  simp (implicitDefEqProofs := false) [tengL, forms46, a46, b46, forms53, a53, b53, forms109, a109, b109, forms154, a154, b154, forms207, a207, b207, forms51, a51, b51, frag_tatt, st58, st55, hHd, hn, tblUs, dataSt, pureStep, forms50, a50, b50, forms56, a56, b56, forms151, a151, b151, z1, z2, z3, z4, gt, gg, gs, tengC_0, tengC_1, tengC_6, tengC_7, tengC_g0, tengC_g1, tengC_g6, tengC_g7, tengC_s6, tengC_s7, tengC_len, ha, teptr_some, teptr_none, tslotO_some, hg, hk6, hph, hgl]
  refine loop_view (sg_mono gX_ok (tabS_ok tblUs_ok) _ _ noY noY_mono) (fun m tm H => ∃ i : Nat, m + i = n ∧ tm 0 = .pointer (some ⟨0, 0, none⟩) ∧ tm 12 = .slice (some ⟨15, 0, none⟩) n 1 ∧ tm 13 = .int .i64 n ∧ tm 14 = .int .i64 i ∧ tm 5 = .slice (some ⟨16, 0, none⟩) i 1 ∧ H = AH.of (lockB s th a ++ [some (.arr 3 (ints (T.take i)))])) (m := n) ?_ (by omega) ?_
  · refine round_wk [.nil 3] [0, 1, 2, 3, 4, 5, 6, 7, 8, 9, 10, 11, 12, 13, 14, 15, 16] (lockB s th a ++ [some (.arr 3 (ints []))]) [(5, .slice (some ⟨16, 0, none⟩) 0 1)] n (by omega) ?_ ?_ ?_ ⟨0, ?_⟩ <;> simp [lockB, rpNone, Rp.cells, ren_tengC, hHd, show ints [] = [] from rfl]
  rintro m tm H ⟨i, hm, t0, t12, t13, t14, t5, rfl⟩
  by_cases hi : i < n
  · obtain ⟨p, hp⟩ : ∃ p, (allL a.fs)[i]? = some p := ⟨(allL a.fs)[i]'(by omega), List.getElem?_eq_getElem (by omega)⟩
    have hi' : (i : Int) < n := by omega
    have hwr := inc_i64 hi (by omega)
    have mp : ((prs (allL a.fs)).drop (i * 2)).take 2 = [.int .i64 p.t, .int .u64 p.v] := many_prs hp
    have rp : i * 2 + 2 ≤ (prs (allL a.fs)).length := by rw [prs_length, hn]; omega
    have hsuc := tvarsP_succ hp
    rw [hT] at hsuc
    have hr3 : (i + 1) * 8 ≤ 140737488355328 ∧ i ≤ 9223372036854775806 := by omega
    have htl : (T.take i).length = i := by rw [List.length_take]; omega
    have htk := take_ints (T.take i)
    rw [htl] at htk
    have hil : i ≤ (ints (T.take i)).length := by rw [ints_length, htl]; omega
    simp (implicitDefEqProofs := false) [lockB, rpNone, Rp.cells, t0, t12, t13, t14, t5, hi, hi', hwr, mp, rp, hr3, htk, hil, htl]
    refine round_plan [] [0, 1, 2, 3, 4, 5, 6, 7, 8, 9, 10, 11, 12, 13, 14, 15, 19] (lockB s th a ++ [some (.arr 3 (ints (T.take (i + 1))))]) (m - 1) (by omega) ?_ ?_ ⟨i + 1, by omega, ?_, ?_, ?_, ?_, ?_, rfl⟩ <;> simp [lockB, rpNone, Rp.cells, ren_tengC, t0, t12, t13, t5, hsuc, ints_append, ints_single]
  · have hie : i = n := by omega
    have hi' : ¬ (i : Int) < n := by omega
    have hti : T.take i = T := by rw [hie, ← hTl]; exact List.take_length
    rw [hti]
    rw [hie] at t5 t14 hi'
    have n1000 : n ≤ 1000 := by omega
    have hnT : n ≤ T.length := by omega
    simp (implicitDefEqProofs := false) [lockB, rpNone, Rp.cells, tblUs, stStrOwn, t0, t12, t13, t14, t5, hg, hst, n1000, hnT, tengC_0, tengC_g0, tengC_len]
    refine loop_view (sg_mono gX_ok (tabS_ok tblUs_ok) _ _ noY noY_mono) (fun m tm H => ∃ i : Nat, m + i = N.length ∧ (∀ j y, j < i → N[j]? = some y → y ∈ Hd) ∧ tm 0 = .pointer (some ⟨0, 0, none⟩) ∧ tm 1 = .int .i64 th ∧ tm 2 = .pointer (some ⟨5, 0, none⟩) ∧ tm 6 = .pointer (some ⟨13, 0, none⟩) ∧ tm 7 = .slice (some ⟨14, 0, none⟩) Hd.length 1 ∧ tm 22 = .slice (some ⟨17, 0, none⟩) N.length 1 ∧ tm 23 = .int .i64 N.length ∧ tm 24 = .int .i64 i ∧ H = AH.of (lockB s th a ++ [some (.arr 3 (ints T)), some (.arr 3 (ints N))])) (m := N.length) ?_ (by omega) ?_
    · refine round_plan [] [0, 1, 2, 3, 4, 5, 6, 7, 8, 9, 10, 11, 12, 13, 14, 15, 16, 17] (lockB s th a ++ [some (.arr 3 (ints T)), some (.arr 3 (ints N))]) N.length (by omega) ?_ ?_ ⟨0, ?_⟩ <;> simp [lockB, rpNone, Rp.cells, ren_tengC]
    rintro m tm H ⟨i, hm, hpre, t0, t1, t2, t6, t7, t22, t23, t24, rfl⟩
    by_cases hi : i < N.length
    · obtain ⟨x, hx⟩ : ∃ x, N[i]? = some x := ⟨N[i]'(by omega), List.getElem?_eq_getElem (by omega)⟩
      have hi' : (i : Int) < N.length := by omega
      have hwr := inc_i64 hi (by omega)
      have ux := ints_at hx
      have gx := ints_get hx
      have hxr := hNr x (List.mem_of_getElem? hx)
      by_cases hin : x ∈ Hd
      · simp (implicitDefEqProofs := false) [lockB, rpNone, Rp.cells, tblUs, st208, t0, t1, t2, t6, t7, t22, t23, t24, hi, hi', hwr, ux, gx, hHd, hHl, hin]
        refine round_plan [] [0, 1, 2, 3, 4, 5, 6, 7, 8, 9, 10, 11, 12, 13, 14, 15, 16, 17] (lockB s th a ++ [some (.arr 3 (ints T)), some (.arr 3 (ints N))]) (m - 1) (by omega) ?_ ?_ ⟨i + 1, by omega, fun j y hj hy => ?_, ?_⟩
        · simp
        · simp [lockB, rpNone, Rp.cells, ren_tengC, hHd]
        · by_cases e : j = i
          · subst e; rw [hx] at hy; cases hy; exact hin
          · exact hpre j y (by omega) hy
        · simp [lockB, rpNone, Rp.cells, hHd, t0, t1, t2, t6, t7, t22, t23]
      · have hf := firstN_at hpre hx hin
        rw [hf] at hR
        simp only at hR
        cases hB : ownTB s.ws x with
        | true =>
          have hne : ¬ ownTV s.ws x = (th : Int) := not_held_own hxr (by rw [hHd]; exact hin) hB
          have hO : otherB s.ws th x = true := by simp [otherB, hB, hne]
          rw [if_pos hO] at hR
          obtain ⟨o, ho⟩ : ∃ o, ownTV s.ws x = o := ⟨_, rfl⟩
          rw [ho] at hne hR
          subst hR
          simp (implicitDefEqProofs := false) [lockB, rpNone, Rp.cells, st208, st206, t0, t1, t2, t6, t7, t22, t23, t24, hi, hi', hwr, ux, gx, hHd, hHl, hin, hB, ho, hne, tblUs, dataSt, pureStep, forms50, a50, b50, forms56, a56, b56, forms151, a151, b151, z1, z2, z3, z4, gt, gg, gs, tengC_0, tengC_1, tengC_6, tengC_7, tengC_g0, tengC_g1, tengC_g6, tengC_g7, tengC_s6, tengC_s7, tengC_len, ha, teptr_some, teptr_none, tslotO_some, hg, hk6, hph, hgl]
          rcases tth_cases hth with rfl | rfl | rfl | rfl
          · refine ends_plan [.pack (GD.tatt a) 5 [10, 11], .pack (GD.teng s) 0 [1, 2, 3, 4, 5, 6, 7, 8]] [0] ?_ ?_ ?_ <;> simp [frag_tatt, frag_teng, tengC, tps, teptr_some, teptr_none, setU, ha, tslotO_some, tslotO_none, u1, u2, u3, Rp.v, Rp.cells, rpNone, rpErr, rpDone, rpEnd, rpBusy, evs_append, evs_single, us_set, whyF_len, keyF_len, hk6, hph]
          · refine ends_plan [.pack (GD.tatt a) 5 [10, 11], .pack (GD.teng s) 0 [1, 2, 3, 4, 6, 5, 7, 8]] [0] ?_ ?_ ?_ <;> simp [frag_tatt, frag_teng, tengC, tps, teptr_some, teptr_none, setU, ha, tslotO_some, tslotO_none, u1, u2, u3, Rp.v, Rp.cells, rpNone, rpErr, rpDone, rpEnd, rpBusy, evs_append, evs_single, us_set, whyF_len, keyF_len, hk6, hph]
          · refine ends_plan [.pack (GD.tatt a) 5 [10, 11], .pack (GD.teng s) 0 [1, 2, 3, 4, 6, 7, 5, 8]] [0] ?_ ?_ ?_ <;> simp [frag_tatt, frag_teng, tengC, tps, teptr_some, teptr_none, setU, ha, tslotO_some, tslotO_none, u1, u2, u3, Rp.v, Rp.cells, rpNone, rpErr, rpDone, rpEnd, rpBusy, evs_append, evs_single, us_set, whyF_len, keyF_len, hk6, hph]
          · refine ends_plan [.pack (GD.tatt a) 5 [10, 11], .pack (GD.teng s) 0 [1, 2, 3, 4, 6, 7, 8, 5]] [0] ?_ ?_ ?_ <;> simp [frag_tatt, frag_teng, tengC, tps, teptr_some, teptr_none, setU, ha, tslotO_some, tslotO_none, u1, u2, u3, Rp.v, Rp.cells, rpNone, rpErr, rpDone, rpEnd, rpBusy, evs_append, evs_single, us_set, whyF_len, keyF_len, hk6, hph]
        | false =>
          have hO : ¬ otherB s.ws th x = true := by simp [otherB, hB]
          rw [if_neg hO] at hR
          subst hR
          obtain ⟨W, hW⟩ : ∃ W, lockTL s.ws th x = W := ⟨_, rfl⟩
          rw [hW]
          simp (implicitDefEqProofs := false) [lockB, rpNone, Rp.cells, st208, st206, st209, t0, t1, t2, t6, t7, t22, t23, t24, hi, hi', hwr, ux, gx, hHd, hHl, hin, hB, hW, tblUs, dataSt, pureStep, forms50, a50, b50, forms56, a56, b56, forms151, a151, b151, z1, z2, z3, z4, gt, gg, gs, tengC_0, tengC_1, tengC_6, tengC_7, tengC_g0, tengC_g1, tengC_g6, tengC_g7, tengC_s6, tengC_s7, tengC_len, ha, teptr_some, teptr_none, tslotO_some, hg, hk6, hph, hgl]
          rcases tth_cases hth with rfl | rfl | rfl | rfl
          · refine ends_plan [.pack (GD.tatt a) 5 [10, 11], .pack (GD.teng { s with ws := W }) 0 [1, 2, 3, 4, 5, 6, 7, 8]] [0] ?_ ?_ ?_ <;> simp [frag_tatt, frag_teng, tengC, tps, teptr_some, teptr_none, setU, ha, tslotO_some, tslotO_none, u1, u2, u3, Rp.v, Rp.cells, rpNone, rpErr, rpDone, rpEnd, rpBusy, evs_append, evs_single, us_set, whyF_len, keyF_len, hk6, hph]
          · refine ends_plan [.pack (GD.tatt a) 5 [10, 11], .pack (GD.teng { s with ws := W }) 0 [1, 2, 3, 4, 6, 5, 7, 8]] [0] ?_ ?_ ?_ <;> simp [frag_tatt, frag_teng, tengC, tps, teptr_some, teptr_none, setU, ha, tslotO_some, tslotO_none, u1, u2, u3, Rp.v, Rp.cells, rpNone, rpErr, rpDone, rpEnd, rpBusy, evs_append, evs_single, us_set, whyF_len, keyF_len, hk6, hph]
          · refine ends_plan [.pack (GD.tatt a) 5 [10, 11], .pack (GD.teng { s with ws := W }) 0 [1, 2, 3, 4, 6, 7, 5, 8]] [0] ?_ ?_ ?_ <;> simp [frag_tatt, frag_teng, tengC, tps, teptr_some, teptr_none, setU, ha, tslotO_some, tslotO_none, u1, u2, u3, Rp.v, Rp.cells, rpNone, rpErr, rpDone, rpEnd, rpBusy, evs_append, evs_single, us_set, whyF_len, keyF_len, hk6, hph]
          · refine ends_plan [.pack (GD.tatt a) 5 [10, 11], .pack (GD.teng { s with ws := W }) 0 [1, 2, 3, 4, 6, 7, 8, 5]] [0] ?_ ?_ ?_ <;> simp [frag_tatt, frag_teng, tengC, tps, teptr_some, teptr_none, setU, ha, tslotO_some, tslotO_none, u1, u2, u3, Rp.v, Rp.cells, rpNone, rpErr, rpDone, rpEnd, rpBusy, evs_append, evs_single, us_set, whyF_len, keyF_len, hk6, hph]
    · have hie : i = N.length := by omega
      have hi' : ¬ (i : Int) < N.length := by omega
      have hf : firstN N Hd = none := firstN_none fun j y hj hy => hpre j y (by omega) hy
      rw [hf] at hR
      simp only at hR
      by_cases hc : nextC s.c = 0
      · have ht : tickL s.c = nextV s.c := if_pos hc
        rw [if_pos hc] at hR
        obtain ⟨v, hv⟩ : ∃ v, nextV s.c = v := ⟨_, rfl⟩
        rw [hv] at hR ht
        subst hR
        simp (implicitDefEqProofs := false) [lockB, rpNone, Rp.cells, st210, t0, t1, t2, t6, t7, t22, t23, t24, hi', hc, hv, ht, tblUs, dataSt, pureStep, forms50, a50, b50, forms56, a56, b56, forms151, a151, b151, z1, z2, z3, z4, gt, gg, gs, tengC_0, tengC_1, tengC_6, tengC_7, tengC_g0, tengC_g1, tengC_g6, tengC_g7, tengC_s6, tengC_s7, tengC_len, ha, teptr_some, teptr_none, tslotO_some, hg, hk6, hph, hgl]
        rcases tth_cases hth with rfl | rfl | rfl | rfl
        · refine ends_plan [.pack (GD.tatt { a with wv := v, ph := 2, nx := 0 }) 5 [10, 11], .pack (GD.teng { s with c := v, ts := setU s.ts 0 (some { a with wv := v, ph := 2, nx := 0 }) }) 0 [1, 2, 3, 4, 5, 6, 7, 8]] [0] ?_ ?_ ?_ <;> simp [frag_tatt, frag_teng, tengC, tps, teptr_some, teptr_none, setU, ha, tslotO_some, tslotO_none, u1, u2, u3, Rp.v, Rp.cells, rpNone, rpErr, rpDone, rpEnd, rpBusy, evs_append, evs_single, us_set, whyF_len, keyF_len, hk6, hph]
        · refine ends_plan [.pack (GD.tatt { a with wv := v, ph := 2, nx := 0 }) 5 [10, 11], .pack (GD.teng { s with c := v, ts := setU s.ts 1 (some { a with wv := v, ph := 2, nx := 0 }) }) 0 [1, 2, 3, 4, 6, 5, 7, 8]] [0] ?_ ?_ ?_ <;> simp [frag_tatt, frag_teng, tengC, tps, teptr_some, teptr_none, setU, ha, tslotO_some, tslotO_none, u1, u2, u3, Rp.v, Rp.cells, rpNone, rpErr, rpDone, rpEnd, rpBusy, evs_append, evs_single, us_set, whyF_len, keyF_len, hk6, hph]
        · refine ends_plan [.pack (GD.tatt { a with wv := v, ph := 2, nx := 0 }) 5 [10, 11], .pack (GD.teng { s with c := v, ts := setU s.ts 2 (some { a with wv := v, ph := 2, nx := 0 }) }) 0 [1, 2, 3, 4, 6, 7, 5, 8]] [0] ?_ ?_ ?_ <;> simp [frag_tatt, frag_teng, tengC, tps, teptr_some, teptr_none, setU, ha, tslotO_some, tslotO_none, u1, u2, u3, Rp.v, Rp.cells, rpNone, rpErr, rpDone, rpEnd, rpBusy, evs_append, evs_single, us_set, whyF_len, keyF_len, hk6, hph]
        · refine ends_plan [.pack (GD.tatt { a with wv := v, ph := 2, nx := 0 }) 5 [10, 11], .pack (GD.teng { s with c := v, ts := setU s.ts 3 (some { a with wv := v, ph := 2, nx := 0 }) }) 0 [1, 2, 3, 4, 6, 7, 8, 5]] [0] ?_ ?_ ?_ <;> simp [frag_tatt, frag_teng, tengC, tps, teptr_some, teptr_none, setU, ha, tslotO_some, tslotO_none, u1, u2, u3, Rp.v, Rp.cells, rpNone, rpErr, rpDone, rpEnd, rpBusy, evs_append, evs_single, us_set, whyF_len, keyF_len, hk6, hph]
      · have ht : tickL s.c = s.c := if_neg hc
        rw [if_neg hc] at hR
        subst hR
        obtain ⟨W, hW⟩ : ∃ W, dropL s.ws th = W := ⟨_, rfl⟩
        unfold tendS
        rw [hW]
        have hn1 := hok.n
        have hn2 : (a.n : Int) < s.ft.length := by omega
        have hn3 : a.n * 3 + 2 + 1 ≤ s.ft.length * 3 := by omega
        have hfw := fates_why 2 hok.n
        have hel := tev_room hev
        have t3 := take_evs s.ev
        simp (implicitDefEqProofs := false) [lockB, rpNone, Rp.cells, st210, st113, t0, t1, t2, t6, t7, t22, t23, t24, hi', hc, ht, hW, hn1, hn2, hn3, hfw, fates_length, hel, t3, evs_length, tblUs, dataSt, pureStep, forms50, a50, b50, forms56, a56, b56, forms151, a151, b151, z1, z2, z3, z4, gt, gg, gs, tengC_0, tengC_1, tengC_6, tengC_7, tengC_g0, tengC_g1, tengC_g6, tengC_g7, tengC_s6, tengC_s7, tengC_len, ha, teptr_some, teptr_none, tslotO_some, hg, hk6, hph, hgl]
        rcases tth_cases hth with rfl | rfl | rfl | rfl
        · refine ends_plan [.nil 98, .pack (GD.teng { ws := W, c := s.c, hp := s.hp, ts := setU s.ts 0 none, ev := s.ev ++ [⟨9, a.n, 0, 0⟩], ft := whyF s.ft a.n 2 }) 0 [1, 2, 21, 4, 22, 6, 7, 8]] [0] ?_ ?_ ?_ <;> simp [frag_tatt, frag_teng, tengC, tps, teptr_some, teptr_none, setU, ha, tslotO_some, tslotO_none, u1, u2, u3, Rp.v, Rp.cells, rpNone, rpErr, rpDone, rpEnd, rpBusy, evs_append, evs_single, us_set, whyF_len, keyF_len, hk6, hph]
        · refine ends_plan [.nil 98, .pack (GD.teng { ws := W, c := s.c, hp := s.hp, ts := setU s.ts 1 none, ev := s.ev ++ [⟨9, a.n, 0, 0⟩], ft := whyF s.ft a.n 2 }) 0 [1, 2, 21, 4, 6, 22, 7, 8]] [0] ?_ ?_ ?_ <;> simp [frag_tatt, frag_teng, tengC, tps, teptr_some, teptr_none, setU, ha, tslotO_some, tslotO_none, u1, u2, u3, Rp.v, Rp.cells, rpNone, rpErr, rpDone, rpEnd, rpBusy, evs_append, evs_single, us_set, whyF_len, keyF_len, hk6, hph]
        · refine ends_plan [.nil 98, .pack (GD.teng { ws := W, c := s.c, hp := s.hp, ts := setU s.ts 2 none, ev := s.ev ++ [⟨9, a.n, 0, 0⟩], ft := whyF s.ft a.n 2 }) 0 [1, 2, 21, 4, 6, 7, 22, 8]] [0] ?_ ?_ ?_ <;> simp [frag_tatt, frag_teng, tengC, tps, teptr_some, teptr_none, setU, ha, tslotO_some, tslotO_none, u1, u2, u3, Rp.v, Rp.cells, rpNone, rpErr, rpDone, rpEnd, rpBusy, evs_append, evs_single, us_set, whyF_len, keyF_len, hk6, hph]
        · refine ends_plan [.nil 98, .pack (GD.teng { ws := W, c := s.c, hp := s.hp, ts := setU s.ts 3 none, ev := s.ev ++ [⟨9, a.n, 0, 0⟩], ft := whyF s.ft a.n 2 }) 0 [1, 2, 21, 4, 6, 7, 8, 22]] [0] ?_ ?_ ?_ <;> simp [frag_tatt, frag_teng, tengC, tps, teptr_some, teptr_none, setU, ha, tslotO_some, tslotO_none, u1, u2, u3, Rp.v, Rp.cells, rpNone, rpErr, rpDone, rpEnd, rpBusy, evs_append, evs_single, us_set, whyF_len, keyF_len, hk6, hph]
end YtapbabkndhaemaaGreat
end Go.Proofs
/-
  TL2: Step, Kill, Ask, all together.
-/
namespace Go.Proofs
namespace YtapbabkndhaemaaGreat
open Go.Abs
theorem tstep_none (s : TS) (th : Nat) (hth : th < 4) (hb : s.ts th = none ∨ ∃ a, s.ts th = some a ∧ a.ra.k = 0) : Runs Tryz.prog cfg 15 [.pointer (some ⟨0, 0, none⟩), .int .i64 th] (AH.of [some (.hi (.teng s))])
    fun r H' => r = .ret (rpErr 8).v ∧ H' = AH.of [some (.hi (.teng s))] := by
  refine Runs.ends ?_
  refine Runs.openTEng hth ?_
  have z1 : ¬ (th : Int) < 0 := by omega
  have z2 : ¬ 4 ≤ (th : Int) := by omega
  have z3 : (th : Int) < 4 := by omega
  have gt : ∀ a b q ts x y, (tengC a b th q ts x y)[2 + th]? = some q := fun a b q ts x y => tengC_t a b hth q ts x y
  have gg : ∀ a b q ts x y (h : 2 + th < (tengC a b th q ts x y).length), (tengC a b th q ts x y)[2 + th]'h = q := fun a b q ts x y h => tengC_gt a b hth q ts x y h
  rcases hb with ha | ⟨a, ha, hf⟩
  · refine runs_by (tbl := []) (by simp) 0 3 (af := a15) rfl ?_
    rw [a15, b15, run_eq]
    refine ⟨by simp, ?_⟩
    simp (implicitDefEqProofs := false) [tengL, forms46, a46, b46, z1, z2, z3, gt, gg, ha, teptr_some, teptr_none]
    rcases tth_cases hth with rfl | rfl | rfl | rfl
    · refine ends_plan [.pack (GD.teng s) 0 [1, 2, 3, 4, 5, 6, 7, 8]] [0] ?_ ?_ ?_ <;> simp [frag_teng, ha, tengC, tps, teptr_some, teptr_none, u1, u2, u3, rpErr, Rp.v, Rp.cells]
    · refine ends_plan [.pack (GD.teng s) 0 [1, 2, 3, 4, 6, 5, 7, 8]] [0] ?_ ?_ ?_ <;> simp [frag_teng, ha, tengC, tps, teptr_some, teptr_none, u1, u2, u3, rpErr, Rp.v, Rp.cells]
    · refine ends_plan [.pack (GD.teng s) 0 [1, 2, 3, 4, 6, 7, 5, 8]] [0] ?_ ?_ ?_ <;> simp [frag_teng, ha, tengC, tps, teptr_some, teptr_none, u1, u2, u3, rpErr, Rp.v, Rp.cells]
    · refine ends_plan [.pack (GD.teng s) 0 [1, 2, 3, 4, 6, 7, 8, 5]] [0] ?_ ?_ ?_ <;> simp [frag_teng, ha, tengC, tps, teptr_some, teptr_none, u1, u2, u3, rpErr, Rp.v, Rp.cells]
  · refine runs_by (tbl := []) (by simp) 0 3 (af := a15) rfl ?_
    rw [a15, b15, run_eq]
    refine ⟨by simp, ?_⟩
    simp (implicitDefEqProofs := false) [tengL, forms46, a46, b46, forms51, a51, b51, z1, z2, z3, gt, gg, ha, teptr_some, teptr_none, tslotO_some, frag_tatt, hf]
    rcases tth_cases hth with rfl | rfl | rfl | rfl
    · refine ends_plan [.pack (GD.tatt a) 5 [10, 11], .pack (GD.teng s) 0 [1, 2, 3, 4, 5, 6, 7, 8]] [0] ?_ ?_ ?_ <;> simp [frag_tatt, frag_teng, tengC, tps, teptr_some, teptr_none, hf, ha, tslotO_some, u1, u2, u3, rpErr, Rp.v, Rp.cells]
    · refine ends_plan [.pack (GD.tatt a) 5 [10, 11], .pack (GD.teng s) 0 [1, 2, 3, 4, 6, 5, 7, 8]] [0] ?_ ?_ ?_ <;> simp [frag_tatt, frag_teng, tengC, tps, teptr_some, teptr_none, hf, ha, tslotO_some, u1, u2, u3, rpErr, Rp.v, Rp.cells]
    · refine ends_plan [.pack (GD.tatt a) 5 [10, 11], .pack (GD.teng s) 0 [1, 2, 3, 4, 6, 7, 5, 8]] [0] ?_ ?_ ?_ <;> simp [frag_tatt, frag_teng, tengC, tps, teptr_some, teptr_none, hf, ha, tslotO_some, u1, u2, u3, rpErr, Rp.v, Rp.cells]
    · refine ends_plan [.pack (GD.tatt a) 5 [10, 11], .pack (GD.teng s) 0 [1, 2, 3, 4, 6, 7, 8, 5]] [0] ?_ ?_ ?_ <;> simp [frag_tatt, frag_teng, tengC, tps, teptr_some, teptr_none, hf, ha, tslotO_some, u1, u2, u3, rpErr, Rp.v, Rp.cells]
theorem tstep_range (d : GD) (t : Int) (ht : t < 0 ∨ 4 ≤ t) : Runs Tryz.prog cfg 15 [.pointer (some ⟨0, 0, none⟩), .int .i64 t] (AH.of [some (.hi d)])
    fun r H' => r = .ret (rpErr 2).v ∧ H' = AH.of [some (.hi d)] := by
  refine Runs.ends ?_
  have ht' : ¬ t < 0 → 4 ≤ t := fun h => by omega
  refine runs_by (tbl := []) (by simp) 0 3 (af := a15) rfl ?_
  rw [a15, b15, run_eq]
  refine ⟨by simp, ?_⟩
  by_cases h1 : t < 0
  · simp (implicitDefEqProofs := false) [forms46, a46, b46, h1]
    refine ends_plan [] [0] ?_ ?_ ?_ <;> simp [rpErr, Rp.v, Rp.cells]
  · simp (implicitDefEqProofs := false) [forms46, a46, b46, h1, ht' h1]
    refine ends_plan [] [0] ?_ ?_ ?_ <;> simp [rpErr, Rp.v, Rp.cells]
theorem truns_as {f : FuncId} {args : List Value} {H : AH GD} {r r' : Rp} {s s' : TS} (h : Runs Tryz.prog cfg f args H fun r1 H' => r1 = .ret r.v ∧ H' = AH.of [some (.hi (.teng s))]) (e : (r, s) = (r', s')) :
    Runs Tryz.prog cfg f args H fun r1 H' => r1 = .ret r'.v ∧ H' = AH.of [some (.hi (.teng s'))] := by
  cases e; exact h
theorem tword_right {ws : List Int} {c : Int} (h : GoodT ws c) {t : Int} (ht : 0 ≤ t ∧ t < 12) : RightW (wordTV ws (ofT ws t)) := by
  obtain ⟨h0, h1⟩ := ofT_lt h ht
  obtain ⟨w, hw⟩ : ∃ w, ws[(ofT ws t).toNat]? = some w := ⟨ws[(ofT ws t).toNat]'(by omega), List.getElem?_eq_getElem (by omega)⟩
  have hi : inR ws (ofT ws t) := ⟨h0, h1⟩
  unfold wordTV
  rw [if_pos hi]
  have := getW_at hw
  rw [show (((ofT ws t).toNat : Nat) : Int) = ofT ws t by omega] at this
  rw [this]
  exact (h.get hw).1
set_option maxHeartbeats 4000000 in
theorem runs_tstep (s : TS) (hs : s.Ok) (hev : s.ev.length ≤ 100000) (th : Nat) (hth : th < 4) :
    Runs Tryz.prog cfg 15 [.pointer (some ⟨0, 0, none⟩), .int .i64 th] (AH.of [some (.hi (.teng s))])
    fun r H' => r = .ret (tstepS s th).1.v ∧ H' = AH.of [some (.hi (.teng (tstepS s th).2))] := by
  cases ha : s.ts th with
  | none => exact truns_as (tstep_none s th hth (.inl ha)) (by simp [tstepS, ha])
  | some a =>
    have hok := hs.ts th a ha
    have hlk := hs.lk th a ha
    have hask := hok.ask
    by_cases hk0 : a.ra.k = 0
    · exact truns_as (tstep_none s th hth (.inr ⟨a, ha, hk0⟩)) (by simp [tstepS, ha, hk0])
    have hkk : a.ra.k = 1 ∨ a.ra.k = 2 ∨ a.ra.k = 3 ∨ a.ra.k = 4 ∨ a.ra.k = 5 ∨ a.ra.k = 6 ∨ a.ra.k = 7 := by have := hask.1; have := hask.2.1; omega
    obtain ⟨f, fs, hfs⟩ : ∃ f fs, a.fs = f :: fs := by
      cases h : a.fs with
      | nil => exact absurd h hok.fs.1
      | cons f fs => exact ⟨f, fs, rfl⟩
    have hwt := hok.ww
    rcases hkk with k1 | k2 | k3 | k4 | k5 | k6 | k7
    · have e0 : tstepS s th = treadS s th a := by simp [tstepS, ha, k1]
      rw [e0]
      have hra := hask.2.2.1 (.inl k1)
      cases hv : getLog a.fs a.ra.t with
      | some v => exact truns_as (tstep_rg s hs hev th hth a ha k1 v hv) (by simp [treadS, hv])
      | none =>
        have hss := hok.sr k1
        have hss3 : a.ss = 0 ∨ a.ss = 1 ∨ a.ss = 2 := by omega
        rcases hss3 with h0 | h1 | h2
        · cases hB : ownTB s.ws (ofT s.ws a.ra.t) with
          | true =>
            by_cases hO : ownTV s.ws (ofT s.ws a.ra.t) = (th : Int)
            · have hb : otherB s.ws th (ofT s.ws a.ra.t) = false := by simp [otherB, hB, hO]
              by_cases hlt : a.rv < verT s.ws (ofT s.ws a.ra.t)
              · exact truns_as (tstep_r0ct s hs hev th hth a ha k1 hv _ rfl h0 hB hO _ rfl hlt _ rfl) (by simp [treadS, hv, h0, hb, hlt, tendS])
              · exact truns_as (tstep_r0ot s hs hev th hth a ha k1 hv _ rfl h0 hB hO _ rfl hlt _ rfl) (by simp [treadS, hv, h0, hb, hlt, tputA])
            · have hb : otherB s.ws th (ofT s.ws a.ra.t) = true := by simp [otherB, hB, hO]
              exact truns_as (tstep_r0b s hs hev th hth a ha k1 hv _ rfl h0 _ hB rfl hO) (by simp [treadS, hv, h0, hb])
          | false =>
            have hb : otherB s.ws th (ofT s.ws a.ra.t) = false := by simp [otherB, hB]
            by_cases hlt : a.rv < verT s.ws (ofT s.ws a.ra.t)
            · exact truns_as (tstep_r0c s hs hev th hth a ha k1 hv _ rfl h0 hB _ rfl hlt _ rfl) (by simp [treadS, hv, h0, hb, hlt, tendS])
            · exact truns_as (tstep_r0o s hs hev th hth a ha k1 hv _ rfl h0 hB _ rfl hlt _ rfl) (by simp [treadS, hv, h0, hb, hlt, tputA])
        · obtain ⟨y, hy⟩ : ∃ y, s.hp[a.ra.t.toNat]? = some y := ⟨s.hp[a.ra.t.toNat]'(by omega), List.getElem?_eq_getElem (by omega)⟩
          exact truns_as (tstep_r1 s hs hev th hth a ha k1 hv _ rfl h1 y hy) (by simp [treadS, hv, h1, hy, tputA])
        · by_cases hw : wordTV s.ws (ofT s.ws a.ra.t) = a.sw
          · by_cases hA : addCode a.es ⟨a.ra.t, a.sv, verT s.ws (ofT s.ws a.ra.t)⟩ = 0
            · exact truns_as (tstep_r2g s hs hev th hth a ha k1 hv _ rfl h2 hw _ rfl hA) (by simp [treadS, hv, h2, hw, hA])
            · exact truns_as (tstep_r2f s hs hev th hth a ha k1 hv _ rfl h2 hw _ rfl hA _ rfl) (by simp [treadS, hv, h2, hw, hA, tendS])
          · exact truns_as (tstep_r2n s hs hev th hth a ha k1 hv _ rfl h2 _ rfl hw _ rfl) (by simp [treadS, hv, h2, hw, tendS])
    · have e0 : tstepS s th = tturnS s th a := by simp [tstepS, ha, k2]
      rw [e0]
      have hc : putCs a.fs a.ra.t a.ra.v = putCode f fs a.ra.t a.ra.v := by rw [hfs]; rfl
      have hf : putFs a.fs a.ra.t a.ra.v = putF f ⟨a.ra.t, a.ra.v⟩ :: fs := by rw [hfs]; rfl
      by_cases hP : putCode f fs a.ra.t a.ra.v = 0
      · exact truns_as (tstep_t2y s hs hev th hth a ha k2 f fs hfs hP) (by simp [tturnS, k2, hc, hP, hf])
      · exact truns_as (tstep_t2f s hs hev th hth a ha k2 f fs hfs hP _ rfl) (by simp [tturnS, k2, hc, hP, tendS])
    · have e0 : tstepS s th = tturnS s th a := by simp [tstepS, ha, k3]
      rw [e0]
      have hl := hwt.1 k3
      have hl2 : ¬ 4 ≤ fs.length := by rw [hfs] at hl; simp at hl; omega
      have hp : pushF a.fs = [] :: f :: fs := by rw [hfs, pushF, if_neg (by simp; omega)]
      exact truns_as (tstep_t3 s hs hev th hth a ha k3 f fs hfs hl2) (by simp [tturnS, k3, hp])
    · have e0 : tstepS s th = tturnS s th a := by simp [tstepS, ha, k4]
      rw [e0]
      have hl := hwt.2 (.inl k4)
      rw [hfs] at hl
      cases fs with
      | nil => simp at hl
      | cons g rs => exact truns_as (tstep_t4 s hs hev th hth a ha k4 f g rs hfs) (by simp [tturnS, k4, hfs, dropF])
    · have e0 : tstepS s th = tturnS s th a := by simp [tstepS, ha, k5]
      rw [e0]
      have hl := hwt.2 (.inr k5)
      rw [hfs] at hl
      cases fs with
      | nil => simp at hl
      | cons g rs => exact truns_as (tstep_t5 s hs hev th hth a ha k5 f g rs hfs) (by simp [tturnS, k5, hfs, mergeFs])
    · have e0 : tstepS s th = tgoOnS s th a := by simp [tstepS, ha, k6]
      rw [e0]
      have hph := hok.ph
      have hph5 : a.ph = 0 ∨ a.ph = 1 ∨ a.ph = 2 ∨ a.ph = 3 ∨ a.ph = 4 := by omega
      rcases hph5 with h0 | h1 | h2 | h3 | h4
      · by_cases hall : allL a.fs = []
        · exact truns_as (tstep_g0e s hs hev th hth a ha k6 h0 hall) (by simp [tgoOnS, h0, hall, tcommitS])
        · exact truns_as (tstep_g0n s hs hev th hth a ha k6 h0 hall) (by simp [tgoOnS, h0, hall])
      · exact truns_as (tstep_g1 s hs hev th hth a ha k6 h1) (by simp [tgoOnS, h1])
      · cases hx : a.es[a.nx]? with
        | none =>
          have hge : a.es.length ≤ a.nx := List.getElem?_eq_none_iff.1 hx
          have hle := hok.p2 h2
          exact truns_as (tstep_g2e s hs hev th hth a ha k6 h2 (by omega)) (by simp [tgoOnS, h2, tcheckS, hx])
        | some e =>
          have her := hok.es.range e (List.mem_of_getElem? hx)
          have hR := tword_right hs.tab her
          cases hP : passB (wordTV s.ws (ofT s.ws e.t)) th a.rv with
          | true => exact truns_as (tstep_g2o s hs hev th hth a ha k6 h2 e hx _ rfl _ rfl hR hP) (by simp [tgoOnS, h2, tcheckS, hx, hP, tputA])
          | false => exact truns_as (tstep_g2c s hs hev th hth a ha k6 h2 e hx _ rfl _ rfl hR hP _ rfl) (by simp [tgoOnS, h2, tcheckS, hx, hP, tendS])
      · obtain ⟨p, hp⟩ : ∃ p, (allL a.fs)[a.nx]? = some p := ⟨(allL a.fs)[a.nx]'(hok.p3 h3), List.getElem?_eq_getElem (hok.p3 h3)⟩
        obtain ⟨g, hg, hpg⟩ := allL_mem (List.mem_of_getElem? hp)
        have hpr := hok.fst g hg p hpg
        by_cases hl : a.nx + 1 = (allL a.fs).length
        · exact truns_as (tstep_g3l s hs hev th hth a ha k6 h3 p hp ⟨hpr.1, hpr.2.1⟩ hl) (by simp [tgoOnS, h3, hp, hl])
        · refine truns_as (tstep_g3m s hs hev th hth a ha k6 h3 p hp ⟨hpr.1, hpr.2.1⟩ hl) ?_
          cases a
          simp_all [tgoOnS]
      · have hne := hlk.2.1 (by omega)
        cases hh : heldL s.ws th with
        | nil => exact absurd hh hne
        | cons h rest =>
          cases rest with
          | nil => exact truns_as (tstep_g4c s hs hev th hth a ha k6 h4 h hh _ rfl) (by simp [tgoOnS, h4, hh, tcommitS])
          | cons h2 rest => exact truns_as (tstep_g4m s hs hev th hth a ha k6 h4 h h2 rest hh _ rfl) (by simp [tgoOnS, h4, hh])
    · have e0 : tstepS s th = (rpEnd 4, tendS s th a 4) := by simp [tstepS, ha, k7]
      rw [e0]
      exact truns_as (tstep_k7 s hs hev th hth a ha k7 _ rfl) (by simp [tendS])
def tstepR (s : TS) (t : Int) : Rp := match uthOf t with
  | none => rpErr 2
  | some th => (tstepS s th).1
def tstepX (s : TS) (t : Int) : TS := match uthOf t with
  | none => s
  | some th => (tstepS s th).2
theorem trp_ground (r : Rp) : ground r.v = true := rfl
def d15 : DStep
  | .teng s, [.int .i64 t] => some (s.Ok ∧ s.ev.length ≤ 100000, (tstepR s t).v, .teng (tstepX s t))
  | _, _ => none
theorem st15_ok : CStepOk Tryz.prog cfg 15 (dataSt d15) := data_ok fun d rest p v d' h hp => by
  unfold d15 at h
  split at h
  case h_2 => cases h
  rename_i s t
  cases h
  refine ⟨rfl, trp_ground _, ?_⟩
  cases ht : uthOf t with
  | none => simp only [tstepR, tstepX, ht]; exact tstep_range _ _ (uthOf_none ht)
  | some th =>
    obtain ⟨h1, rfl⟩ := uthOf_some ht
    simp only [tstepR, tstepX, ht]
    exact runs_tstep s hp.1 hp.2 th h1
theorem runs_task_free (s : TS) (hs : s.Ok) (th : Nat) (hth : th < 4) (a : TA) (ha : s.ts th = some a) (hf : a.ra.k = 0) (x : Ak) (hk0 : 0 ≤ x.k) : Runs Tryz.prog cfg 14 [.pointer (some ⟨0, 0, none⟩), .int .i64 th, .agg #[.int .u8 x.k, .int .i64 x.t, .int .u64 x.v]] (AH.of [some (.hi (.teng s))])
    fun r H' => r = .ret (.int .i64 (wantL a.fs s.hp.length x)) ∧ H' = AH.of [some (.hi (.teng (if wantL a.fs s.hp.length x = 0 then taskS s th x else s)))] := by
  have hl1 : 1 ≤ a.fs.length := by
    have := (hs.ts th a ha).fs.1
    cases h : a.fs with
    | nil => exact absurd h this
    | cons f fs => simp
  obtain ⟨k, t, v⟩ := x
  simp only at hk0 ⊢
  have hd : a.fs.length = 1 ∨ (a.fs.length ≠ 1 ∧ 1 ≤ a.fs.length ∧ a.fs.length < 5) ∨ a.fs.length ≥ 5 := by omega
  have ht : t < 0 ∨ (0 ≤ t ∧ (s.hp.length : Int) ≤ t) ∨ (0 ≤ t ∧ t < s.hp.length) := by omega
  have go : ∀ {c : Int} {s' : TS}, wantL a.fs s.hp.length ⟨k, t, v⟩ = c → (if c = 0 then taskS s th ⟨k, t, v⟩ else s) = s' → Runs Tryz.prog cfg 14 [.pointer (some ⟨0, 0, none⟩), .int .i64 th, .agg #[.int .u8 k, .int .i64 t, .int .u64 v]] (AH.of [some (.hi (.teng s))]) (fun r H' => r = .ret (.int .i64 c) ∧ H' = AH.of [some (.hi (.teng s'))]) →
      Runs Tryz.prog cfg 14 [.pointer (some ⟨0, 0, none⟩), .int .i64 th, .agg #[.int .u8 k, .int .i64 t, .int .u64 v]] (AH.of [some (.hi (.teng s))]) (fun r H' => r = .ret (.int .i64 (wantL a.fs s.hp.length ⟨k, t, v⟩)) ∧ H' = AH.of [some (.hi (.teng (if wantL a.fs s.hp.length ⟨k, t, v⟩ = 0 then taskS s th ⟨k, t, v⟩ else s)))]) := by
    intro c s' h1 h2 h3
    rw [h1, h2]; exact h3
  have hk : k = 0 ∨ 7 < k ∨ k = 1 ∨ k = 2 ∨ k = 3 ∨ k = 4 ∨ k = 5 ∨ k = 6 ∨ k = 7 := by omega
  rcases hk with rfl | hk | rfl | rfl | rfl | rfl | rfl | rfl | rfl
  · exact go (by simp [wantL]) rfl (task_0 s hs th hth a ha hf t v)
  · exact go (by simp [wantL, hk]) rfl (task_9 s hs th hth a ha hf k hk t v)
  · rcases ht with ht | ht | ht
    · exact go (by simp [wantL, ht]) rfl (task_1n s hs th hth a ha hf t v ht)
    · exact go (by simp [wantL, ht.2]) rfl (task_1h s hs th hth a ha hf t v ht)
    · have t1 : ¬ t < 0 := by omega
      have t2 : ¬ (s.hp.length : Int) ≤ t := by omega
      exact go (by simp [wantL, t1, t2]) rfl (task_1z s hs th hth a ha hf t v ht)
  · rcases ht with ht | ht | ht
    · exact go (by simp [wantL, ht]) rfl (task_2n s hs th hth a ha hf t v ht)
    · exact go (by simp [wantL, ht.2]) rfl (task_2h s hs th hth a ha hf t v ht)
    · have t1 : ¬ t < 0 := by omega
      have t2 : ¬ (s.hp.length : Int) ≤ t := by omega
      cases hr : rightB v with
      | false => exact go (by simp [wantL, t1, t2, hr]) rfl (task_2r s hs th hth a ha hf t v ht hr)
      | true => exact go (by simp [wantL, t1, t2, hr]) rfl (task_2z s hs th hth a ha hf t v ht hr)
  · rcases hd with hd | hd | hd
    · exact go (by simp [wantL]; omega) rfl (task_3z s hs th hth a ha hf t v hd)
    · exact go (by simp [wantL]; omega) rfl (task_3m s hs th hth a ha hf t v hd)
    · have h5 : 5 ≤ a.fs.length := hd
      exact go (by simp [wantL, h5]) rfl (task_3g s hs th hth a ha hf t v hd)
  · rcases hd with hd | hd | hd
    · exact go (by simp [wantL, hd]) rfl (task_4z s hs th hth a ha hf t v hd)
    · exact go (by simp [wantL, hd.1]) rfl (task_4m s hs th hth a ha hf t v hd)
    · have h5 : ¬ a.fs.length = 1 := by omega
      exact go (by simp [wantL, h5]) rfl (task_4g s hs th hth a ha hf t v hd)
  · rcases hd with hd | hd | hd
    · exact go (by simp [wantL, hd]) rfl (task_5z s hs th hth a ha hf t v hd)
    · exact go (by simp [wantL, hd.1]) rfl (task_5m s hs th hth a ha hf t v hd)
    · have h5 : ¬ a.fs.length = 1 := by omega
      exact go (by simp [wantL, h5]) rfl (task_5g s hs th hth a ha hf t v hd)
  · rcases hd with hd | hd | hd
    · exact go (by simp [wantL, hd]) rfl (task_6z s hs th hth a ha hf t v hd)
    · have h5 : 1 < a.fs.length := by omega
      exact go (by simp [wantL, h5]) rfl (task_6m s hs th hth a ha hf t v hd)
    · have h5 : 1 < a.fs.length := by omega
      exact go (by simp [wantL, h5]) rfl (task_6g s hs th hth a ha hf t v hd)
  · exact go (by simp [wantL]) rfl (task_7z s hs th hth a ha hf t v)
def taskR (s : TS) (t : Int) (x : Ak) : Int := match uthOf t with
  | none => 2
  | some th => taskC s th x
def taskX (s : TS) (t : Int) (x : Ak) : TS := match uthOf t with
  | none => s
  | some th => if taskC s th x = 0 then taskS s th x else s
def d14 : DStep
  | .teng s, [.int .i64 t, .agg ⟨[.int .u8 k, .int .i64 tv, .int .u64 v]⟩] => some (s.Ok ∧ 0 ≤ k, .int .i64 (taskR s t ⟨k, tv, v⟩), .teng (taskX s t ⟨k, tv, v⟩))
  | _, _ => none
theorem st14_ok : CStepOk Tryz.prog cfg 14 (dataSt d14) := data_ok fun d rest p v d' h hp => by
  unfold d14 at h
  split at h
  case h_2 => cases h
  rename_i s t k tv v
  cases h
  refine ⟨rfl, rfl, ?_⟩
  cases ht : uthOf t with
  | none => simp only [taskR, taskX, ht]; exact task_range _ _ (uthOf_none ht) ⟨k, tv, v⟩
  | some th =>
    obtain ⟨h1, rfl⟩ := uthOf_some ht
    simp only [taskR, taskX, ht]
    cases ha : s.ts th with
    | none =>
      have e : taskC s th ⟨k, tv, v⟩ = 8 := by simp [taskC, ha]
      rw [if_neg (by rw [e]; decide)]
      exact task_busy s th h1 (.inl ha) ⟨k, tv, v⟩
    | some a =>
      by_cases hf : a.ra.k = 0
      · have e : taskC s th ⟨k, tv, v⟩ = wantL a.fs s.hp.length ⟨k, tv, v⟩ := by simp [taskC, ha, hf]
        rw [e]
        exact runs_task_free s hp.1 th h1 a ha hf ⟨k, tv, v⟩ hp.2
      · have e : taskC s th ⟨k, tv, v⟩ = 7 := by simp [taskC, ha, hf]
        rw [if_neg (by rw [e]; decide)]
        have := (hp.1.ts th a ha).ask.1
        exact task_busy s th h1 (.inr ⟨a, ha, by omega⟩) ⟨k, tv, v⟩
end YtapbabkndhaemaaGreat
end Go.Proofs
/-
  TL2: a table as owners and versions.
-/
namespace Go.Proofs
namespace YtapbabkndhaemaaGreat
open Go.Abs
theorem isH_own (ws : List Int) (o : Int) (i : Nat) : isH ws o i = decide (ownN ws i = o ∧ 0 ≤ o) := by
  rw [isH_eq]
  unfold ownN
  cases ws[i]? with
  | some w => rfl
  | none =>
    simp only
    symm
    rw [decide_eq_false_iff_not]
    omega
theorem ownN_lt {ws : List Int} {i : Nat} (h : 0 ≤ ownN ws i) : i < ws.length := by
  unfold ownN at h
  cases hx : ws[i]? with
  | some w => exact at_lt hx
  | none => rw [hx] at h; simp at h
theorem ownN_range {ws : List Int} {c : Int} (h : GoodT ws c) (i : Nat) : -1 ≤ ownN ws i ∧ ownN ws i < 4 := by
  unfold ownN
  cases hx : ws[i]? with
  | some w => exact (h.get hx).1.own
  | none => simp
theorem ownTB_own {ws : List Int} {i : Nat} (hi : i < ws.length) : ownTB ws i = decide (0 ≤ ownN ws i) ∧ (0 ≤ ownN ws i → ownTV ws i = ownN ws i) := by
  obtain ⟨w, hx⟩ : ∃ w, ws[i]? = some w := ⟨ws[i], List.getElem?_eq_getElem hi⟩
  have hr : inR ws i := ⟨by omega, by omega⟩
  have e : ownN ws i = wOwn w := by unfold ownN; rw [hx]
  rw [e]
  unfold ownTB ownTV
  rw [if_pos hr, if_pos hr, getW_at hx]
  exact ⟨rfl, fun h => if_pos h⟩
theorem held_own {ws : List Int} {o x : Int} : x ∈ heldL ws o ↔ ∃ i : Nat, x = (i : Int) ∧ ownN ws i = o ∧ 0 ≤ o := by
  rw [held_mem]
  constructor
  · rintro ⟨i, h1, h2, h3⟩
    rw [isH_own] at h3
    exact ⟨i, h2, by simpa using h3⟩
  · rintro ⟨i, h2, h3, h4⟩
    exact ⟨i, ownN_lt (by omega), h2, by rw [isH_own]; simp [h3, h4]⟩
theorem held_nil {ws : List Int} {o : Int} (ho : 0 ≤ o) : heldL ws o = [] ↔ ∀ i, ownN ws i ≠ o := by
  constructor
  · intro h i hi
    have : (i : Int) ∈ heldL ws o := held_own.2 ⟨i, rfl, hi, ho⟩
    rw [h] at this; cases this
  · intro h
    rw [List.eq_nil_iff_forall_not_mem]
    intro x hx
    obtain ⟨i, _, h2, _⟩ := held_own.1 hx
    exact h i h2
theorem held_same {ws ws' : List Int} {o : Int} (hl : ws'.length = ws.length) (h : ∀ i, ownN ws' i = o ↔ ownN ws i = o) : heldL ws' o = heldL ws o := by
  unfold heldL heldN
  rw [hl]
  congr 1
  refine List.filter_congr fun i _ => ?_
  rw [isH_own, isH_own]
  simp [h i]
theorem ownN_set {ws : List Int} {i j : Nat} {v : Int} (hi : i < ws.length) : ownN (ws.set i v) j = if j = i then wOwn v else ownN ws j := by
  unfold ownN
  rw [List.getElem?_set]
  by_cases h : i = j
  · subst h; simp [hi]
  · have h2 : ¬ j = i := fun e => h e.symm
    simp [h, h2]
theorem lock_own {ws : List Int} {c : Int} (h : GoodT ws c) {i : Nat} (hi : i < ws.length) (hf : ownN ws i = -1) {o : Int} (ho : 0 ≤ o ∧ o < 4) :
    (lockTL ws o i).length = ws.length ∧ ∀ j, ownN (lockTL ws o i) j = if j = i then o else ownN ws j := by
  obtain ⟨w, hx⟩ : ∃ w, ws[i]? = some w := ⟨ws[i], List.getElem?_eq_getElem hi⟩
  have hr : inR ws i := ⟨by omega, by omega⟩
  have e : wOwn w = -1 := by unfold ownN at hf; rwa [hx] at hf
  have hc : lockTC ws o i = 0 := by
    unfold lockTC lockC
    rw [if_pos hr, getW_at hx, e, if_neg (by omega), if_neg (by omega), if_neg (by omega)]
  have hcw : lockC w o = 0 := by unfold lockTC at hc; rwa [if_pos hr, getW_at hx] at hc
  have hL : lockTL ws o i = ws.set i (lockV w o) := by
    unfold lockTL
    rw [if_pos hc, getW_at hx, Int.toNat_natCast]
  rw [hL]
  refine ⟨by simp, fun j => ?_⟩
  rw [ownN_set hi]
  split
  · unfold lockV; rw [if_pos hcw, mkW_own (by omega)]
  · rfl
theorem unlock_own {ws : List Int} {c : Int} (h : GoodT ws c) {i : Nat} {o : Int} (hi : ownN ws i = o) (ho : 0 ≤ o ∧ o < 4) {v : Int} (hv : verT ws i ≤ v ∧ v ≤ c) :
    (unlockTL ws c o i v).length = ws.length ∧ (∀ j, ownN (unlockTL ws c o i v) j = if j = i then -1 else ownN ws j) ∧ ∀ j : Nat, verT (unlockTL ws c o i v) j = if j = i then v else verT ws j := by
  have hil : i < ws.length := ownN_lt (by omega)
  obtain ⟨w, hx⟩ : ∃ w, ws[i]? = some w := ⟨ws[i], List.getElem?_eq_getElem hil⟩
  have hr : inR ws i := ⟨by omega, by omega⟩
  have e : wOwn w = o := by unfold ownN at hi; rwa [hx] at hi
  have ev : verT ws i = wVer w := by rw [verT_eq, hx]
  have h0 := (h.get hx).1.ver0.1
  have c1 := h.c1
  have hcw : unlockC w o v = 0 := by
    unfold unlockC
    rw [if_neg (by omega), if_neg (by omega)]
  have hc : unlockTC ws c o i v = 0 := by
    unfold unlockTC
    rw [if_pos hr, if_neg (by omega), getW_at hx]
    exact hcw
  have hL : unlockTL ws c o i v = ws.set i (mkW (-1) v) := by
    unfold unlockTL
    rw [if_pos hc, getW_at hx, Int.toNat_natCast]
    unfold unlockV
    rw [if_pos hcw]
  rw [hL]
  refine ⟨by simp, fun j => ?_, fun j => ?_⟩
  · rw [ownN_set hil]
    split
    · rw [mkW_own (by omega)]
    · rfl
  · rw [verT_set hil]
    by_cases hj : i = j
    · subst hj; rw [if_pos rfl, if_pos rfl, mkW_ver (by omega)]
    · rw [if_neg hj, if_neg (fun h => hj h.symm)]
theorem drop_own {ws : List Int} {c : Int} (h : GoodT ws c) {o : Int} (ho : 0 ≤ o ∧ o < 4) :
    (dropL ws o).length = ws.length ∧ ∀ j, ownN (dropL ws o) j = if ownN ws j = o then -1 else ownN ws j := by
  have key : ∀ n, n ≤ ws.length → ∀ j, ownN (restAll ws o n) j = if j < n ∧ ownN ws j = o then -1 else ownN ws j := by
    intro n
    induction n with
    | zero => intro _ j; simp [restAll, restF]
    | succ n ih =>
      intro hn j
      have ih := ih (by omega)
      have hg : GoodT (restAll ws o n) c := restF_good h o _
      have hlen : (restAll ws o n).length = ws.length := restF_length _ _ _
      rw [restAll_succ]
      have hnn := ih n
      rw [if_neg (by omega)] at hnn
      by_cases hq : ownN ws n = o
      · have hH : isH (restAll ws o n) o n = true := by rw [isH_own, hnn]; simp [hq, ho.1]
        obtain ⟨w, hx⟩ : ∃ w, (restAll ws o n)[n]? = some w := ⟨(restAll ws o n)[n]'(by omega), List.getElem?_eq_getElem (by omega)⟩
        have hr : inR (restAll ws o n) n := ⟨by omega, by omega⟩
        have hc := (restTC_held (o := o) hg n).2 hH
        have hcw : restC w o = 0 := by unfold restTC at hc; rwa [if_pos hr, getW_at hx] at hc
        have hL : restTL (restAll ws o n) o n = (restAll ws o n).set n (mkW (-1) (wVer w)) := by
          unfold restTL
          rw [if_pos hc, getW_at hx, Int.toNat_natCast]
          unfold restV
          rw [if_pos hcw]
        rw [hL, ownN_set (by omega)]
        by_cases hj : j = n
        · subst hj; rw [if_pos rfl, if_pos ⟨by omega, hq⟩, mkW_own (by omega)]
        · rw [if_neg hj, ih j]
          by_cases hjo : ownN ws j = o
          · by_cases hjn : j < n
            · rw [if_pos ⟨hjn, hjo⟩, if_pos ⟨by omega, hjo⟩]
            · rw [if_neg (by omega), if_neg (by omega)]
          · rw [if_neg (by omega), if_neg (by omega)]
      · have hH : isH (restAll ws o n) o n = false := by rw [isH_own, hnn]; simp [hq]
        rw [restTL_not hg hH, ih j]
        by_cases hj : j = n
        · subst hj; rw [if_neg (by omega), if_neg (by omega)]
        · by_cases hjo : ownN ws j = o
          · by_cases hjn : j < n
            · rw [if_pos ⟨hjn, hjo⟩, if_pos ⟨by omega, hjo⟩]
            · rw [if_neg (by omega), if_neg (by omega)]
          · rw [if_neg (by omega), if_neg (by omega)]
  refine ⟨restF_length _ _ _, fun j => ?_⟩
  have := key ws.length (Nat.le_refl _) j
  unfold dropL
  rw [this]
  by_cases hj : ownN ws j = o
  · have := ownN_lt (ws := ws) (i := j) (by omega)
    rw [if_pos ⟨this, hj⟩, if_pos hj]
  · rw [if_neg (fun h => hj h.2), if_neg hj]
structure OthT (ws ws' : List Int) (th : Nat) : Prop where
  len : ws'.length = ws.length
  own : ∀ i (j : Int), j ≠ th → 0 ≤ j → (ownN ws' i = j ↔ ownN ws i = j)
  ver : ∀ i : Nat, 0 ≤ ownN ws i → ownN ws i ≠ th → verT ws' i = verT ws i
theorem OthT.refl (ws : List Int) (th : Nat) : OthT ws ws th := ⟨rfl, fun _ _ _ _ => Iff.rfl, fun _ _ _ => rfl⟩
theorem OthT.held {ws ws' : List Int} {th : Nat} (h : OthT ws ws' th) {j : Nat} (hj : j ≠ th) : heldL ws' (j : Int) = heldL ws j := held_same h.len fun i => h.own i j (by omega) (by omega)
theorem oth_lock {ws : List Int} {c : Int} (h : GoodT ws c) {i : Nat} (hi : i < ws.length) (hf : ownN ws i = -1) {th : Nat} (ho : th < 4) : OthT ws (lockTL ws th i) th := by
  obtain ⟨h1, h2⟩ := lock_own h hi hf (o := th) ⟨by omega, by omega⟩
  refine ⟨h1, fun k j hj h0 => ?_, fun k _ _ => lock_ver h _ _ _⟩
  rw [h2 k]
  split
  · rename_i e; subst e; rw [hf]; omega
  · rfl
theorem oth_unlock {ws : List Int} {c : Int} (h : GoodT ws c) {i : Nat} {th : Nat} (hi : ownN ws i = th) (ho : th < 4) {v : Int} (hv : verT ws i ≤ v ∧ v ≤ c) : OthT ws (unlockTL ws c th i v) th := by
  obtain ⟨h1, h2, h3⟩ := unlock_own h hi ⟨by omega, by omega⟩ hv
  refine ⟨h1, fun k j hj h0 => ?_, fun k _ hk => ?_⟩
  · rw [h2 k]
    split
    · rename_i e; subst e; rw [hi]; omega
    · rfl
  · rw [h3 k, if_neg]
    rintro rfl; exact hk hi
theorem oth_drop {ws : List Int} {c : Int} (h : GoodT ws c) {th : Nat} (ho : th < 4) : OthT ws (dropL ws th) th := by
  obtain ⟨h1, h2⟩ := drop_own h (o := th) ⟨by omega, by omega⟩
  refine ⟨h1, fun k j hj h0 => ?_, fun k _ _ => drop_ver h _ _⟩
  rw [h2 k]
  split
  · omega
  · rfl
end YtapbabkndhaemaaGreat
end Go.Proofs
/-
  TL2: what holds of it stays so.
-/
namespace Go.Proofs
namespace YtapbabkndhaemaaGreat
open Go.Abs
theorem setU_id {ts : Nat → Option TA} {th : Nat} {a : TA} (h : ts th = some a) : ts = setU ts th (some a) := by
  funext j
  simp only [setU]
  split
  · rename_i e; rw [e, h]
  · rfl
theorem TA.Ok.mono {a : TA} {s s' : TS} (h : a.Ok s) (h1 : s.ft.length ≤ s'.ft.length) (h2 : s'.hp.length = s.hp.length) (h3 : s.c ≤ s'.c) : a.Ok s' where
  n := Nat.lt_of_lt_of_le h.n h1
  rv := ⟨h.rv.1, Int.le_trans h.rv.2 h3⟩
  wv := ⟨h.wv.1, Int.le_trans h.wv.2 h3⟩
  es := h.es
  est := by rw [h2]; exact h.est
  fs := h.fs
  fst := by rw [h2]; exact h.fst
  ask := by rw [h2]; exact h.ask
  sw := h.sw
  sv := h.sv
  ss := h.ss
  sr := h.sr
  nx := h.nx
  ph := h.ph
  p2 := h.p2
  p3 := h.p3
  p6 := h.p6
  ww := h.ww
theorem TS.Ok.turn {s s' : TS} (hs : s.Ok) {th : Nat} (hth : th < 4) {x : Option TA} (hts : s'.ts = setU s.ts th x) (hhp : s'.hp.length = s.hp.length) (hhv : ∀ v ∈ s'.hp, 0 ≤ v ∧ v < 18446744073709551616) (hc : s.c ≤ s'.c) (htab : GoodT s'.ws s'.c) (hoth : OthT s.ws s'.ws th)
    (hft : s'.ft.length ≤ 64) (hfl : s.ft.length ≤ s'.ft.length) (hb : ∀ b, x = some b → b.Ok s' ∧ LockOk s'.ws th b) (hn : x = none → heldL s'.ws (th : Int) = []) : s'.Ok where
  hp := by rw [hhp]; exact hs.hp
  hv := hhv
  tab := htab
  ft := hft
  ts := fun i a hi => by
    rw [hts] at hi
    by_cases he : i = th
    · subst he; rw [setU_self] at hi; exact (hb a hi).1
    · rw [setU_other _ _ he] at hi; exact (hs.ts i a hi).mono hfl hhp hc
  lk := fun i a hi => by
    rw [hts] at hi
    by_cases he : i = th
    · subst he; rw [setU_self] at hi; exact (hb a hi).2
    · rw [setU_other _ _ he] at hi
      obtain ⟨h1, h2, h3, h4⟩ := hs.lk i a hi
      refine ⟨by rw [hoth.held he]; exact h1, by rw [hoth.held he]; exact h2, h3, fun hp k hk => ?_⟩
      have hk' := (hoth.own k i (by omega) (by omega)).1 hk
      rw [hoth.ver k (by omega) (by omega)]
      exact h4 hp k hk'
  no := fun i hi => by
    rw [hts] at hi
    by_cases he : i = th
    · subst he; rw [setU_self] at hi; exact hn hi
    · rw [setU_other _ _ he] at hi; rw [hoth.held he]; exact hs.no i hi
  th4 := fun i hi => by rw [hts, setU_other _ _ (by omega)]; exact hs.th4 i hi
theorem TS.Ok.turn0 {s s' : TS} (hs : s.Ok) {th : Nat} (hth : th < 4) {b : TA} (hts : s'.ts = setU s.ts th (some b)) (hws : s'.ws = s.ws) (hc : s'.c = s.c) (hhp : s'.hp = s.hp) (hft : s'.ft.length ≤ 64) (hfl : s.ft.length ≤ s'.ft.length) (hb : b.Ok s') (hl : LockOk s.ws th b) : s'.Ok :=
  hs.turn hth hts (by rw [hhp]) (by rw [hhp]; exact hs.hv) (by omega) (by rw [hws, hc]; exact hs.tab) (by rw [hws]; exact OthT.refl _ _) hft hfl (fun b' h => by cases h; rw [hws]; exact ⟨hb, hl⟩) (fun h => by cases h)
theorem TS.Ok.begin {s : TS} (hs : s.Ok) {th : Nat} (hth : th < 4) (h : tbeginC s th = 0) : (tbeginS s th).Ok := by
  have h1 : s.ts th = none ∧ s.ft.length < 64 := by
    unfold tbeginC at h
    split at h
    · cases h
    · rename_i h0
      split at h
      · cases h
      · exact ⟨by simpa using h0, by omega⟩
  have hc := hs.tab.c0
  refine hs.turn0 hth (s' := tbeginS s th) rfl rfl rfl rfl (by simp [tbeginS]; omega) (by simp [tbeginS]) ?_ ?_
  · exact { n := (by simp [newTA, tbeginS])
            rv := ⟨hc, Int.le_refl _⟩
            wv := ⟨Int.le_refl _, hc⟩
            es := good_nil
            est := (fun e he => by cases he)
            fs := good_log_nil
            fst := (fun f hf p hp => by simp only [newTA, List.mem_singleton] at hf; subst hf; cases hp)
            ask := ⟨Int.le_refl _, (by simp [newTA]), (fun h => by simp [newTA] at h), Int.le_refl _, (by simp [newTA])⟩
            sw := ⟨Int.le_refl _, (by simp [newTA])⟩
            sv := ⟨Int.le_refl _, (by simp [newTA])⟩
            ss := (by simp [newTA])
            sr := (fun h => by simp [newTA] at h)
            nx := (by simp [newTA])
            ph := (by simp [newTA])
            p2 := (fun h => by simp [newTA] at h)
            p3 := (fun h => by simp [newTA] at h)
            p6 := (fun h => by simp [newTA] at h)
            ww := ⟨(fun h => by simp [newTA] at h), (fun h => by simp [newTA] at h)⟩ }
  · exact ⟨fun _ => hs.no th h1.1, fun h => by simp [newTA] at h, by simp [newTA], fun h => by simp [newTA] at h⟩
theorem wantL_ok {fs : List (List Pr)} {hl : Nat} {x : Ak} (h : wantL fs hl x = 0) (hk : 0 ≤ x.k) : 1 ≤ x.k ∧ x.k ≤ 7 ∧ (x.k = 1 ∨ x.k = 2 → 0 ≤ x.t ∧ x.t < hl) ∧ (x.k = 3 → fs.length < 5) ∧ (x.k = 4 ∨ x.k = 5 → fs.length ≠ 1) := by
  unfold wantL at h
  split at h
  · cases h
  split at h
  · cases h
  split at h
  · cases h
  split at h
  · cases h
  split at h
  · cases h
  split at h
  · cases h
  · refine ⟨by omega, by omega, fun h => by omega, fun h => by omega, fun h => by omega⟩
theorem ph_zero {s : TS} {a : TA} (h : a.Ok s) (hk : a.ra.k ≠ 6) : a.ph = 0 := by
  by_cases hp : a.ph = 0
  · exact hp
  · exact absurd (h.p6 hp).1 hk
theorem TS.Ok.ask {s : TS} (hs : s.Ok) {th : Nat} (hth : th < 4) {x : Ak} (hk : 0 ≤ x.k) (hv : 0 ≤ x.v ∧ x.v < 18446744073709551616) (h : taskC s th x = 0) : (taskS s th x).Ok := by
  unfold taskC at h
  cases ha : s.ts th with
  | none => rw [ha] at h; cases h
  | some a =>
    rw [ha] at h
    simp only at h
    split at h
    · cases h
    · rename_i hf
      have hf : a.ra.k = 0 := by simpa using hf
      have hw := wantL_ok h hk
      have hok := hs.ts th a ha
      have hlk := hs.lk th a ha
      have hp0 := ph_zero hok (by omega)
      have hl1 : 1 ≤ a.fs.length := by
        have := hok.fs.1
        cases h : a.fs with
        | nil => exact absurd h this
        | cons f fs => simp
      have hd : a.dec = false := by
        cases hd : a.dec
        · rfl
        · have := hlk.2.2.1.1 hd; omega
      have e : taskS s th x = { s with ts := setU s.ts th (some { a with ra := x, ph := 0, nx := 0, sw := 0, sv := 0, ss := 0 }) } := by simp [taskS, ha]
      rw [e]
      refine hs.turn0 hth rfl rfl rfl rfl hs.ft (Nat.le_refl _) ?_ ?_
      · exact { n := hok.n
                rv := hok.rv
                wv := hok.wv
                es := hok.es
                est := hok.est
                fs := hok.fs
                fst := hok.fst
                ask := ⟨hk, hw.2.1, hw.2.2.1, hv⟩
                sw := ⟨Int.le_refl _, (by simp)⟩
                sv := ⟨Int.le_refl _, (by simp)⟩
                ss := (by simp)
                sr := (fun _ => by simp)
                nx := (by simp)
                ph := (by simp)
                p2 := (fun h => by simp at h)
                p3 := (fun h => by simp at h)
                p6 := (fun h => by simp at h)
                ww := ⟨hw.2.2.2.1, fun h => by have h2 := hw.2.2.2.2 h; show 1 < a.fs.length; omega⟩ }
      · exact ⟨fun _ => hlk.1 hp0, fun h => by simp at h, by simp [hd], fun h => by simp at h⟩
theorem TS.Ok.end {s : TS} (hs : s.Ok) {th : Nat} (hth : th < 4) (a : TA) (why : Int) : (tendS s th a why).Ok := by
  refine hs.turn hth (s' := tendS s th a why) (x := none) rfl rfl hs.hv (Int.le_refl _) (hs.tab.drop _) (oth_drop hs.tab hth) (by simp only [tendS, whyF_len]; exact hs.ft) (by simp only [tendS, whyF_len]; exact Nat.le_refl _) (fun b h => by cases h) (fun _ => held_drop hs.tab _)
theorem TA.Ok.free {a : TA} {s : TS} (h : a.Ok s) (hp0 : a.ph = 0) {es : List Ent} {fs : List (List Pr)} {ss : Nat} (he : Good es) (het : ∀ e ∈ es, e.t < s.hp.length) (hf : GoodLog fs) (hft : ∀ f ∈ fs, ∀ p ∈ f, 0 ≤ p.t ∧ p.t < s.hp.length ∧ 0 ≤ p.v ∧ p.v < 18446744073709551616) (hss : ss ≤ 3) :
    ({ a with ra := ⟨0, 0, 0⟩, es := es, fs := fs, ss := ss } : TA).Ok s where
  n := h.n
  rv := h.rv
  wv := h.wv
  es := he
  est := het
  fs := hf
  fst := hft
  ask := ⟨Int.le_refl _, by simp, fun h => by simp at h, Int.le_refl _, by simp⟩
  sw := h.sw
  sv := h.sv
  ss := hss
  sr := fun h => by simp at h
  nx := h.nx
  ph := h.ph
  p2 := fun h => by simp only at h; omega
  p3 := fun h => by simp only at h; omega
  p6 := fun h => by simp only at h; omega
  ww := ⟨fun h => by simp at h, fun h => by simp at h⟩
theorem lock0 {ws : List Int} {th : Nat} {a b : TA} (h : LockOk ws th a) (ha : a.ph = 0) (hb : b.ph = 0) (hd : b.dec = a.dec) : LockOk ws th b :=
  ⟨fun _ => h.1 ha, fun h => by omega, by rw [hd, h.2.2.1]; omega, fun h => by omega⟩
theorem word_range {ws : List Int} {c : Int} (h : GoodT ws c) (st : Int) : 0 ≤ wordTV ws st ∧ wordTV ws st < 18446744073709551616 := by
  unfold wordTV
  split
  · rename_i hi
    have hw := (h.getW hi).1
    exact ⟨hw.lo, hw.hi⟩
  · omega
theorem tok_read {s : TS} (hs : s.Ok) {th : Nat} (hth : th < 4) {a : TA} (ha : s.ts th = some a) (k1 : a.ra.k = 1) : (treadS s th a).2.Ok := by
  have hok := hs.ts th a ha
  have hlk := hs.lk th a ha
  have hp0 := ph_zero hok (by omega)
  have hra := hok.ask.2.2.1 (.inl k1)
  have hss := hok.sr k1
  have put : ∀ b : TA, b.Ok s → b.ph = 0 → b.dec = a.dec → (tputA s th b).Ok := fun b h1 h2 h3 =>
    hs.turn0 hth (s' := tputA s th b) rfl rfl rfl rfl hs.ft (Nat.le_refl _) (h1.mono (Nat.le_refl _) rfl (Int.le_refl _)) (lock0 hlk hp0 h2 h3)
  have got : ∀ (es : List Ent) (ss : Nat) (v : Int), Good es → (∀ e ∈ es, e.t < s.hp.length) → ss ≤ 3 → (tgotS s th { a with ss := ss, es := es } v).Ok := fun es ss v h1 h2 h3 => by
    refine hs.turn0 hth (s' := tgotS s th { a with ss := ss, es := es } v) rfl rfl rfl rfl hs.ft (Nat.le_refl _) ?_ (lock0 hlk hp0 hp0 rfl)
    exact (hok.free hp0 h1 h2 hok.fs hok.fst h3).mono (Nat.le_refl _) rfl (Int.le_refl _)
  unfold treadS
  split
  · exact got a.es a.ss _ hok.es hok.est hok.ss
  · split
    · split
      · exact hs
      · split
        · exact hs.end hth a 1
        · refine put _ ?_ hp0 rfl
          exact { hok with sw := word_range hs.tab _, ss := (by simp), sr := (fun _ => by simp) }
    · split
      · obtain ⟨y, hy⟩ : ∃ y, s.hp[a.ra.t.toNat]? = some y := ⟨s.hp[a.ra.t.toNat]'(by omega), List.getElem?_eq_getElem (by omega)⟩
        have hyv := hs.hv y (List.mem_of_getElem? hy)
        refine put _ ?_ hp0 rfl
        exact { hok with sv := (by simp [hy]; exact hyv), ss := (by simp), sr := (fun _ => by simp) }
      · split
        · split
          · refine got _ 3 _ (hok.es.add _) (fun e he => ?_) (by omega)
            rcases addL_mem he with he | rfl
            · exact hok.est e he
            · exact hra.2
          · exact hs.end hth a 2
        · exact hs.end hth a 1
theorem tok_turn {s : TS} (hs : s.Ok) {th : Nat} (hth : th < 4) {a : TA} (ha : s.ts th = some a) (k2 : a.ra.k = 2 ∨ a.ra.k = 3 ∨ a.ra.k = 4 ∨ a.ra.k = 5) : (tturnS s th a).2.Ok := by
  have hok := hs.ts th a ha
  have hlk := hs.lk th a ha
  have hp0 := ph_zero hok (by omega)
  have go : ∀ (fs : List (List Pr)) (ev : List Ev), GoodLog fs → (∀ f ∈ fs, ∀ p ∈ f, 0 ≤ p.t ∧ p.t < s.hp.length ∧ 0 ≤ p.v ∧ p.v < 18446744073709551616) → ({ s with ts := setU s.ts th (some { a with ra := ⟨0, 0, 0⟩, fs := fs }), ev := ev } : TS).Ok := fun fs ev h1 h2 => by
    refine hs.turn0 hth (s' := { s with ts := setU s.ts th (some { a with ra := ⟨0, 0, 0⟩, fs := fs }), ev := ev }) rfl rfl rfl rfl hs.ft (Nat.le_refl _) ?_ (lock0 hlk hp0 hp0 rfl)
    exact (hok.free hp0 hok.es hok.est h1 h2 hok.ss).mono (Nat.le_refl _) rfl (Int.le_refl _)
  obtain ⟨f, fs, hfs⟩ : ∃ f fs, a.fs = f :: fs := by
    cases h : a.fs with
    | nil => exact absurd h hok.fs.1
    | cons f fs => exact ⟨f, fs, rfl⟩
  have hgl := hok.fs
  have hft := hok.fst
  have hww := hok.ww
  rw [hfs] at hgl hft hww
  unfold tturnS
  split
  · rename_i k3
    have hl := hww.1 k3
    have h5 : ¬ 5 ≤ (f :: fs).length := by omega
    rw [hfs, pushF, if_neg h5]
    exact go _ _ (push_good hgl hl) fun g hg => by
      rcases List.mem_cons.1 hg with rfl | hg
      · intro p hp; cases hp
      · exact hft g hg
  · split
    · rename_i k4
      have hl := hww.2 (.inl k4)
      cases fs with
      | nil => simp at hl
      | cons g rs =>
        rw [hfs]
        exact go _ _ (drop_good hgl) fun q hq => hft q (by simp only [dropF] at hq; exact List.mem_cons_of_mem _ hq)
    · split
      · rename_i k5
        have hl := hww.2 (.inr k5)
        cases fs with
        | nil => simp at hl
        | cons g rs =>
          rw [hfs]
          refine go _ _ (merge_good hgl) fun q hq => ?_
          simp only [mergeFs] at hq
          rcases List.mem_cons.1 hq with rfl | hq
          · exact mergeF_mem (hft g (by simp)) (hft f (by simp)) fun p q h1 h2 => ⟨h1.1, h1.2.1, h2.2.2⟩
          · exact hft q (by simp [hq])
      · split
        · rename_i k3 k4 k5 hP
          have k2' : a.ra.k = 2 := by omega
          have hra := hok.ask
          have hr := hra.2.2.1 (.inr k2')
          rw [hfs] at hP ⊢
          simp only [putCs] at hP
          refine go _ _ (put_good hgl hP) fun q hq => ?_
          simp only [putFs] at hq
          rcases List.mem_cons.1 hq with rfl | hq
          · intro p hp
            rcases putF_mem hp with rfl | h | ⟨r, hr2, rfl⟩
            · exact ⟨hr.1, hr.2, hra.2.2.2⟩
            · exact hft f (by simp) p h
            · have := hft f (by simp) r hr2
              exact ⟨this.1, this.2.1, hra.2.2.2⟩
          · exact hft q (by simp [hq])
        · exact hs.end hth a 2
theorem allL_range {fs : List (List Pr)} {p : Pr} (hp : p ∈ allL fs) : 0 ≤ p.t ∧ p.t < 12 := by
  unfold allL allN at hp
  obtain ⟨t, ht, h⟩ := List.mem_filterMap.1 hp
  simp only [Option.map_eq_some_iff] at h
  obtain ⟨v, _, rfl⟩ := h
  have := List.mem_range.1 ht
  exact ⟨by simp only; omega, by simp only; omega⟩
theorem needs_mem {ws : List Int} {c : Int} (h : GoodT ws c) {fs : List (List Pr)} {p : Pr} (hp : p ∈ allL fs) : ofT ws p.t ∈ needsL ws fs := by
  unfold needsL stripesL
  rw [compact_mem]
  unfold strN
  rw [List.mem_filter, List.take_of_length_le (by simp)]
  refine ⟨List.mem_map.2 ⟨p.t, List.mem_map.2 ⟨p, hp, rfl⟩, rfl⟩, ?_⟩
  simpa using (ofT_lt h (allL_range hp)).1
theorem firstN_mem {l held : List Int} {x : Int} (h : firstN l held = some x) : x ∈ l ∧ x ∉ held := by
  unfold firstN at h
  exact ⟨List.mem_of_find?_eq_some h, by simpa using List.find?_some h⟩
theorem firstN_all {l held : List Int} (h : firstN l held = none) : ∀ x ∈ l, x ∈ held := by
  unfold firstN at h
  rw [List.find?_eq_none] at h
  intro x hx
  simpa using h x hx
theorem free_own {ws : List Int} {c : Int} (h : GoodT ws c) {th : Nat} {x : Int} (hr : 0 ≤ x ∧ x < ws.length) (hn : x ∉ heldL ws th) (hb : ¬ otherB ws th x = true) : ownN ws x.toNat = -1 := by
  obtain ⟨i, rfl⟩ := Int.eq_ofNat_of_zero_le hr.1
  have hi : i < ws.length := by omega
  obtain ⟨h1, h2⟩ := ownTB_own hi
  have hrange := ownN_range h i
  rw [Int.toNat_natCast]
  by_cases h0 : 0 ≤ ownN ws i
  · exfalso
    have hB : ownTB ws i = true := by rw [h1]; simpa using h0
    have hV := h2 h0
    by_cases he : ownN ws i = th
    · exact hn (held_own.2 ⟨i, rfl, he, by omega⟩)
    · exact hb (by simp [otherB, hB, hV, he])
  · omega
theorem tok_goOn {s : TS} (hs : s.Ok) {th : Nat} (hth : th < 4) {a : TA} (ha : s.ts th = some a) (k6 : a.ra.k = 6) : (tgoOnS s th a).2.Ok := by
  have hok := hs.ts th a ha
  have hlk := hs.lk th a ha
  have hg := hs.tab
  unfold tgoOnS
  split
  · rename_i h0
    split
    · exact hs.turn hth (s' := tcommitS { s with ev := s.ev ++ [⟨7, a.n, 0, 0⟩] } th a) (x := none) rfl rfl hs.hv (Int.le_refl _) hs.tab (OthT.refl _ _) hs.ft (Nat.le_refl _) (fun b h => by cases h) (fun _ => hlk.1 h0)
    · rename_i hne
      refine hs.turn0 hth (s' := { s with ts := setU s.ts th (some { a with ph := 1 }), ev := s.ev ++ [⟨7, a.n, 0, 0⟩] }) rfl rfl rfl rfl hs.ft (Nat.le_refl _) ?_ ?_
      · have hok' : a.Ok { s with ts := setU s.ts th (some { a with ph := 1 }), ev := s.ev ++ [⟨7, a.n, 0, 0⟩] } := hok.mono (Nat.le_refl _) rfl (Int.le_refl _)
        exact { hok' with ph := (by simp), p2 := (fun h => by simp at h), p3 := (fun h => by simp at h), p6 := (fun _ => ⟨k6, hne⟩) }
      · have h3 := hlk.2.2.1
        exact ⟨fun h => by simp at h, fun h => by simp at h, by rw [show ({ a with ph := 1 } : TA).dec = a.dec from rfl, h3]; simp; omega, fun h => by simp at h⟩
  · rename_i hp0
    obtain ⟨_, hne⟩ := hok.p6 hp0
    split
    · rename_i h1
      unfold tlockS
      split
      · rename_i st hst
        obtain ⟨hm, hnh⟩ := firstN_mem hst
        have hr := needs_range hg a.fs hm
        split
        · exact hs
        · rename_i hb
          have hfree := free_own hg hr hnh hb
          obtain ⟨i, rfl⟩ := Int.eq_ofNat_of_zero_le hr.1
          rw [Int.toNat_natCast] at hfree
          have hi : i < s.ws.length := by omega
          have hoth := oth_lock hg hi hfree hth
          refine hs.turn hth (s' := { s with ws := lockTL s.ws th i }) (x := some a) (setU_id ha) rfl hs.hv (Int.le_refl _) (hg.lock _ _) hoth hs.ft (Nat.le_refl _) (fun b h => ?_) (fun h => by cases h)
          cases h
          refine ⟨hok.mono (Nat.le_refl _) rfl (Int.le_refl _), fun h => absurd h hp0, fun h => by omega, hlk.2.2.1, fun h => by omega⟩
      · rename_i hst
        have hall := firstN_all hst
        split
        · rename_i hc
          have hcv : nextV s.c = s.c + 1 ∧ s.c < 1099511627776 := by
            unfold nextC at hc
            split at hc
            · cases hc
            · split at hc
              · cases hc
              · rename_i h1 h2
                refine ⟨?_, by omega⟩
                unfold nextV nextC
                rw [if_neg h1, if_neg h2, if_pos rfl]
          obtain ⟨p, hp⟩ : ∃ p, p ∈ allL a.fs := List.exists_mem_of_ne_nil _ hne
          have hheld : heldL s.ws (th : Int) ≠ [] := fun h => by
            have := hall _ (needs_mem hg hp)
            rw [h] at this; cases this
          rw [hcv.1]
          have hgt := hg.tick
          rw [tickL_eq hg.c1, if_pos hcv.2] at hgt
          refine hs.turn hth (s' := { s with c := s.c + 1, ts := setU s.ts th (some { a with wv := s.c + 1, ph := 2, nx := 0 }) }) rfl rfl hs.hv (by show s.c ≤ s.c + 1; omega) hgt (OthT.refl _ _) hs.ft (Nat.le_refl _) (fun b h => ?_) (fun h => by cases h)
          cases h
          have hok' : a.Ok { s with c := s.c + 1, ts := setU s.ts th (some { a with wv := s.c + 1, ph := 2, nx := 0 }) } := hok.mono (Nat.le_refl _) rfl (by show s.c ≤ s.c + 1; omega)
          have h0 := hg.c0
          refine ⟨{ hok' with wv := ⟨by simp only; omega, by simp⟩, nx := (by simp), ph := (by simp), p2 := (fun _ => by simp), p3 := (fun h => by simp at h), p6 := (fun _ => ⟨k6, hne⟩) }, fun h => by simp at h, fun _ => hheld, ?_, fun _ i hi => ?_⟩
          · have h3 := hlk.2.2.1
            rw [show ({ a with wv := s.c + 1, ph := 2, nx := 0 } : TA).dec = a.dec from rfl, h3]; simp; omega
          · have := (verT_out (s := i) hg).2
            simp only; omega
        · exact hs.end hth a 2
    · split
      · rename_i h1 h2
        unfold tcheckS
        have h3 := hlk.2.2.1
        split
        · refine hs.turn hth (s' := { s with ts := setU s.ts th (some { a with dec := true, ph := 3, nx := 0 }), ft := keyF s.ft a.n (2 * a.wv) }) rfl rfl hs.hv (Int.le_refl _) hg (OthT.refl _ _) (by simp only [keyF_len]; exact hs.ft) (by simp only [keyF_len]; exact Nat.le_refl _) (fun b h => ?_) (fun h => by cases h)
          cases h
          have hok' : a.Ok { s with ts := setU s.ts th (some { a with dec := true, ph := 3, nx := 0 }), ft := keyF s.ft a.n (2 * a.wv) } := hok.mono (by simp only [keyF_len]; exact Nat.le_refl _) rfl (Int.le_refl _)
          refine ⟨{ hok' with nx := (by simp), ph := (by simp), p2 := (fun h => by simp at h), p3 := (fun _ => List.length_pos_iff.2 hne), p6 := (fun _ => ⟨k6, hne⟩) }, fun h => by simp at h, fun _ => hlk.2.1 (by omega), by simp, fun _ => hlk.2.2.2 (by omega)⟩
        · rename_i e hx
          have hlt := (List.getElem?_eq_some_iff.1 hx).1
          have h8 := hok.es.len
          split
          · refine hs.turn0 hth (s' := tputA s th { a with nx := a.nx + 1 }) rfl rfl rfl rfl hs.ft (Nat.le_refl _) ?_ hlk
            have hok' : a.Ok (tputA s th { a with nx := a.nx + 1 }) := hok.mono (Nat.le_refl _) rfl (Int.le_refl _)
            exact { hok' with nx := (by simp only; omega), p2 := (fun _ => by simp only; omega), p3 := (fun h => by simp only at h; omega) }
          · exact hs.end hth a 1
      · split
        · rename_i h1 h2 h3
          split
          · rename_i p hp
            have hpm := List.mem_of_getElem? hp
            have hlt := (List.getElem?_eq_some_iff.1 hp).1
            have hl12 := allL_le a.fs
            obtain ⟨f, hf, hpf⟩ := allL_mem hpm
            have hpr := hok.fst f hf p hpf
            have hd : a.dec = true := hlk.2.2.1.2 (by omega)
            refine hs.turn hth (s' := { s with hp := s.hp.set p.t.toNat p.v, ts := setU s.ts th (some { a with nx := a.nx + 1, ph := if a.nx + 1 = (allL a.fs).length then 4 else 3 }) }) rfl (by simp) (fun v hv => ?_) (Int.le_refl _) hg (OthT.refl _ _) hs.ft (Nat.le_refl _) (fun b h => ?_) (fun h => by cases h)
            · rcases List.mem_or_eq_of_mem_set hv with h | rfl
              · exact hs.hv v h
              · exact hpr.2.2
            · cases h
              have hok' : a.Ok { s with hp := s.hp.set p.t.toNat p.v, ts := setU s.ts th (some { a with nx := a.nx + 1, ph := if a.nx + 1 = (allL a.fs).length then 4 else 3 }) } := hok.mono (Nat.le_refl _) (by simp) (Int.le_refl _)
              have hph : ∀ q : Nat, q = (if a.nx + 1 = (allL a.fs).length then 4 else 3) → 3 ≤ q ∧ q ≤ 4 := fun q hq => by rw [hq]; split <;> omega
              refine ⟨{ hok' with nx := (by simp only; omega), ph := (hph _ rfl).2, p2 := (fun h => by have := (hph _ rfl).1; simp only at h this; omega), p3 := (fun h => ?_), p6 := (fun _ => ⟨k6, hne⟩) }, fun h => ?_, fun _ => hlk.2.1 (by omega), ?_, fun _ => hlk.2.2.2 (by omega)⟩
              · simp only at h ⊢
                split at h
                · cases h
                · omega
              · have := (hph _ rfl).1; simp only at h this; omega
              · have := (hph _ rfl).1
                simp only at this ⊢
                exact ⟨fun _ => this, fun _ => hd⟩
          · exact hs
        · rename_i h1 h2 h3
          have h4 : a.ph = 4 := by have := hok.ph; omega
          have hver := hlk.2.2.2 (by omega)
          have hwv := hok.wv
          have un : ∀ h rest, heldL s.ws th = h :: rest → ∃ i : Nat, h = (i : Int) ∧ ownN s.ws i = th := fun h rest hh => by
            obtain ⟨i, e, ho, _⟩ := held_own.1 (show h ∈ heldL s.ws th by rw [hh]; simp)
            exact ⟨i, e, ho⟩
          have hnd : (heldL s.ws (th : Int)).Nodup := by
            unfold heldL heldN
            exact List.Pairwise.map _ (fun a b h e => h (by omega)) ((List.nodup_range).filter _)
          split
          · exact hs
          · rename_i h hh
            obtain ⟨i, rfl, ho⟩ := un _ _ hh
            have hu := unlock_own hg ho ⟨by omega, by omega⟩ ⟨hver i ho, hwv.2⟩
            refine hs.turn hth (s' := tcommitS { s with ws := unlockTL s.ws s.c th i a.wv } th a) (x := none) rfl rfl hs.hv (Int.le_refl _) (hg.unlock _ _ hwv.1) (oth_unlock hg ho hth ⟨hver i ho, hwv.2⟩) hs.ft (Nat.le_refl _) (fun b h => by cases h) (fun _ => ?_)
            rw [show (tcommitS { s with ws := unlockTL s.ws s.c th i a.wv } th a).ws = unlockTL s.ws s.c th i a.wv from rfl, held_nil (by omega)]
            intro j hj
            rw [hu.2.1 j] at hj
            split at hj
            · omega
            · rename_i hji
              have : (j : Int) ∈ heldL s.ws th := held_own.2 ⟨j, rfl, hj, by omega⟩
              rw [hh] at this
              simp at this
              omega
          · rename_i h rest hne1 hh
            obtain ⟨i, rfl, ho⟩ := un _ _ hh
            have hu := unlock_own hg ho ⟨by omega, by omega⟩ ⟨hver i ho, hwv.2⟩
            refine hs.turn hth (s' := { s with ws := unlockTL s.ws s.c th i a.wv }) (x := some a) (setU_id ha) rfl hs.hv (Int.le_refl _) (hg.unlock _ _ hwv.1) (oth_unlock hg ho hth ⟨hver i ho, hwv.2⟩) hs.ft (Nat.le_refl _) (fun b h => ?_) (fun h => by cases h)
            cases h
            refine ⟨hok.mono (Nat.le_refl _) rfl (Int.le_refl _), fun h => by omega, fun _ hnil => ?_, hlk.2.2.1, fun _ j hj => ?_⟩
            · cases rest with
              | nil => exact hne1 rfl
              | cons h2 rest =>
                obtain ⟨k, e, hk, _⟩ := held_own.1 (show h2 ∈ heldL s.ws th by rw [hh]; simp)
                have hki : ¬ k = i := fun e2 => by
                  rw [hh] at hnd
                  rw [e, e2] at hnd
                  simp at hnd
                have := (held_nil (ws := unlockTL s.ws s.c th i a.wv) (o := th) (by omega)).1 hnil k
                rw [hu.2.1 k, if_neg hki] at this
                exact this hk
            · rw [hu.2.1 j] at hj
              split at hj
              · omega
              · rename_i hji
                rw [hu.2.2 j, if_neg hji]
                exact hver j hj
theorem TS.Ok.step {s : TS} (hs : s.Ok) {th : Nat} (hth : th < 4) : (tstepS s th).2.Ok := by
  unfold tstepS
  cases ha : s.ts th with
  | none => exact hs
  | some a =>
    simp only
    have hask := (hs.ts th a ha).ask
    split
    · exact hs
    · split
      · rename_i k1; exact tok_read hs hth ha k1
      · split
        · rename_i k6; exact tok_goOn hs hth ha k6
        · split
          · exact hs.end hth a 4
          · exact tok_turn hs hth ha (by have := hask.1; have := hask.2.1; omega)
end YtapbabkndhaemaaGreat
end Go.Proofs
/-
  What laws of engines have in common: clones, deeds, values at first, values held against values.
-/
namespace Go.Proofs
namespace YtapbabkndhaemaaGreat
open Go.Abs
theorem runs45 (e : TypeId) (l : List Int) (tg : Nat) (hl : l.length ≤ 1000000) : Runs Tryz.prog cfg 45 [.slice (some ⟨0, 0, none⟩) l.length tg] (AH.of [some (.arr e (us l))])
    fun r H' => r = .ret (.slice (some ⟨1, 0, none⟩) l.length 1) ∧ H' = AH.of [some (.arr e (us l)), some (.arr 30 (us l))] := by
  refine Runs.ends ?_
  refine runs_by (tbl := []) (by simp) 0 0 (af := a45) rfl ?_
  rw [a45, b45, run_eq]
  refine ⟨by simp, ?_⟩
  have h1 : l.length * 8 ≤ 140737488355328 ∧ l.length ≤ 9223372036854775807 := by omega
  have h2 := take_us l
  simp (implicitDefEqProofs := false) [h1, h2, us_length]
  repeat' (first | with_reducible apply And.intro | with_reducible intro _)
  all_goals first
    | (refine ends_plan [] [0, 2] ?_ ?_ ?_ <;> simp; done)
    | (have : l = [] := by assumption
       subst this
       refine ends_wk (r' := .ret (.slice (some ⟨1, 0, none⟩) 0 1)) (leR_ret (by simp)) (ends_plan [.nil 30] [0, 1] ?_ ?_ ?_) <;> simp [us])
theorem runs_cloneV_ro (l : List Int) (n tg : Nat) (hn : n = l.length) (hl : l.length ≤ 1000000) : Runs Tryz.prog cfg 45 [.slice (some ⟨0, 0, none⟩) n tg] (AH.of [some (.ro (us l))])
    fun r H' => r = .ret (.slice (some ⟨1, 0, none⟩) l.length 1) ∧ H' = AH.of [some (.ro (us l)), some (.arr 30 (us l))] := by
  subst hn
  refine Runs.ends ?_
  refine runs_by (tbl := []) (by simp) 0 0 (af := a45) rfl ?_
  rw [a45, b45, run_eq]
  refine ⟨by simp, ?_⟩
  have h1 : l.length * 8 ≤ 140737488355328 ∧ l.length ≤ 9223372036854775807 := by omega
  have h2 := take_us l
  simp (implicitDefEqProofs := false) [h1, h2, us_length]
  repeat' (first | with_reducible apply And.intro | with_reducible intro _)
  all_goals first
    | (refine ends_plan [] [0, 2] ?_ ?_ ?_ <;> simp; done)
    | (have : l = [] := by assumption
       subst this
       refine ends_wk (r' := .ret (.slice (some ⟨1, 0, none⟩) 0 1)) (leR_ret (by simp)) (ends_plan [.nil 30] [0, 1] ?_ ?_ ?_) <;> simp [us])
def st45 : CStep GD := fun args H => match args with
  | [.slice (some ⟨k, 0, none⟩) n _] => match H.get k with
    | some (.arr _ cs) => (asUs cs).map fun l => (n = l.length ∧ l.length ≤ 1000000, .ret (.slice (some ⟨H.next, 0, none⟩) l.length 1), H.add (.arr 30 (us l)))
    | some (.ro cs) => (asUs cs).map fun l => (n = l.length ∧ l.length ≤ 1000000, .ret (.slice (some ⟨H.next, 0, none⟩) l.length 1), H.add (.arr 30 (us l)))
    | _ => none
  | _ => none
theorem st45_ok : CStepOk Tryz.prog cfg 45 st45 := by
  intro args H p r H' h hp
  unfold st45 at h
  split at h
  case h_2 => cases h
  split at h
  · simp only [Option.map_eq_some_iff] at h
    obtain ⟨l, hl, h⟩ := h
    rename_i k n tg x e cs hk
    cases h
    rw [asUs_inv hl] at hk
    rw [hp.1]
    exact (runs45 e l tg hp.2).atK (ro_none rfl) [k] (by simp) (by simp) (by simp [hk]) (by simp) (by simp) (by simp [upd_get hk])
  · simp only [Option.map_eq_some_iff] at h
    obtain ⟨l, hl, h⟩ := h
    rename_i k n tg x cs hk
    cases h
    rw [asUs_inv hl] at hk
    exact (runs_cloneV_ro l n tg hp.1 hp.2).atK (ro_same fun i cs hi => by rcases i with _ | _ | i <;> simp at hi ⊢; exact hi) [k] (by simp) (by simp) (by simp [hk]) (by simp) (by simp) (by simp [upd_get hk])
  · cases h
theorem runs64 (e : TypeId) (l : List Ev) (tg : Nat) (hl : l.length ≤ 1000000) : Runs Tryz.prog cfg 64 [.slice (some ⟨0, 0, none⟩) l.length tg] (AH.of [some (.arr e (evs l))])
    fun r H' => r = .ret (.slice (some ⟨1, 0, none⟩) l.length 1) ∧ H' = AH.of [some (.arr e (evs l)), some (.arr 121 (evs l))] := by
  refine Runs.ends ?_
  refine runs_by (tbl := []) (by simp) 0 0 (af := a64) rfl ?_
  rw [a64, b64, run_eq]
  refine ⟨by simp, ?_⟩
  have h1 : l.length * 32 ≤ 140737488355328 ∧ l.length ≤ 9223372036854775807 := by omega
  have h2 := take_evs l
  have h3 : l.length * 4 ≤ (evs l).length := by rw [evs_length]; omega
  simp (implicitDefEqProofs := false) [h1, h2, h3]
  repeat' (first | with_reducible apply And.intro | with_reducible intro _)
  all_goals first
    | (refine ends_plan [] [0, 2] ?_ ?_ ?_ <;> simp; done)
    | (have : l = [] := by assumption
       subst this
       refine ends_wk (r' := .ret (.slice (some ⟨1, 0, none⟩) 0 1)) (leR_ret (by simp)) (ends_plan [.nil 121] [0, 1] ?_ ?_ ?_) <;> simp [evs])
def st64 : CStep GD := fun args H => match args with
  | [.slice (some ⟨k, 0, none⟩) n _] => match H.get k with
    | some (.arr _ cs) => (asEvs cs).map fun l => (n = l.length ∧ l.length ≤ 1000000, .ret (.slice (some ⟨H.next, 0, none⟩) l.length 1), H.add (.arr 121 (evs l)))
    | _ => none
  | _ => none
theorem st64_ok : CStepOk Tryz.prog cfg 64 st64 := by
  intro args H p r H' h hp
  unfold st64 at h
  split at h
  case h_2 => cases h
  split at h
  · simp only [Option.map_eq_some_iff] at h
    obtain ⟨l, hl, h⟩ := h
    rename_i k n tg x e cs hk
    cases h
    rw [asEvs_inv hl] at hk
    rw [hp.1]
    exact (runs64 e l tg hp.2).atK (ro_none rfl) [k] (by simp) (by simp) (by simp [hk]) (by simp) (by simp) (by simp [upd_get hk])
  · cases h
def firstV : List Int := [0, 4607182418800017408, 9221120237041090560, 9223372036854775808, 0]
theorem firstV_right : ∀ v ∈ firstV, rightB v = true := by
  intro v hv
  simp only [firstV, List.mem_cons, List.not_mem_nil, or_false] at hv
  rcases hv with rfl | rfl | rfl | rfl | rfl <;> decide
theorem firstV_len : firstV.length = 5 := rfl
structure Dd where
  k : Int
  t : Int
  a : Ak
def Dd.cells (d : Dd) : List Value := [.int .i64 d.k, .int .i64 d.t, .int .u8 d.a.k, .int .i64 d.a.t, .int .u64 d.a.v]
def Dd.Ok (d : Dd) : Prop := (0 ≤ d.a.k ∧ d.a.k < 256) ∧ 0 ≤ d.a.v ∧ d.a.v < 18446744073709551616
def dds (l : List Dd) : List Value := l.flatMap Dd.cells
theorem dds_cons (d : Dd) (l : List Dd) : dds (d :: l) = .int .i64 d.k :: .int .i64 d.t :: .int .u8 d.a.k :: .int .i64 d.a.t :: .int .u64 d.a.v :: dds l := rfl
theorem dds_ground (l : List Dd) : grounds (dds l) = true := by
  induction l with
  | nil => rfl
  | cons e l ih => rw [dds_cons]; simp [grounds, ground, ih]
theorem ren_dds (θ : Nat → Nat) (l : List Dd) : rens θ (dds l) = dds l := rens_ground θ _ (dds_ground l)
attribute [simp] ren_dds
def asDds : List Value → Option (List Dd)
  | [] => some []
  | .int .i64 k :: .int .i64 t :: .int .u8 a :: .int .i64 b :: .int .u64 c :: l => (asDds l).map (⟨k, t, ⟨a, b, c⟩⟩ :: ·)
  | _ => none
theorem asDds_dds : ∀ l : List Dd, asDds (dds l) = some l
  | [] => rfl
  | e :: l => by rw [dds_cons, asDds, asDds_dds l]; rfl
attribute [simp] asDds_dds
end YtapbabkndhaemaaGreat
end Go.Proofs
/-
  TL2: what is told, New.
-/
namespace Go.Proofs
namespace YtapbabkndhaemaaGreat
open Go.Abs
def tblUo : List (FuncId × CStep GD) := [(58, st58), (49, st49), (45, st45), (64, st64), (55, st55), (57, st57)]
theorem tblUo_ok : ∀ x ∈ tblUo, CStepOk Tryz.prog cfg x.1 x.2 := by simp [tblUo, st58_ok, st49_ok, st45_ok, st64_ok, st55_ok, st57_ok]
theorem runs29 (s : TS) (hl : s.ev.length ≤ 1000000) : Runs Tryz.prog cfg 29 [.pointer (some ⟨0, 0, none⟩)] (AH.of [some (.hi (.teng s))])
    fun r H' => r = .ret (.slice (some ⟨1, 0, none⟩) s.ev.length 1) ∧ H' = AH.of [some (.hi (.teng s)), some (.arr 121 (evs s.ev))] := by
  refine Runs.ends ?_
  refine Runs.openTEng (th := 0) (by omega) ?_
  refine runs_by (tbl := tblUo) tblUo_ok 0 3 (af := a29) rfl ?_
  rw [a29, b29, run_eq]
  refine ⟨by simp, ?_⟩
  simp (implicitDefEqProofs := false) [tengL, tengC_0, tengC_1, tengC_6, tengC_7, tengC_g0, tengC_g1, tengC_g6, tengC_g7, tengC_len, tblUo, st64, hl]
  refine ends_plan [.pack (GD.teng s) 0 [1, 2, 3, 4, 5, 6, 7, 8]] [0, 9] ?_ ?_ ?_ <;> simp [frag_teng, tengC, tps, u1, u2, u3]
def st29 : CStep GD := fun args H => match args with
  | [.pointer (some ⟨k, 0, none⟩)] => match H.get k with
    | some (.hi (.teng s)) => some (s.ev.length ≤ 1000000, .ret (.slice (some ⟨H.next, 0, none⟩) s.ev.length 1), H.add (.arr 121 (evs s.ev)))
    | _ => none
  | _ => none
theorem st29_ok : CStepOk Tryz.prog cfg 29 st29 := by
  intro args H p r H' h hp
  unfold st29 at h
  split at h
  case h_2 => cases h
  split at h
  case h_2 => cases h
  rename_i k x s hk
  cases h
  exact (runs29 s hp).atK (ro_none rfl) [k] (by simp) (by simp) (by simp [hk]) (by simp) (by simp) (by simp [upd_get hk])
end YtapbabkndhaemaaGreat
end Go.Proofs
