/-
  TL2: New, deeds, live, alone. (Printed by tools/genue.py.)
-/
import Derived.Test.YtapbabkndhaemaaGreatPR2
import Derived.Test.YtapbabkndhaemaaGreatPR1
set_option linter.unusedSimpArgs false
set_option linter.unusedVariables false
set_option linter.unnecessarySimpa false
set_option linter.unusedSectionVars false
namespace Go.Proofs
namespace YtapbabkndhaemaaGreat
open Go.Abs
def newTS (h : List Int) (m : Nat) : TS := ⟨newL m, 0, h, fun _ => none, [], []⟩
def tblNt : List (FuncId × CStep GD) := [(45, st45), (43, st43), (41, st41)]
theorem tblNt_ok : ∀ x ∈ tblNt, CStepOk Tryz.prog cfg x.1 x.2 := by simp [tblNt, st45_ok, st43_ok, st41_ok]
theorem fates_nil : fates [] = [] := rfl
set_option maxHeartbeats 4000000 in
theorem truns_new_yes (h : List Int) (tg m : Nat) (hm : 1 ≤ m ∧ m ≤ 8) (h1 : 1 ≤ h.length ∧ h.length ≤ 12) (hr : ∀ v ∈ h, rightB v = true) : Runs Tryz.prog cfg 10 [.slice (some ⟨0, 0, none⟩) h.length tg, .int .i64 m] (AH.of [some (.ro (us h))])
    fun r H' => r = .ret (.pointer (some ⟨1, 0, none⟩)) ∧ H' = AH.of [some (.ro (us h)), some (.hi (.teng (newTS h m)))] := by
  refine Runs.ends ?_
  obtain ⟨n, hn⟩ : ∃ n, h.length = n := ⟨_, rfl⟩
  have z1 : ¬ (n : Int) < 1 := by omega
  have z2 : ¬ (12 : Int) < n := by omega
  have hl : n ≤ 1000000 := by omega
  have hm1 : (1 : Int) ≤ m := by omega
  have hm2 : (m : Int) ≤ 8 := by omega
  rw [hn]
  refine runs_by (tbl := tblNt) tblNt_ok 13 4 (af := a10) rfl ?_
  rw [a10, b10, run_eq]
  refine ⟨by simp, ?_⟩
  simp (implicitDefEqProofs := false) [tblNt, st41, forms44, a44, b44, forms105, a105, b105, z1, z2, hm1, hm2]
  refine loop_inv (sg_mono gX_ok (tabS_ok tblNt_ok) _ _ noY noY_mono) (fun mm tm H => ∃ i : Nat, mm + i = n ∧ tm 0 = .slice (some ⟨0, 0, none⟩) n tg ∧ tm 1 = .func (.func 42) #[] #[] ∧ tm 7 = .int .i64 n ∧ tm 8 = .int .i64 i ∧ H = AH.of [some (.ro (us h)), some (.hi (.tab (newL m) 0))]) (m := n) ⟨0, by simp⟩ (by omega) ?_
  rintro mm tm H ⟨i, hmm, t0, t1, t7, t8, rfl⟩
  by_cases hi : i < n
  · obtain ⟨x, hx⟩ : ∃ x, h[i]? = some x := ⟨h[i]'(by omega), List.getElem?_eq_getElem (by omega)⟩
    have hi' : (i : Int) < n := by omega
    have hwr := inc_i64 hi (by omega)
    have ux := us_at hx
    have hrx := hr x (List.mem_of_getElem? hx)
    simp (implicitDefEqProofs := false) [tblNt, st43, forms42, a42, b42, t0, t1, t7, t8, hi, hi', ux, hrx, hwr]
    exact ⟨mm - 1, by omega, i + 1, by omega, by omega⟩
  · have hie : i = n := by omega
    subst hie
    simp (implicitDefEqProofs := false) [tblNt, st45, t0, t1, t7, t8, hn, hl]
    refine ends_plan [.nil 121, .nil 100, .nil 98, .nil 98, .nil 98, .nil 98, .pack (GD.teng (newTS h m)) 3 [1, 2, 4, 5, 6, 7, 8, 9]] [0, 3] ?_ ?_ ?_ <;> simp [frag_teng, newTS, tslotO_none, teptr_none, evs_nil, fates_nil, us_nil, hn]
def st10 : CStep GD := fun args H => match args with
  | [.slice (some ⟨k, 0, none⟩) n _, .int .i64 m] => match H.get k with
    | some (.arr _ cs) => (asUs cs).map fun l => (n = l.length ∧ k < H.next ∧ 1 ≤ l.length ∧ l.length ≤ 12 ∧ (∀ v ∈ l, rightB v = true) ∧ 1 ≤ m ∧ m ≤ 8, .ret (.pointer (some ⟨H.next, 0, none⟩)), H.add (.hi (.teng (newTS l m.toNat))))
    | _ => none
  | _ => none
theorem st10_ok : CStepOk Tryz.prog cfg 10 st10 := by
  intro args H p r H' h hp
  unfold st10 at h
  split at h
  case h_2 => cases h
  split at h
  case h_2 => cases h
  simp only [Option.map_eq_some_iff] at h
  obtain ⟨l, hl, h⟩ := h
  rename_i k n tg m x e cs hk
  cases h
  obtain ⟨h1, hkn, h2, h3, h4, h5, h6⟩ := hp
  obtain ⟨m, rfl⟩ := Int.eq_ofNat_of_zero_le (show 0 ≤ m by omega)
  rw [Int.toNat_natCast]
  rw [asUs_inv hl] at hk
  rw [h1]
  refine Runs.borrow k hk ?_
  have hk2 : (H.upd k (.ro (us l))).get k = some (.ro (us l)) := by rw [AH.get_upd, if_pos rfl]
  have hr := (truns_new_yes l tg m ⟨by omega, by omega⟩ ⟨h2, h3⟩ h4).atK (H := H.upd k (.ro (us l))) (args := [.slice (some ⟨k, 0, none⟩) l.length tg, .int .i64 m]) (r' := .ret (.pointer (some ⟨H.next, 0, none⟩))) (H' := (H.upd k (.ro (us l))).add (.hi (.teng (newTS l m)))) (ro_same fun i cs hi => by rcases i with _ | _ | i <;> simp at hi ⊢; exact hi) [k] (by simp) (by simp) (by simp [hk2]) (by simp) (by simp) (by simp [upd_get hk2])
  refine hr.mono ?_
  rintro r H' ⟨e1, rfl⟩
  refine ⟨by rw [AH.get_add, AH.next_upd, if_neg (by omega), AH.get_upd, if_pos rfl], fun j cs2 hj hcs hne => ⟨cs2, ?_, hne⟩, e1, ?_⟩
  · rw [AH.get_add, AH.next_upd] at hcs
    split at hcs
    · cases hcs
    · rw [AH.get_upd, if_neg hj] at hcs; exact hcs
  · refine AH.ext' (by simp) fun j => ?_
    rw [AH.get_upd, AH.get_add, AH.get_add, AH.next_upd, AH.get_upd]
    by_cases h : j = k
    · subst h; rw [if_pos rfl, if_neg (by omega), hk]
    · rw [if_neg h, if_neg h]
theorem newTS_ok {h : List Int} {m : Nat} (hm : 1 ≤ m ∧ m ≤ 8) (h1 : 1 ≤ h.length ∧ h.length ≤ 12) (h2 : ∀ v ∈ h, 0 ≤ v ∧ v < 18446744073709551616) : (newTS h m).Ok where
  hp := h1
  hv := h2
  tab := GoodT.new hm.1 hm.2
  ft := by simp [newTS]
  ts := fun th a h => by cases h
  lk := fun th a h => by cases h
  no := fun th _ => by
    rw [held_nil (by omega)]
    intro i hi
    unfold ownN newTS newL at hi
    simp only at hi
    split at hi
    · rename_i w hw
      have := List.mem_of_getElem? hw
      rw [List.mem_replicate] at this
      rw [this.2] at hi
      unfold wOwn at hi
      simp at hi <;> omega
    · omega
  th4 := fun _ _ => rfl
theorem tfirstV_ok : (newTS firstV 3).Ok := newTS_ok ⟨by decide, by decide⟩ ⟨by decide, by decide⟩ (by decide)
theorem tok_beginX {s : TS} (hs : s.Ok) (t : Int) : (tbeginX s t).Ok := by
  unfold tbeginX
  split
  · exact hs
  · rename_i th ht
    split
    · exact hs.begin (uthOf_some ht).1 (by assumption)
    · exact hs
theorem tok_askX {s : TS} (hs : s.Ok) (t : Int) {x : Ak} (hk : 0 ≤ x.k) (hv : 0 ≤ x.v ∧ x.v < 18446744073709551616) : (taskX s t x).Ok := by
  unfold taskX
  split
  · exact hs
  · rename_i th ht
    split
    · exact hs.ask (uthOf_some ht).1 hk hv (by assumption)
    · exact hs
theorem tok_stepX {s : TS} (hs : s.Ok) (t : Int) : (tstepX s t).Ok := by
  unfold tstepX
  split
  · exact hs
  · rename_i th ht
    exact hs.step (uthOf_some ht).1
theorem truns_first (H : AH GD) : Runs Tryz.prog cfg 11 [] H fun r H' => r = .ret (.slice (some ⟨H.next, 0, none⟩) 5 1) ∧ H' = H.add (.arr 30 (us firstV)) := by
  have h0 : Runs Tryz.prog cfg 11 [] (AH.of []) fun r H' => r = .ret (.slice (some ⟨0, 0, none⟩) 5 1) ∧ H' = AH.of [some (.arr 30 (us firstV))] := by
    refine Runs.ends ?_
    refine runs_by (tbl := []) (by simp) 0 0 (af := a11) rfl ?_
    rw [a11, b11, run_eq]
    refine ⟨by simp, ?_⟩
    simp (implicitDefEqProofs := false)
    refine ends_plan [] [0] ?_ ?_ ?_ <;> simp [us, firstV]
  exact h0.atK (ro_none rfl) [] (by simp) (by simp) trivial (by simp) (by simp) (by simp)
def st11 : CStep GD := fun args H => match args with
  | [] => some (True, .ret (.slice (some ⟨H.next, 0, none⟩) 5 1), H.add (.arr 30 (us firstV)))
  | _ => none
theorem st11_ok : CStepOk Tryz.prog cfg 11 st11 := by
  intro args H p r H' h hp
  unfold st11 at h
  split at h
  case h_2 => cases h
  cases h
  exact truns_first H
def ttblL : List (FuncId × CStep GD) := [(11, st11), (10, st10), (13, dataSt d13), (14, dataSt d14), (15, dataSt d15), (29, st29)]
theorem ttblL_ok : ∀ x ∈ ttblL, CStepOk Tryz.prog cfg x.1 x.2 := by simp [ttblL, st11_ok, st10_ok, st13_ok, st14_ok, st15_ok, st29_ok]
def tlv1 : TS := tbeginX (newTS firstV 3) 1
def tlv2 : TS := taskX tlv1 1 ⟨1, 1, 0⟩
def tlv3 : TS := tstepX tlv2 1
def tlv4 : TS := tstepX tlv3 1
def tlv5 : TS := tstepX tlv4 1
def tlv6 : TS := taskX tlv5 1 ⟨6, 0, 0⟩
def tlv7 : TS := tstepX tlv6 1
theorem tlv1_ok : tlv1.Ok ∧ tlv1.ev.length ≤ 100000 := ⟨tok_beginX tfirstV_ok 1, by decide +kernel⟩
theorem tlv2_ok : tlv2.Ok ∧ tlv2.ev.length ≤ 100000 := ⟨tok_askX tlv1_ok.1 1 (by decide) (by decide), by decide +kernel⟩
theorem tlv3_ok : tlv3.Ok ∧ tlv3.ev.length ≤ 100000 := ⟨tok_stepX tlv2_ok.1 1, by decide +kernel⟩
theorem tlv4_ok : tlv4.Ok ∧ tlv4.ev.length ≤ 100000 := ⟨tok_stepX tlv3_ok.1 1, by decide +kernel⟩
theorem tlv5_ok : tlv5.Ok ∧ tlv5.ev.length ≤ 100000 := ⟨tok_stepX tlv4_ok.1 1, by decide +kernel⟩
theorem tlv6_ok : tlv6.Ok ∧ tlv6.ev.length ≤ 100000 := ⟨tok_askX tlv5_ok.1 1 (by decide) (by decide), by decide +kernel⟩
theorem tlv_b : tbeginR (newTS firstV 3) 1 = .tuple #[.int .i64 0, .int .i64 0] := rfl
theorem tlv_a1 : taskR tlv1 1 ⟨1, 1, 0⟩ = 0 := by decide +kernel
theorem tlv_a2 : taskR tlv5 1 ⟨6, 0, 0⟩ = 0 := by decide +kernel
theorem tlv_s2 : tstepR tlv4 1 = rpDone 4607182418800017408 := by decide +kernel
theorem tlv_s3 : tstepR tlv6 1 = rpEnd 0 := by decide +kernel
theorem tlv_e : tlv7.ev.length = 4 := by decide +kernel
theorem tlv_e' : tlv7.ev.length ≤ 1000000 := by rw [tlv_e]; decide
set_option maxRecDepth 10000 in
set_option maxHeartbeats 4000000 in
theorem runs12 : Runs Tryz.prog cfg 12 [] (AH.of []) fun r H' => r = .ret (.bool true) ∧ H' = AH.of [] := by
  refine Runs.ends ?_
  have h1 := tfirstV_ok
  have h1e : (newTS firstV 3).ev.length ≤ 100000 := by decide
  have hr := firstV_right
  have e1 : tbeginX (newTS firstV 3) 1 = tlv1 := rfl
  have e2 : taskX tlv1 1 ⟨1, 1, 0⟩ = tlv2 := rfl
  have e3 : tstepX tlv2 1 = tlv3 := rfl
  have e4 : tstepX tlv3 1 = tlv4 := rfl
  have e5 : tstepX tlv4 1 = tlv5 := rfl
  have e6 : taskX tlv5 1 ⟨6, 0, 0⟩ = tlv6 := rfl
  have e7 : tstepX tlv6 1 = tlv7 := rfl
  refine runs_by (tbl := ttblL) ttblL_ok 0 0 (af := a12) rfl ?_
  rw [a12, b12, run_eq]
  refine ⟨by simp, ?_⟩
  simp (implicitDefEqProofs := false) [ttblL, st11, st10, dataSt, d13, d14, d15, st29, firstV_len, h1, h1e, hr, e1, e2, e3, e4, e5, e6, e7, tlv1_ok, tlv2_ok, tlv3_ok, tlv4_ok, tlv5_ok, tlv6_ok, tlv_e', tlv_b, tlv_a1, tlv_a2, tlv_s2, tlv_s3, tlv_e, Rp.v, Rp.cells, rpDone, rpEnd]
  refine ⟨hr, ends_plan [] [] ?_ ?_ ?_⟩ <;> simp
def st12 : CStep GD := fun args H => match args with
  | [] => some (True, .ret (.bool true), H)
  | _ => none
theorem st12_ok : CStepOk Tryz.prog cfg 12 st12 := by
  intro args H p r H' h hp
  unfold st12 at h
  split at h
  case h_2 => cases h
  cases h
  exact runs12.atK (ro_none rfl) [] (by simp) (by simp) trivial (by simp) (by simp) (by simp)
end YtapbabkndhaemaaGreat
end Go.Proofs
/-
  TL2: one thread alone.
-/
namespace Go.Proofs
namespace YtapbabkndhaemaaGreat
open Go.Abs
structure TSole (s : TS) (th : Nat) : Prop where
  ts : ∀ i, i ≠ th → s.ts i = none
  ver : ∀ a, s.ts th = some a → a.ph ≤ 2 → ∀ i : Nat, verT s.ws i ≤ a.rv
  sw : ∀ a, s.ts th = some a → a.ra.k = 1 → a.ss ≠ 0 → a.sw = wordTV s.ws (ofT s.ws a.ra.t)
end YtapbabkndhaemaaGreat
end Go.Proofs
/-
  TL2: Decided; who ended leaves nothing; the clock. (Printed by tools/genug.py.)
-/
namespace Go.Proofs
namespace YtapbabkndhaemaaGreat
open Go.Abs
end YtapbabkndhaemaaGreat
end Go.Proofs
/-
  What the arguments of tl2's laws read as.
-/
namespace Go.Proofs
namespace YtapbabkndhaemaaGreat
open Go.Abs Go.ChangeShapes Go.WideShapes Go.ChangeAt Go.RowKit
set_option maxRecDepth 100000
theorem cells34 : Tryz.prog.cellsOf 34 = 5 := by kernel_rfl
theorem cells32 : Tryz.prog.cellsOf 32 = 3 := by kernel_rfl
theorem cells3 : Tryz.prog.cellsOf 3 = 1 := by kernel_rfl
def ltypes : List TypeId := [25, 22, 34, 32, 28, 30, 3, 29, 5]
theorem cells30 : Tryz.prog.cellsOf 30 = 1 := by kernel_rfl
theorem lclosed : closedB Tryz.prog ltypes = true := by kernel_rfl
section
variable {H : Type} {enc : TypeId × Value → H} {w : World}
theorem ask_cellsA {fuel : Nat} {cs : List Value} {y : DataW H × List MemPlace} (h : DataW.trod enc Tryz.prog w 0 (fun _ => true) true fuel 32 cs = some y) : ∃ e : Ak, cs = [.int .u8 e.k, .int .i64 e.t, .int .u64 e.v] ∧ (0 ≤ e.k ∧ e.k < 256) ∧ 0 ≤ e.v ∧ e.v < 18446744073709551616 := by
  obtain ⟨h1, h2⟩ := struct_cells Tryz.underlying32 (by kernel_rfl) h cells32
  obtain ⟨v0, n0, y0, g0, t0⟩ := h2 0 _ rfl
  obtain ⟨v1, n1, y1, g1, t1⟩ := h2 1 _ rfl
  obtain ⟨v2, n2, y2, g2, t2⟩ := h2 2 _ rfl
  obtain ⟨a, ha, _, hwa⟩ := DataW.trod_int Tryz.underlying28 t0
  obtain ⟨b, hb, _, _⟩ := DataW.trod_int Tryz.underlying3 t1
  obtain ⟨c, hc, _, hw⟩ := DataW.trod_int Tryz.underlying30 t2
  have h3 : cs.length = 3 := h1
  match cs, h3 with
  | [c0, c1, c2], _ =>
    simp only [List.getElem?_cons_zero, List.getElem?_cons_succ, Option.some.injEq] at g0 g1 g2
    cases g0; cases g1; cases g2
    cases ha; cases hb; cases hc
    exact ⟨⟨a, b, c⟩, rfl, wf_u8 hwa, wf_u64 hw⟩
theorem dd_cells {fuel : Nat} {cs : List Value} {y : DataW H × List MemPlace} (h : DataW.trod enc Tryz.prog w 0 (fun _ => true) true fuel 34 cs = some y) : ∃ e : Dd, cs = e.cells ∧ e.Ok := by
  obtain ⟨xs, n, _, _, h1, h2, h3⟩ := DataW.trod_struct Tryz.underlying34 h
  have hl : cs.length = 5 := by rw [h1, cells34]
  obtain ⟨c0, c1, c2, c3, c4, rfl⟩ : ∃ c0 c1 c2 c3 c4, cs = [c0, c1, c2, c3, c4] := by
    match cs, hl with
    | [c0, c1, c2, c3, c4], _ => exact ⟨c0, c1, c2, c3, c4, rfl⟩
  have f0 := h3 0 _ rfl
  have f1 := h3 1 _ rfl
  have f2 := h3 2 _ rfl
  have hx : xs.length = 3 := h2
  have e0 : xs[0]? = some xs[0] := List.getElem?_eq_getElem (by omega)
  have e1 : xs[1]? = some xs[1] := List.getElem?_eq_getElem (by omega)
  have e2 : xs[2]? = some xs[2] := List.getElem?_eq_getElem (by omega)
  change DataW.trod enc Tryz.prog w 0 (fun _ => true) true n 3 (([c0, c1, c2, c3, c4].drop 0).take (Tryz.prog.cellsOf 3)) = xs[0]? at f0
  change DataW.trod enc Tryz.prog w 0 (fun _ => true) true n 3 (([c0, c1, c2, c3, c4].drop 1).take (Tryz.prog.cellsOf 3)) = xs[1]? at f1
  change DataW.trod enc Tryz.prog w 0 (fun _ => true) true n 32 (([c0, c1, c2, c3, c4].drop 2).take (Tryz.prog.cellsOf 32)) = xs[2]? at f2
  rw [cells3, e0] at f0
  rw [cells3, e1] at f1
  rw [cells32, e2] at f2
  obtain ⟨a, ha, _, _⟩ := DataW.trod_int Tryz.underlying3 f0
  obtain ⟨b, hb, _, _⟩ := DataW.trod_int Tryz.underlying3 f1
  obtain ⟨x, hx, hxo⟩ := ask_cellsA f2
  have ha' : [c0] = [.int .i64 a] := ha
  have hb' : [c1] = [.int .i64 b] := hb
  have hx' : [c2, c3, c4] = [.int .u8 x.k, .int .i64 x.t, .int .u64 x.v] := hx
  cases ha'; cases hb'; cases hx'
  exact ⟨⟨a, b, x⟩, rfl, hxo⟩
theorem open_ndeed {r : Reach} {b0 : Nat} {v : Value} {d : DataW H} {ps : List MemPlace} (hok : Value.okWide Tryz.prog w r b0 34 v) (hd : DataW.Trod enc Tryz.prog w 0 (fun _ => true) true 34 v d ps) : ∃ e : Dd, v = .agg e.cells.toArray ∧ e.Ok := by
  obtain ⟨cs, rfl, _⟩ := okWide_struct Tryz.underlying34 hok
  obtain ⟨fuel, hf⟩ := hd
  obtain ⟨e, h1, h2⟩ := dd_cells hf
  refine ⟨e, ?_, h2⟩
  have : cs.toList = e.cells := h1
  show Value.agg cs = .agg e.cells.toArray
  rw [← this]
theorem open_int {r : Reach} {b0 : Nat} {v : Value} {d : DataW H} {ps : List MemPlace} (hok : Value.okWide Tryz.prog w r b0 3 v) (hd : DataW.Trod enc Tryz.prog w 0 (fun _ => true) true 3 v d ps) : ∃ n : Int, v = .int .i64 n ∧ (-9223372036854775808 ≤ n ∧ n ≤ 9223372036854775807) := by
  obtain ⟨n, h1, h2⟩ := open_num Tryz.underlying3 hok hd
  exact ⟨n, h1, wf_i64 h2⟩
theorem word_cell {fuel : Nat} {cs : List Value} {y : DataW H × List MemPlace} (h : DataW.trod enc Tryz.prog w 0 (fun _ => true) true fuel 30 cs = some y) : ∃ v : Int, cs = [.int .u64 v] ∧ (0 ≤ v ∧ v < 18446744073709551616) := by
  obtain ⟨n, rfl, _, hw⟩ := DataW.trod_int Tryz.underlying30 h
  exact ⟨n, rfl, wf_u64 hw⟩
theorem open_words {r : Reach} {b0 : Nat} {v : Value} {d : DataW H} {ps : List MemPlace} (hok : Value.okWide Tryz.prog w r b0 25 v) (hd : DataW.Trod enc Tryz.prog w 0 (fun _ => true) true 25 v d ps) :
    ∃ l : List Int, (∀ v ∈ l, 0 ≤ v ∧ v < 18446744073709551616) ∧ l.length ≤ maxLen ∧ ArgRow w v l.length (us l) := by
  obtain ⟨l, h1, h2, h3⟩ := open_rows (ea := fun v => [Value.int .u64 v]) (Ok := fun v => 0 ≤ v ∧ v < 18446744073709551616) Tryz.underlying25 (by rw [cells30]; omega) (fun x => cells30.symm) (fun _ _ _ h => word_cell h) hok hd
  rw [us_flat] at h3
  exact ⟨l, h1, h2, h3⟩
end
end YtapbabkndhaemaaGreat
end Go.Proofs
/-
  TL2: a nil engine; values that may not be.
-/
namespace Go.Proofs
namespace YtapbabkndhaemaaGreat
open Go.Abs
set_option maxHeartbeats 4000000 in
theorem runs_nil13 (t : Int) : Runs Tryz.prog cfg 13 [.pointer none, .int .i64 t] (AH.of []) fun r H' => r = .ret (.tuple #[.int .i64 0, .int .i64 1]) ∧ H' = AH.of [] := by
  refine Runs.ends ?_
  refine runs_by (tbl := []) (by simp) 0 3 (af := a13) rfl ?_
  rw [a13, b13, run_eq]
  refine ⟨by simp, ?_⟩
  simp (implicitDefEqProofs := false) [forms54, a54, b54, forms46, a46, b46]
  refine ends_plan [] [] ?_ ?_ ?_ <;> simp
def pn13 : PStep
  | [.pointer none, .int .i64 _] => some (True, .tuple #[.int .i64 0, .int .i64 1])
  | _ => none
theorem sn13_ok : CStepOk Tryz.prog cfg 13 (pureStep pn13) := pure_ok fun args p v h hp => by
  unfold pn13 at h
  split at h
  · cases h; exact ⟨rfl, rfl, runs_nil13 _⟩
  · cases h
set_option maxHeartbeats 4000000 in
theorem runs_nil20 (t : Int) : Runs Tryz.prog cfg 20 [.pointer none, .int .i64 t] (AH.of []) fun r H' => r = .ret (.tuple #[.int .i64 0, .bool false]) ∧ H' = AH.of [] := by
  refine Runs.ends ?_
  refine runs_by (tbl := []) (by simp) 0 3 (af := a20) rfl ?_
  rw [a20, b20, run_eq]
  refine ⟨by simp, ?_⟩
  simp (implicitDefEqProofs := false) [forms54, a54, b54, forms46, a46, b46]
  refine ends_plan [] [] ?_ ?_ ?_ <;> simp
def pn20 : PStep
  | [.pointer none, .int .i64 _] => some (True, .tuple #[.int .i64 0, .bool false])
  | _ => none
theorem sn20_ok : CStepOk Tryz.prog cfg 20 (pureStep pn20) := pure_ok fun args p v h hp => by
  unfold pn20 at h
  split at h
  · cases h; exact ⟨rfl, rfl, runs_nil20 _⟩
  · cases h
set_option maxHeartbeats 4000000 in
theorem runs_nil18 (t : Int) : Runs Tryz.prog cfg 18 [.pointer none, .int .i64 t] (AH.of []) fun r H' => r = .ret (.tuple #[.agg #[.int .u8 0, .int .i64 0, .int .u64 0], .bool false]) ∧ H' = AH.of [] := by
  refine Runs.ends ?_
  refine runs_by (tbl := []) (by simp) 0 3 (af := a18) rfl ?_
  rw [a18, b18, run_eq]
  refine ⟨by simp, ?_⟩
  simp (implicitDefEqProofs := false) [forms54, a54, b54, forms46, a46, b46]
  refine ends_plan [] [] ?_ ?_ ?_ <;> simp
def pn18 : PStep
  | [.pointer none, .int .i64 _] => some (True, .tuple #[.agg #[.int .u8 0, .int .i64 0, .int .u64 0], .bool false])
  | _ => none
theorem sn18_ok : CStepOk Tryz.prog cfg 18 (pureStep pn18) := pure_ok fun args p v h hp => by
  unfold pn18 at h
  split at h
  · cases h; exact ⟨rfl, rfl, runs_nil18 _⟩
  · cases h
set_option maxHeartbeats 4000000 in
theorem runs_nil14 (t k a v : Int) : Runs Tryz.prog cfg 14 [.pointer none, .int .i64 t, .agg #[.int .u8 k, .int .i64 a, .int .u64 v]] (AH.of []) fun r H' => r = .ret (.int .i64 1) ∧ H' = AH.of [] := by
  refine Runs.ends ?_
  refine runs_by (tbl := []) (by simp) 0 3 (af := a14) rfl ?_
  rw [a14, b14, run_eq]
  refine ⟨by simp, ?_⟩
  simp (implicitDefEqProofs := false) [forms54, a54, b54, forms46, a46, b46]
  refine ends_plan [] [] ?_ ?_ ?_ <;> simp
def pn14 : PStep
  | [.pointer none, .int .i64 _, .agg ⟨[.int .u8 _, .int .i64 _, .int .u64 _]⟩] => some (True, .int .i64 1)
  | _ => none
theorem sn14_ok : CStepOk Tryz.prog cfg 14 (pureStep pn14) := pure_ok fun args p v h hp => by
  unfold pn14 at h
  split at h
  · cases h; exact ⟨rfl, rfl, runs_nil14 _ _ _ _⟩
  · cases h
set_option maxHeartbeats 4000000 in
theorem runs_nil15 (t : Int) : Runs Tryz.prog cfg 15 [.pointer none, .int .i64 t] (AH.of []) fun r H' => r = .ret (.agg #[.bool false, .int .u64 0, .bool false, .int .i64 0, .bool false, .int .u8 0, .int .i64 1]) ∧ H' = AH.of [] := by
  refine Runs.ends ?_
  refine runs_by (tbl := []) (by simp) 0 3 (af := a15) rfl ?_
  rw [a15, b15, run_eq]
  refine ⟨by simp, ?_⟩
  simp (implicitDefEqProofs := false) [forms54, a54, b54, forms46, a46, b46]
  refine ends_plan [] [] ?_ ?_ ?_ <;> simp
def pn15 : PStep
  | [.pointer none, .int .i64 _] => some (True, .agg #[.bool false, .int .u64 0, .bool false, .int .i64 0, .bool false, .int .u8 0, .int .i64 1])
  | _ => none
theorem sn15_ok : CStepOk Tryz.prog cfg 15 (pureStep pn15) := pure_ok fun args p v h hp => by
  unfold pn15 at h
  split at h
  · cases h; exact ⟨rfl, rfl, runs_nil15 _⟩
  · cases h
set_option maxHeartbeats 4000000 in
theorem runs_nil22 (t : Int) : Runs Tryz.prog cfg 22 [.pointer none, .int .i64 t] (AH.of []) fun r H' => r = .ret (.int .i64 1) ∧ H' = AH.of [] := by
  refine Runs.ends ?_
  refine runs_by (tbl := []) (by simp) 0 3 (af := a22) rfl ?_
  rw [a22, b22, run_eq]
  refine ⟨by simp, ?_⟩
  simp (implicitDefEqProofs := false) [forms54, a54, b54, forms46, a46, b46]
  refine ends_plan [] [] ?_ ?_ ?_ <;> simp
def pn22 : PStep
  | [.pointer none, .int .i64 _] => some (True, .int .i64 1)
  | _ => none
theorem sn22_ok : CStepOk Tryz.prog cfg 22 (pureStep pn22) := pure_ok fun args p v h hp => by
  unfold pn22 at h
  split at h
  · cases h; exact ⟨rfl, rfl, runs_nil22 _⟩
  · cases h
set_option maxHeartbeats 4000000 in
theorem runs_nil21 : Runs Tryz.prog cfg 21 [.pointer none] (AH.of []) fun r H' => r = .ret (.slice none 0 0) ∧ H' = AH.of [] := by
  refine Runs.ends ?_
  refine runs_by (tbl := []) (by simp) 0 3 (af := a21) rfl ?_
  rw [a21, b21, run_eq]
  refine ⟨by simp, ?_⟩
  simp (implicitDefEqProofs := false) [forms54, a54, b54, forms46, a46, b46]
  refine ends_plan [] [] ?_ ?_ ?_ <;> simp
def pn21 : PStep
  | [.pointer none] => some (True, .slice none 0 0)
  | _ => none
theorem sn21_ok : CStepOk Tryz.prog cfg 21 (pureStep pn21) := pure_ok fun args p v h hp => by
  unfold pn21 at h
  split at h
  · cases h; exact ⟨rfl, rfl, runs_nil21⟩
  · cases h
set_option maxHeartbeats 4000000 in
theorem runs_nil29 : Runs Tryz.prog cfg 29 [.pointer none] (AH.of []) fun r H' => r = .ret (.slice none 0 0) ∧ H' = AH.of [] := by
  refine Runs.ends ?_
  refine runs_by (tbl := []) (by simp) 0 3 (af := a29) rfl ?_
  rw [a29, b29, run_eq]
  refine ⟨by simp, ?_⟩
  simp (implicitDefEqProofs := false) [forms54, a54, b54, forms46, a46, b46]
  refine ends_plan [] [] ?_ ?_ ?_ <;> simp
def pn29 : PStep
  | [.pointer none] => some (True, .slice none 0 0)
  | _ => none
theorem sn29_ok : CStepOk Tryz.prog cfg 29 (pureStep pn29) := pure_ok fun args p v h hp => by
  unfold pn29 at h
  split at h
  · cases h; exact ⟨rfl, rfl, runs_nil29⟩
  · cases h
set_option maxHeartbeats 4000000 in
theorem runs_nil30 : Runs Tryz.prog cfg 30 [.pointer none] (AH.of []) fun r H' => r = .ret (.slice none 0 0) ∧ H' = AH.of [] := by
  refine Runs.ends ?_
  refine runs_by (tbl := []) (by simp) 0 3 (af := a30) rfl ?_
  rw [a30, b30, run_eq]
  refine ⟨by simp, ?_⟩
  simp (implicitDefEqProofs := false) [forms54, a54, b54, forms46, a46, b46]
  refine ends_plan [] [] ?_ ?_ ?_ <;> simp
def pn30 : PStep
  | [.pointer none] => some (True, .slice none 0 0)
  | _ => none
theorem sn30_ok : CStepOk Tryz.prog cfg 30 (pureStep pn30) := pure_ok fun args p v h hp => by
  unfold pn30 at h
  split at h
  · cases h; exact ⟨rfl, rfl, runs_nil30⟩
  · cases h
set_option maxHeartbeats 4000000 in
theorem runs_nil27 (t : Int) : Runs Tryz.prog cfg 27 [.pointer none, .int .i64 t] (AH.of []) fun r H' => r = .ret (.int .u8 0) ∧ H' = AH.of [] := by
  refine Runs.ends ?_
  refine runs_by (tbl := []) (by simp) 0 3 (af := a27) rfl ?_
  rw [a27, b27, run_eq]
  refine ⟨by simp, ?_⟩
  simp (implicitDefEqProofs := false) [forms54, a54, b54, forms46, a46, b46]
  refine ends_plan [] [] ?_ ?_ ?_ <;> simp
def pn27 : PStep
  | [.pointer none, .int .i64 _] => some (True, .int .u8 0)
  | _ => none
theorem sn27_ok : CStepOk Tryz.prog cfg 27 (pureStep pn27) := pure_ok fun args p v h hp => by
  unfold pn27 at h
  split at h
  · cases h; exact ⟨rfl, rfl, runs_nil27 _⟩
  · cases h
set_option maxHeartbeats 4000000 in
theorem runs_nil39 (t : Int) : Runs Tryz.prog cfg 39 [.pointer none, .int .i64 t] (AH.of []) fun r H' => r = .ret (.slice none 0 0) ∧ H' = AH.of [] := by
  refine Runs.ends ?_
  refine runs_by (tbl := []) (by simp) 0 3 (af := a39) rfl ?_
  rw [a39, b39, run_eq]
  refine ⟨by simp, ?_⟩
  simp (implicitDefEqProofs := false) [forms54, a54, b54, forms46, a46, b46]
  refine ends_plan [] [] ?_ ?_ ?_ <;> simp
def pn39 : PStep
  | [.pointer none, .int .i64 _] => some (True, .slice none 0 0)
  | _ => none
theorem sn39_ok : CStepOk Tryz.prog cfg 39 (pureStep pn39) := pure_ok fun args p v h hp => by
  unfold pn39 at h
  split at h
  · cases h; exact ⟨rfl, rfl, runs_nil39 _⟩
  · cases h
set_option maxHeartbeats 4000000 in
theorem runs_nil19 (t : Int) : Runs Tryz.prog cfg 19 [.pointer none, .int .i64 t] (AH.of []) fun r H' => r = .ret (.slice none 0 0) ∧ H' = AH.of [] := by
  refine Runs.ends ?_
  refine runs_by (tbl := []) (by simp) 0 3 (af := a19) rfl ?_
  rw [a19, b19, run_eq]
  refine ⟨by simp, ?_⟩
  simp (implicitDefEqProofs := false) [forms54, a54, b54, forms46, a46, b46]
  refine ends_plan [] [] ?_ ?_ ?_ <;> simp
def pn19 : PStep
  | [.pointer none, .int .i64 _] => some (True, .slice none 0 0)
  | _ => none
theorem sn19_ok : CStepOk Tryz.prog cfg 19 (pureStep pn19) := pure_ok fun args p v h hp => by
  unfold pn19 at h
  split at h
  · cases h; exact ⟨rfl, rfl, runs_nil19 _⟩
  · cases h
set_option maxHeartbeats 4000000 in
theorem runs_nil25 (t : Int) : Runs Tryz.prog cfg 25 [.pointer none, .int .i64 t] (AH.of []) fun r H' => r = .ret (.bool false) ∧ H' = AH.of [] := by
  refine Runs.ends ?_
  refine runs_by (tbl := []) (by simp) 0 3 (af := a25) rfl ?_
  rw [a25, b25, run_eq]
  refine ⟨by simp, ?_⟩
  simp (implicitDefEqProofs := false) [forms54, a54, b54, forms46, a46, b46]
  refine ends_plan [] [] ?_ ?_ ?_ <;> simp
def pn25 : PStep
  | [.pointer none, .int .i64 _] => some (True, .bool false)
  | _ => none
theorem sn25_ok : CStepOk Tryz.prog cfg 25 (pureStep pn25) := pure_ok fun args p v h hp => by
  unfold pn25 at h
  split at h
  · cases h; exact ⟨rfl, rfl, runs_nil25 _⟩
  · cases h
set_option maxHeartbeats 4000000 in
theorem runs_nil40 (t : Int) : Runs Tryz.prog cfg 40 [.pointer none, .int .i64 t] (AH.of []) fun r H' => r = .ret (.bool false) ∧ H' = AH.of [] := by
  refine Runs.ends ?_
  refine runs_by (tbl := []) (by simp) 0 3 (af := a40) rfl ?_
  rw [a40, b40, run_eq]
  refine ⟨by simp, ?_⟩
  simp (implicitDefEqProofs := false) [forms54, a54, b54, forms46, a46, b46]
  refine ends_plan [] [] ?_ ?_ ?_ <;> simp
def pn40 : PStep
  | [.pointer none, .int .i64 _] => some (True, .bool false)
  | _ => none
theorem sn40_ok : CStepOk Tryz.prog cfg 40 (pureStep pn40) := pure_ok fun args p v h hp => by
  unfold pn40 at h
  split at h
  · cases h; exact ⟨rfl, rfl, runs_nil40 _⟩
  · cases h
set_option maxHeartbeats 4000000 in
theorem runs_nil17 : Runs Tryz.prog cfg 17 [.pointer none] (AH.of []) fun r H' => r = .ret (.int .u64 0) ∧ H' = AH.of [] := by
  refine Runs.ends ?_
  refine runs_by (tbl := []) (by simp) 0 3 (af := a17) rfl ?_
  rw [a17, b17, run_eq]
  refine ⟨by simp, ?_⟩
  simp (implicitDefEqProofs := false) [forms54, a54, b54, forms46, a46, b46]
  refine ends_plan [] [] ?_ ?_ ?_ <;> simp
def pn17 : PStep
  | [.pointer none] => some (True, .int .u64 0)
  | _ => none
theorem sn17_ok : CStepOk Tryz.prog cfg 17 (pureStep pn17) := pure_ok fun args p v h hp => by
  unfold pn17 at h
  split at h
  · cases h; exact ⟨rfl, rfl, runs_nil17⟩
  · cases h
set_option maxHeartbeats 4000000 in
theorem runs_nil33 : Runs Tryz.prog cfg 33 [.pointer none] (AH.of []) fun r H' => r = .ret (.pointer none) ∧ H' = AH.of [] := by
  refine Runs.ends ?_
  refine runs_by (tbl := []) (by simp) 0 3 (af := a33) rfl ?_
  rw [a33, b33, run_eq]
  refine ⟨by simp, ?_⟩
  simp (implicitDefEqProofs := false) [forms54, a54, b54, forms46, a46, b46]
  refine ends_plan [] [] ?_ ?_ ?_ <;> simp
def pn33 : PStep
  | [.pointer none] => some (True, .pointer none)
  | _ => none
theorem sn33_ok : CStepOk Tryz.prog cfg 33 (pureStep pn33) := pure_ok fun args p v h hp => by
  unfold pn33 at h
  split at h
  · cases h; exact ⟨rfl, rfl, runs_nil33⟩
  · cases h
set_option maxHeartbeats 4000000 in
theorem runs_nil24 : Runs Tryz.prog cfg 24 [.pointer none] (AH.of []) fun r H' => r = .ret (.slice none 0 0) ∧ H' = AH.of [] := by
  refine Runs.ends ?_
  refine runs_by (tbl := []) (by simp) 0 3 (af := a24) rfl ?_
  rw [a24, b24, run_eq]
  refine ⟨by simp, ?_⟩
  simp (implicitDefEqProofs := false) [forms54, a54, b54, forms46, a46, b46]
  refine ends_plan [] [] ?_ ?_ ?_ <;> simp
def pn24 : PStep
  | [.pointer none] => some (True, .slice none 0 0)
  | _ => none
theorem sn24_ok : CStepOk Tryz.prog cfg 24 (pureStep pn24) := pure_ok fun args p v h hp => by
  unfold pn24 at h
  split at h
  · cases h; exact ⟨rfl, rfl, runs_nil24⟩
  · cases h
def heapedB (h : List Int) : Bool := decide (1 ≤ h.length) && decide (h.length ≤ 12) && h.all rightB
def tblHp : List (FuncId × CStep GD) := [(97, st97)]
theorem tblHp_ok : ∀ x ∈ tblHp, CStepOk Tryz.prog cfg x.1 x.2 := by simp [tblHp, st97_ok]
set_option maxHeartbeats 4000000 in
theorem runs37 (h : List Int) (tg : Nat) (hv : ∀ v ∈ h, 0 ≤ v ∧ v < 18446744073709551616) : Runs Tryz.prog cfg 37 [.slice (some ⟨0, 0, none⟩) h.length tg] (AH.of [some (.ro (us h))])
    fun r H' => r = .ret (.bool (heapedB h)) ∧ H' = AH.of [some (.ro (us h))] := by
  refine Runs.ends ?_
  obtain ⟨n, hn⟩ : ∃ n, h.length = n := ⟨_, rfl⟩
  rw [hn]
  refine runs_by (tbl := tblHp) tblHp_ok 13 0 (af := a37) rfl ?_
  rw [a37, b37, run_eq]
  refine ⟨by simp, ?_⟩
  by_cases h1 : n < 1
  · have hb : heapedB h = false := by simp [heapedB, hn]; omega
    have h1' : (n : Int) < 1 := by omega
    simp (implicitDefEqProofs := false) [h1', hb]
    refine ends_plan [] [0] ?_ ?_ ?_ <;> simp
  by_cases h2 : 12 < n
  · have hb : heapedB h = false := by simp [heapedB, hn]; omega
    have h1' : ¬ (n : Int) < 1 := by omega
    have h2' : (12 : Int) < n := by omega
    simp (implicitDefEqProofs := false) [h1', h2', hb]
    refine ends_plan [] [0] ?_ ?_ ?_ <;> simp
  have h1' : ¬ (n : Int) < 1 := by omega
  have h2' : ¬ (12 : Int) < n := by omega
  simp (implicitDefEqProofs := false) [h1', h2']
  refine loop_inv (sg_mono gX_ok (tabS_ok tblHp_ok) _ _ noY noY_mono) (fun m tm H => ∃ i : Nat, m + i = n ∧ (∀ j v, j < i → h[j]? = some v → rightB v = true) ∧ tm 0 = .slice (some ⟨0, 0, none⟩) n tg ∧ tm 3 = .int .i64 i ∧ H = AH.of [some (.ro (us h))]) (m := n) ⟨0, by simp⟩ (by omega) ?_
  rintro m tm H ⟨i, hm, hall, t0, t3, rfl⟩
  by_cases hi : i < n
  · obtain ⟨x, hx⟩ : ∃ x, h[i]? = some x := ⟨h[i]'(by omega), List.getElem?_eq_getElem (by omega)⟩
    have hi' : (i : Int) < n := by omega
    have hwr := inc_i64 hi (by omega)
    have ux := us_at hx
    have hxv := hv x (List.mem_of_getElem? hx)
    cases hr : rightB x with
    | true =>
      have hall2 : ∀ j v, j < i + 1 → h[j]? = some v → rightB v = true := fun j v hj hv => by
        by_cases e : j = i
        · subst e; rw [hx] at hv; cases hv; exact hr
        · exact hall j v (by omega) hv
      simp (implicitDefEqProofs := false) [tblHp, st97, t0, t3, hi, hi', hwr, ux, hxv, hr]
      exact ⟨m - 1, by omega, i + 1, by omega, hall2, by simp [t0]⟩
    | false =>
      have hb : heapedB h = false := by
        have : h.all rightB = false := by
          rw [List.all_eq_false]
          exact ⟨x, List.mem_of_getElem? hx, by simp [hr]⟩
        simp [heapedB, this]
      simp (implicitDefEqProofs := false) [tblHp, st97, t0, t3, hi, hi', hwr, ux, hxv, hr, hb]
      refine ends_plan [] [0] ?_ ?_ ?_ <;> simp
  · have hi' : ¬ (i : Int) < n := by omega
    have hb : heapedB h = true := by
      have : h.all rightB = true := by
        rw [List.all_eq_true]
        intro v hv
        obtain ⟨j, hj⟩ := List.getElem?_of_mem hv
        have := (List.getElem?_eq_some_iff.1 hj).1
        exact hall j v (by omega) hj
      simp [heapedB, this, hn]; omega
    simp (implicitDefEqProofs := false) [t0, t3, hi', hb]
    refine ends_plan [] [0] ?_ ?_ ?_ <;> simp
theorem heaped_parts {h : List Int} (hb : heapedB h = true) : (1 ≤ h.length ∧ h.length ≤ 12) ∧ ∀ v ∈ h, rightB v = true := by
  unfold heapedB at hb
  simp only [Bool.and_eq_true, decide_eq_true_eq, List.all_eq_true] at hb
  exact ⟨hb.1, hb.2⟩
theorem runs_no41 (n : Int) (hn : ¬ (1 ≤ n ∧ n ≤ 8)) : Runs Tryz.prog cfg 41 [.int .i64 n] (AH.of [])
    fun r H' => r = .ret (.pointer none) ∧ H' = AH.of [] := by
  refine Runs.ends ?_
  refine runs_by (tbl := []) (by simp) 0 0 (af := a41) rfl ?_
  rw [a41, b41, run_eq]
  refine ⟨by simp, ?_⟩
  by_cases h1 : n < 1
  · simp (implicitDefEqProofs := false) [h1]
    refine ends_plan [] [] ?_ ?_ ?_ <;> simp
  · have h2 : 8 < n := by omega
    simp (implicitDefEqProofs := false) [h1, h2]
    refine ends_plan [] [] ?_ ?_ ?_ <;> simp
theorem runs_no38 (n : Int) (hn : ¬ (1 ≤ n ∧ n ≤ 8)) : Runs Tryz.prog cfg 38 [.int .i64 n] (AH.of [])
    fun r H' => r = .ret (.pointer none) ∧ H' = AH.of [] := by
  refine Runs.ends ?_
  refine runs_by (tbl := []) (by simp) 0 0 (af := a38) rfl ?_
  rw [a38, b38, run_eq]
  refine ⟨by simp, ?_⟩
  by_cases h1 : n < 1
  · simp (implicitDefEqProofs := false) [h1]
    refine ends_plan [] [] ?_ ?_ ?_ <;> simp
  · have h2 : 8 < n := by omega
    simp (implicitDefEqProofs := false) [h1, h2]
    refine ends_plan [] [] ?_ ?_ ?_ <;> simp
def stN41 : CStep GD := fun args H => match args with
  | [.int .i64 n] => some (¬ (1 ≤ n ∧ n ≤ 8), .ret (.pointer none), H)
  | _ => none
theorem stN41_ok : CStepOk Tryz.prog cfg 41 stN41 := by
  intro args H p r H' h hp
  unfold stN41 at h
  split at h
  case h_2 => cases h
  cases h
  exact (runs_no41 _ hp).atK (ro_none rfl) [] (by simp) (by simp) trivial (by simp) (by simp) (by simp [AObj.ren])
def stN38 : CStep GD := fun args H => match args with
  | [.int .i64 n] => some (¬ (1 ≤ n ∧ n ≤ 8), .ret (.pointer none), H)
  | _ => none
theorem stN38_ok : CStepOk Tryz.prog cfg 38 stN38 := by
  intro args H p r H' h hp
  unfold stN38 at h
  split at h
  case h_2 => cases h
  cases h
  exact (runs_no38 _ hp).atK (ro_none rfl) [] (by simp) (by simp) trivial (by simp) (by simp) (by simp [AObj.ren])
set_option maxHeartbeats 4000000 in
theorem truns_new_no1 (h : List Int) (tg m : Nat) (hm : 1 ≤ m ∧ m ≤ 8) (hb : heapedB h = false) : Runs Tryz.prog cfg 10 [.slice (some ⟨0, 0, none⟩) h.length tg, .int .i64 m] (AH.of [some (.ro (us h))])
    fun r H' => r = .ret (.pointer none) ∧ H' = AH.of [some (.ro (us h))] := by
  refine Runs.ends ?_
  obtain ⟨n, hn⟩ : ∃ n, h.length = n := ⟨_, rfl⟩
  have hm1 : (1 : Int) ≤ m := by omega
  have hm2 : (m : Int) ≤ 8 := by omega
  rw [hn]
  refine runs_by (tbl := tblNt) tblNt_ok 13 4 (af := a10) rfl ?_
  rw [a10, b10, run_eq]
  refine ⟨by simp, ?_⟩
  by_cases h1 : n < 1
  · have z1 : (n : Int) < 1 := by omega
    simp (implicitDefEqProofs := false) [tblNt, st41, z1, hm1, hm2]
    refine ends_plan [] [0] ?_ ?_ ?_ <;> simp
  by_cases h2 : 12 < n
  · have z1 : ¬ (n : Int) < 1 := by omega
    have z2 : (12 : Int) < n := by omega
    simp (implicitDefEqProofs := false) [tblNt, st41, z1, z2, hm1, hm2]
    refine ends_plan [] [0] ?_ ?_ ?_ <;> simp
  have z1 : ¬ (n : Int) < 1 := by omega
  have z2 : ¬ (12 : Int) < n := by omega
  simp (implicitDefEqProofs := false) [tblNt, st41, forms44, a44, b44, forms105, a105, b105, z1, z2, hm1, hm2]
  refine loop_inv (sg_mono gX_ok (tabS_ok tblNt_ok) _ _ noY noY_mono) (fun mm tm H => ∃ i : Nat, mm + i = n ∧ (∀ j v, j < i → h[j]? = some v → rightB v = true) ∧ tm 0 = .slice (some ⟨0, 0, none⟩) n tg ∧ tm 1 = .func (.func 42) #[] #[] ∧ tm 7 = .int .i64 n ∧ tm 8 = .int .i64 i ∧ H = AH.of [some (.ro (us h)), some (.hi (.tab (newL m) 0))]) (m := n) ⟨0, by simp⟩ (by omega) ?_
  rintro mm tm H ⟨i, hmm, hall, t0, t1, t7, t8, rfl⟩
  by_cases hi : i < n
  · obtain ⟨x, hx⟩ : ∃ x, h[i]? = some x := ⟨h[i]'(by omega), List.getElem?_eq_getElem (by omega)⟩
    have hi' : (i : Int) < n := by omega
    have hwr := inc_i64 hi (by omega)
    have ux := us_at hx
    cases hr : rightB x with
    | true =>
      have hall2 : ∀ j v, j < i + 1 → h[j]? = some v → rightB v = true := fun j v hj hv => by
        by_cases e : j = i
        · subst e; rw [hx] at hv; cases hv; exact hr
        · exact hall j v (by omega) hv
      simp (implicitDefEqProofs := false) [tblNt, st43, forms42, a42, b42, t0, t1, t7, t8, hi, hi', ux, hr, hwr]
      exact ⟨mm - 1, by omega, i + 1, by omega, hall2, by omega⟩
    | false =>
      have hne : ¬ (i : Int) < 0 := by omega
      simp (implicitDefEqProofs := false) [tblNt, st43, forms42, a42, b42, t0, t1, t7, t8, hi, hi', ux, hr, hwr, hne]
      refine ends_plan [] [0] ?_ ?_ ?_ <;> simp
  · exfalso
    have : h.all rightB = true := by
      rw [List.all_eq_true]
      intro v hv
      obtain ⟨j, hj⟩ := List.getElem?_of_mem hv
      have := (List.getElem?_eq_some_iff.1 hj).1
      exact hall j v (by omega) hj
    have : heapedB h = true := by simp [heapedB, this, hn]; omega
    rw [hb] at this; cases this
def tblNo : List (FuncId × CStep GD) := [(43, st43), (41, stN41)]
theorem tblNo_ok : ∀ x ∈ tblNo, CStepOk Tryz.prog cfg x.1 x.2 := by simp [tblNo, st43_ok, stN41_ok]
set_option maxHeartbeats 4000000 in
theorem truns_new_no2 (h : List Int) (tg : Nat) (m : Int) (hm : ¬ (1 ≤ m ∧ m ≤ 8)) : Runs Tryz.prog cfg 10 [.slice (some ⟨0, 0, none⟩) h.length tg, .int .i64 m] (AH.of [some (.ro (us h))])
    fun r H' => r = .ret (.pointer none) ∧ H' = AH.of [some (.ro (us h))] := by
  refine Runs.ends ?_
  obtain ⟨n, hn⟩ : ∃ n, h.length = n := ⟨_, rfl⟩
  have hm' : 1 ≤ m → 8 < m := by omega
  rw [hn]
  refine runs_by (tbl := tblNo) tblNo_ok 13 4 (af := a10) rfl ?_
  rw [a10, b10, run_eq]
  refine ⟨by simp, ?_⟩
  by_cases h1 : n < 1
  · have z1 : (n : Int) < 1 := by omega
    simp (implicitDefEqProofs := false) [tblNo, stN41, z1]
    exact ⟨hm', by refine ends_plan [] [0] ?_ ?_ ?_ <;> simp⟩
  by_cases h2 : 12 < n
  · have z1 : ¬ (n : Int) < 1 := by omega
    have z2 : (12 : Int) < n := by omega
    simp (implicitDefEqProofs := false) [tblNo, stN41, z1, z2]
    exact ⟨hm', by refine ends_plan [] [0] ?_ ?_ ?_ <;> simp⟩
  have z1 : ¬ (n : Int) < 1 := by omega
  have z2 : ¬ (12 : Int) < n := by omega
  simp (implicitDefEqProofs := false) [tblNo, stN41, forms44, a44, b44, forms105, a105, b105, z1, z2]
  refine ⟨hm', ?_⟩
  refine loop_inv (sg_mono gX_ok (tabS_ok tblNo_ok) _ _ noY noY_mono) (fun mm tm H => ∃ i : Nat, mm + i = n ∧ tm 0 = .slice (some ⟨0, 0, none⟩) n tg ∧ tm 1 = .func (.func 42) #[] #[] ∧ tm 7 = .int .i64 n ∧ tm 8 = .int .i64 i ∧ H = AH.of [some (.ro (us h))]) (m := n) ⟨0, by simp⟩ (by omega) ?_
  rintro mm tm H ⟨i, hmm, t0, t1, t7, t8, rfl⟩
  by_cases hi : i < n
  · obtain ⟨x, hx⟩ : ∃ x, h[i]? = some x := ⟨h[i]'(by omega), List.getElem?_eq_getElem (by omega)⟩
    have hi' : (i : Int) < n := by omega
    have hwr := inc_i64 hi (by omega)
    have ux := us_at hx
    cases hr : rightB x with
    | true =>
      simp (implicitDefEqProofs := false) [tblNo, st43, forms42, a42, b42, t0, t1, t7, t8, hi, hi', ux, hr, hwr]
      exact ⟨mm - 1, by omega, i + 1, by omega, by omega⟩
    | false =>
      have hne : ¬ (i : Int) < 0 := by omega
      simp (implicitDefEqProofs := false) [tblNo, st43, forms42, a42, b42, t0, t1, t7, t8, hi, hi', ux, hr, hwr, hne]
      refine ends_plan [] [0] ?_ ?_ ?_ <;> simp
  · have hi' : ¬ (i : Int) < n := by omega
    simp (implicitDefEqProofs := false) [tblNo, t0, t1, t7, t8, hi']
    refine ends_plan [] [0] ?_ ?_ ?_ <;> simp
def tnewB (l : List Int) (m : Int) : Bool := heapedB l && decide (1 ≤ m) && decide (m ≤ 8)
def stW10 : CStep GD := fun args H => match args with
  | [.slice (some ⟨k, 0, none⟩) n _, .int .i64 m] => match H.get k with
    | some (.ro cs) => (asUs cs).map fun l => (n = l.length, .ret (if tnewB l m = true then .pointer (some ⟨H.next, 0, none⟩) else .pointer none), if tnewB l m = true then H.add (.hi (.teng (newTS l m.toNat))) else H)
    | _ => none
  | _ => none
theorem stW10_ok : CStepOk Tryz.prog cfg 10 stW10 := by
  intro args H p r H' h hp
  unfold stW10 at h
  split at h
  case h_2 => cases h
  split at h
  case h_2 => cases h
  simp only [Option.map_eq_some_iff] at h
  obtain ⟨l, hl, h⟩ := h
  rename_i k n tg m x cs hk
  cases h
  rw [asUs_inv hl] at hk
  rw [hp]
  by_cases hm : 1 ≤ m ∧ m ≤ 8
  · obtain ⟨m, rfl⟩ := Int.eq_ofNat_of_zero_le (show 0 ≤ m by omega)
    have hm' : 1 ≤ m ∧ m ≤ 8 := by omega
    by_cases hb : heapedB l = true
    · obtain ⟨h1, h2⟩ := heaped_parts hb
      have ht : tnewB l m = true := by unfold tnewB; simp [hb]; omega
      rw [if_pos ht, if_pos ht, Int.toNat_natCast]
      exact (truns_new_yes l tg m hm' h1 h2).atK (ro_same fun i cs hi => by rcases i with _ | _ | i <;> simp at hi ⊢; exact hi) [k] (by simp) (by simp) (by simp [hk]) (by simp) (by simp) (by simp [upd_get hk])
    · have hb' : heapedB l = false := by simpa using hb
      have ht : ¬ tnewB l m = true := by unfold tnewB; simp [hb']
      rw [if_neg ht, if_neg ht]
      exact (truns_new_no1 l tg m hm' hb').atK (ro_same fun i cs hi => by rcases i with _ | i <;> simp at hi ⊢; exact hi) [k] (by simp) (by simp) (by simp [hk]) (by simp) (by simp) (by simp [upd_get hk])
  · have ht : ¬ tnewB l m = true := by unfold tnewB; simp; omega
    rw [if_neg ht, if_neg ht]
    exact (truns_new_no2 l tg m hm).atK (ro_same fun i cs hi => by rcases i with _ | i <;> simp at hi ⊢; exact hi) [k] (by simp) (by simp) (by simp [hk]) (by simp) (by simp) (by simp [upd_get hk])
def st37 : CStep GD := fun args H => match args with
  | [.slice (some ⟨k, 0, none⟩) n _] => match H.get k with
    | some (.ro cs) => (asUs cs).map fun l => (n = l.length ∧ ∀ v ∈ l, 0 ≤ v ∧ v < 18446744073709551616, .ret (.bool (heapedB l)), H)
    | _ => none
  | _ => none
theorem st37_ok : CStepOk Tryz.prog cfg 37 st37 := by
  intro args H p r H' h hp
  unfold st37 at h
  split at h
  case h_2 => cases h
  split at h
  case h_2 => cases h
  simp only [Option.map_eq_some_iff] at h
  obtain ⟨l, hl, h⟩ := h
  rename_i k n tg x cs hk
  cases h
  rw [asUs_inv hl] at hk
  rw [hp.1]
  exact (runs37 l tg hp.2).atK (ro_same fun i cs hi => by rcases i with _ | i <;> simp at hi ⊢; exact hi) [k] (by simp) (by simp) (by simp [hk]) (by simp) (by simp) (by simp [upd_get hk])
def tblNn : List (FuncId × CStep GD) := [(13, pureStep pn13), (20, pureStep pn20), (18, pureStep pn18), (14, pureStep pn14), (15, pureStep pn15), (22, pureStep pn22), (21, pureStep pn21), (29, pureStep pn29), (30, pureStep pn30), (27, pureStep pn27), (39, pureStep pn39), (19, pureStep pn19), (25, pureStep pn25), (40, pureStep pn40), (17, pureStep pn17), (33, pureStep pn33), (24, pureStep pn24), (12, st12), (10, stW10), (37, st37), (38, st38)]
theorem tblNn_ok : ∀ x ∈ tblNn, CStepOk Tryz.prog cfg x.1 x.2 := by simp [tblNn, sn13_ok, sn20_ok, sn18_ok, sn14_ok, sn15_ok, sn22_ok, sn21_ok, sn29_ok, sn30_ok, sn27_ok, sn39_ok, sn19_ok, sn25_ok, sn40_ok, sn17_ok, sn33_ok, sn24_ok, st12_ok, stW10_ok, st37_ok, st38_ok]
def tblNm : List (FuncId × CStep GD) := [(13, pureStep pn13), (20, pureStep pn20), (18, pureStep pn18), (14, pureStep pn14), (15, pureStep pn15), (22, pureStep pn22), (21, pureStep pn21), (29, pureStep pn29), (30, pureStep pn30), (27, pureStep pn27), (39, pureStep pn39), (19, pureStep pn19), (25, pureStep pn25), (40, pureStep pn40), (17, pureStep pn17), (33, pureStep pn33), (24, pureStep pn24), (12, st12), (10, stW10), (37, st37), (38, stN38)]
theorem tblNm_ok : ∀ x ∈ tblNm, CStepOk Tryz.prog cfg x.1 x.2 := by simp [tblNm, sn13_ok, sn20_ok, sn18_ok, sn14_ok, sn15_ok, sn22_ok, sn21_ok, sn29_ok, sn30_ok, sn27_ok, sn39_ok, sn19_ok, sn25_ok, sn40_ok, sn17_ok, sn33_ok, sn24_ok, st12_ok, stW10_ok, st37_ok, stN38_ok]
set_option maxRecDepth 20000 in
set_option maxHeartbeats 16000000 in
theorem runs9 (d : Dd) (h : List Int) (tg : Nat) (n : Int) (hv : ∀ v ∈ h, 0 ≤ v ∧ v < 18446744073709551616) : Runs Tryz.prog cfg 9 [.agg d.cells.toArray, .slice (some ⟨0, 0, none⟩) h.length tg, .int .i64 n] (AH.of [some (.ro (us h))])
    fun r H' => r = .ret (.bool true) ∧ H' = AH.of [some (.ro (us h))] := by
  refine Runs.ends ?_
  have hd : d.cells.toArray = #[.int .i64 d.k, .int .i64 d.t, .int .u8 d.a.k, .int .i64 d.a.t, .int .u64 d.a.v] := rfl
  rw [hd]
  by_cases hm : 1 ≤ n ∧ n ≤ 8
  · obtain ⟨hm1, hm2⟩ := hm
    refine runs_by (tbl := tblNn) tblNn_ok 0 0 (af := a9) rfl ?_
    rw [a9, b9, run_eq]
    refine ⟨by simp, ?_⟩
    cases hb : heapedB h with
    | true =>
      have ht : tnewB h n = true := by unfold tnewB; simp [hb]; omega
      simp (implicitDefEqProofs := false) [tblNn, pureStep, pn13, pn20, pn18, pn14, pn15, pn22, pn21, pn29, pn30, pn27, pn39, pn19, pn25, pn40, pn17, pn33, pn24, st12, stW10, st37, st38, hb, ht, hm1, hm2, aggOf2, aeqF, partOf, eqInt]
      exact ⟨hv, by refine ends_plan [] [0] ?_ ?_ ?_ <;> simp⟩
    | false =>
      have ht : tnewB h n = false := by unfold tnewB; simp [hb]
      simp (implicitDefEqProofs := false) [tblNn, pureStep, pn13, pn20, pn18, pn14, pn15, pn22, pn21, pn29, pn30, pn27, pn39, pn19, pn25, pn40, pn17, pn33, pn24, st12, stW10, st37, hb, ht, aggOf2, aeqF, partOf, eqInt]
      exact ⟨hv, by refine ends_plan [] [0] ?_ ?_ ?_ <;> simp⟩
  · have ht : tnewB h n = false := by unfold tnewB; simp; omega
    have hm' : 1 ≤ n → 8 < n := by omega
    refine runs_by (tbl := tblNm) tblNm_ok 0 0 (af := a9) rfl ?_
    rw [a9, b9, run_eq]
    refine ⟨by simp, ?_⟩
    cases hb : heapedB h with
    | true =>
      simp (implicitDefEqProofs := false) [tblNm, pureStep, pn13, pn20, pn18, pn14, pn15, pn22, pn21, pn29, pn30, pn27, pn39, pn19, pn25, pn40, pn17, pn33, pn24, st12, stW10, st37, stN38, hb, ht, aggOf2, aeqF, partOf, eqInt]
      exact ⟨hv, hm', by refine ends_plan [] [0] ?_ ?_ ?_ <;> simp⟩
    | false =>
      simp (implicitDefEqProofs := false) [tblNm, pureStep, pn13, pn20, pn18, pn14, pn15, pn22, pn21, pn29, pn30, pn27, pn39, pn19, pn25, pn40, pn17, pn33, pn24, st12, stW10, st37, stN38, hb, ht, aggOf2, aeqF, partOf, eqInt]
      exact ⟨hv, by refine ends_plan [] [0] ?_ ?_ ?_ <;> simp⟩
end YtapbabkndhaemaaGreat
end Go.Proofs
