/-
  NOREC: Step. (Printed by tools/genstep.py.)
-/
import Derived.Test.YtnemoimbeefngaaGreatPR1
set_option linter.unusedSimpArgs false
set_option linter.unusedVariables false
set_option linter.unnecessarySimpa false
set_option linter.unusedSectionVars false
namespace Go.Proofs
namespace YtnemoimbeefngaaGreat
open Go.Abs
set_option linter.unusedSimpArgs false

theorem evs_pair (d e : Ev) : evs [d, e] = [.int .u8 d.k, .int .i64 d.a, .int .i64 d.t, .int .u64 d.v, .int .u8 e.k, .int .i64 e.a, .int .i64 e.t, .int .u64 e.v] := rfl
theorem ev_room2 {n : Nat} (h : n ≤ 100000) : (n + 1 + 1) * 32 ≤ 140737488355328 ∧ n + 1 ≤ 9223372036854775806 := ⟨by omega, Nat.le_trans (Nat.succ_le_succ h) (by decide)⟩
theorem take_evs7 (l : List Ev) (n : Nat) : (evs l ++ ([.int .u8 7, .int .i64 n, .int .i64 0, .int .u64 0] : List Value)).take ((l.length + 1) * 4) = evs l ++ ([.int .u8 7, .int .i64 n, .int .i64 0, .int .u64 0] : List Value) := by
  refine List.take_of_length_le ?_
  rw [List.length_append, evs_length]
  simp only [List.length_cons, List.length_nil]
  omega
theorem rows_cell {l : List Ent} {i : Nat} {e : Ent} (h : l[i]? = some e) : (rows l)[i * 3]? = some (.int .i64 e.t) ∧ (rows l)[i * 3 + 1]? = some (.int .u64 e.v) := by
  have h3 := many_rows h
  have g : ∀ j, j < 3 → (rows l)[i * 3 + j]? = e.cells[j]? := fun j hj => by
    rw [← h3, List.getElem?_take, if_pos hj, List.getElem?_drop]
  exact ⟨g 0 (by omega), g 1 (by omega)⟩
def tblSt : List (FuncId × CStep GD) := [(80, dataSt d80), (137, dataSt d137), (139, dataSt d139), (135, dataSt d135), (94, dataSt d94), (134, dataSt d134),
  (92, st92), (143, st143), (133, st133), (88, dataSt d88), (93, st93), (144, dataSt d144), (145, dataSt d145), (146, dataSt d146), (147, dataSt d147)]
theorem tblSt_ok : ∀ x ∈ tblSt, CStepOk Tryz.prog cfg x.1 x.2 := by simp [tblSt, st80_ok, st137_ok, st139_ok, st135_ok, st94_ok, st134_ok, st92_ok, st143_ok, st133_ok, st88_ok, st93_ok, st144_ok, st145_ok, st146_ok, st147_ok]

set_option maxRecDepth 10000 in
set_option maxHeartbeats 4000000 in
theorem step_a4n (s : NS) (hs : s.Ok) (hev : s.ev.length ≤ 100000) (th : Nat) (hth : th < 4) (a : Att) (ha : s.ts th = some a) (hk : a.asked = true) (hat : a.at_ = 4) (ho : s.o = none) : Runs Tryz.prog cfg 28 [.pointer (some ⟨0, 0, none⟩), .int .i64 th] (AH.of [some (.hi (.eng s))])
    fun r H' => r = .ret (rpNone).v ∧ H' = AH.of [some (.hi (.eng ({ s with ts := setT s.ts th (some { a with seen := s.c, at_ := 5, nx := 0 }) })))] := by
  refine Runs.ends ?_
  generalize hS : (({ s with ts := setT s.ts th (some { a with seen := s.c, at_ := 5, nx := 0 }) }) : NS) = S'
  refine Runs.openEng hth fun es cc hes => ?_
  have ft := find_th hth hes
  have z1 : ¬ (th : Int) < 0 := by omega
  have z2 : ¬ 4 ≤ (th : Int) := by omega
  have hok := hs.ts th a ha
  have hac := ask_cells1 a hk
  have hk0 : ¬ a.ra.k = 0 := by have := (hok.ask hk).1; omega
  have hel : (s.ev.length + 1) * 32 ≤ 140737488355328 ∧ s.ev.length ≤ 9223372036854775806 := by omega
  have t3 := take_evs s.ev
  refine runs_by (tbl := tblSt) tblSt_ok 0 5 (af := a28) rfl ?_
  rw [a28, b28, run_eq]
  refine ⟨by simp, ?_⟩
  simp (implicitDefEqProofs := false) [engL, tblSt, dataSt, forms79, a79, b79, forms83, a83, b83, forms85, a85, b85, forms86, a86, b86, forms136, a136, b136, forms87, a87, b87, forms89, a89, b89, forms90, a90, b90, forms91, a91, b91, forms142, a142, b142, forms138, a138, b138, z1, z2, ha, ft, tptr, slotO_some, frag_att, hac, hk0, hel, t3, evs_length, d80, hat, ho, snapR]
  have htp := tpF_put th s.ts (b := { a with seen := s.c, at_ := 5, nx := 0 }) ha
  rw [← htp] at hes
  subst hS
  have hba : Att.ask { a with seen := s.c, at_ := 5, nx := 0 } = a.ra := by simp [Att.ask, hk]
  rcases th_cases hth with rfl | rfl | rfl | rfl
  · refine ends_plan [.pack (GD.att { a with seen := s.c, at_ := 5, nx := 0 }) 7 [12, 13], .pack (GD.eng ({ s with ts := setT s.ts 0 (some { a with seen := s.c, at_ := 5, nx := 0 }) })) 0 [1, 2, 3, 4, 5, 6, 7, 8, 9, 10]] [0] ?_ ?_ ?_ <;> simp [frag_att, frag_eng, hba, setT, ha, slotO_some, slotO_none, o1, o2, o3, Rp.v, Rp.cells, rpNone, rpErr, rpDone, rpEnd, rpBusy, evs_append, evs_single, us_set, u8s_set, ho] <;> exact hes
  · refine ends_plan [.pack (GD.att { a with seen := s.c, at_ := 5, nx := 0 }) 7 [12, 13], .pack (GD.eng ({ s with ts := setT s.ts 1 (some { a with seen := s.c, at_ := 5, nx := 0 }) })) 0 [1, 2, 3, 4, 5, 6, 8, 7, 9, 10]] [0] ?_ ?_ ?_ <;> simp [frag_att, frag_eng, hba, setT, ha, slotO_some, slotO_none, o1, o2, o3, Rp.v, Rp.cells, rpNone, rpErr, rpDone, rpEnd, rpBusy, evs_append, evs_single, us_set, u8s_set, ho] <;> exact hes
  · refine ends_plan [.pack (GD.att { a with seen := s.c, at_ := 5, nx := 0 }) 7 [12, 13], .pack (GD.eng ({ s with ts := setT s.ts 2 (some { a with seen := s.c, at_ := 5, nx := 0 }) })) 0 [1, 2, 3, 4, 5, 6, 8, 9, 7, 10]] [0] ?_ ?_ ?_ <;> simp [frag_att, frag_eng, hba, setT, ha, slotO_some, slotO_none, o1, o2, o3, Rp.v, Rp.cells, rpNone, rpErr, rpDone, rpEnd, rpBusy, evs_append, evs_single, us_set, u8s_set, ho] <;> exact hes
  · refine ends_plan [.pack (GD.att { a with seen := s.c, at_ := 5, nx := 0 }) 7 [12, 13], .pack (GD.eng ({ s with ts := setT s.ts 3 (some { a with seen := s.c, at_ := 5, nx := 0 }) })) 0 [1, 2, 3, 4, 5, 6, 8, 9, 10, 7]] [0] ?_ ?_ ?_ <;> simp [frag_att, frag_eng, hba, setT, ha, slotO_some, slotO_none, o1, o2, o3, Rp.v, Rp.cells, rpNone, rpErr, rpDone, rpEnd, rpBusy, evs_append, evs_single, us_set, u8s_set, ho] <;> exact hes
set_option maxRecDepth 10000 in
set_option maxHeartbeats 4000000 in
theorem step_a5e (s : NS) (hs : s.Ok) (hev : s.ev.length ≤ 100000) (th : Nat) (hth : th < 4) (a : Att) (ha : s.ts th = some a) (hk : a.asked = true) (hat : a.at_ = 5) (hx : a.nx = a.es.length) : Runs Tryz.prog cfg 28 [.pointer (some ⟨0, 0, none⟩), .int .i64 th] (AH.of [some (.hi (.eng s))])
    fun r H' => r = .ret (rpNone).v ∧ H' = AH.of [some (.hi (.eng ({ s with ts := setT s.ts th (some { a with at_ := 6 }) })))] := by
  refine Runs.ends ?_
  generalize hS : (({ s with ts := setT s.ts th (some { a with at_ := 6 }) }) : NS) = S'
  refine Runs.openEng hth fun es cc hes => ?_
  have ft := find_th hth hes
  have z1 : ¬ (th : Int) < 0 := by omega
  have z2 : ¬ 4 ≤ (th : Int) := by omega
  have hok := hs.ts th a ha
  have hac := ask_cells1 a hk
  have hk0 : ¬ a.ra.k = 0 := by have := (hok.ask hk).1; omega
  have hel : (s.ev.length + 1) * 32 ≤ 140737488355328 ∧ s.ev.length ≤ 9223372036854775806 := by omega
  have t3 := take_evs s.ev
  have hg8 := hok.es.len
  have hgu := hok.es.uniq
  have hx1 : ((a.nx : Int) = (a.es.length : Int)) = True := eq_true (by omega)
  have hx2 : (a.nx = a.es.length) = True := eq_true hx
  refine runs_by (tbl := tblSt) tblSt_ok 0 5 (af := a28) rfl ?_
  rw [a28, b28, run_eq]
  refine ⟨by simp, ?_⟩
  simp (implicitDefEqProofs := false) [engL, tblSt, dataSt, forms79, a79, b79, forms83, a83, b83, forms85, a85, b85, forms86, a86, b86, forms136, a136, b136, forms87, a87, b87, forms89, a89, b89, forms90, a90, b90, forms91, a91, b91, forms142, a142, b142, forms138, a138, b138, z1, z2, ha, ft, tptr, slotO_some, frag_att, hac, hk0, hel, t3, evs_length, st92, hat, hx1, hx2, hg8, hgu]
  have htp := tpF_put th s.ts (b := { a with at_ := 6 }) ha
  rw [← htp] at hes
  subst hS
  have hba : Att.ask { a with at_ := 6 } = a.ra := by simp [Att.ask, hk]
  rcases th_cases hth with rfl | rfl | rfl | rfl
  · refine ends_plan [.pack (GD.att { a with at_ := 6 }) 7 [12, 13], .pack (GD.eng ({ s with ts := setT s.ts 0 (some { a with at_ := 6 }) })) 0 [1, 2, 3, 4, 5, 6, 7, 8, 9, 10]] [0] ?_ ?_ ?_ <;> simp [frag_att, frag_eng, hba, setT, ha, slotO_some, slotO_none, o1, o2, o3, Rp.v, Rp.cells, rpNone, rpErr, rpDone, rpEnd, rpBusy, evs_append, evs_single, us_set, u8s_set] <;> exact hes
  · refine ends_plan [.pack (GD.att { a with at_ := 6 }) 7 [12, 13], .pack (GD.eng ({ s with ts := setT s.ts 1 (some { a with at_ := 6 }) })) 0 [1, 2, 3, 4, 5, 6, 8, 7, 9, 10]] [0] ?_ ?_ ?_ <;> simp [frag_att, frag_eng, hba, setT, ha, slotO_some, slotO_none, o1, o2, o3, Rp.v, Rp.cells, rpNone, rpErr, rpDone, rpEnd, rpBusy, evs_append, evs_single, us_set, u8s_set] <;> exact hes
  · refine ends_plan [.pack (GD.att { a with at_ := 6 }) 7 [12, 13], .pack (GD.eng ({ s with ts := setT s.ts 2 (some { a with at_ := 6 }) })) 0 [1, 2, 3, 4, 5, 6, 8, 9, 7, 10]] [0] ?_ ?_ ?_ <;> simp [frag_att, frag_eng, hba, setT, ha, slotO_some, slotO_none, o1, o2, o3, Rp.v, Rp.cells, rpNone, rpErr, rpDone, rpEnd, rpBusy, evs_append, evs_single, us_set, u8s_set] <;> exact hes
  · refine ends_plan [.pack (GD.att { a with at_ := 6 }) 7 [12, 13], .pack (GD.eng ({ s with ts := setT s.ts 3 (some { a with at_ := 6 }) })) 0 [1, 2, 3, 4, 5, 6, 8, 9, 10, 7]] [0] ?_ ?_ ?_ <;> simp [frag_att, frag_eng, hba, setT, ha, slotO_some, slotO_none, o1, o2, o3, Rp.v, Rp.cells, rpNone, rpErr, rpDone, rpEnd, rpBusy, evs_append, evs_single, us_set, u8s_set] <;> exact hes
set_option maxRecDepth 10000 in
set_option maxHeartbeats 4000000 in
theorem step_a5o (s : NS) (hs : s.Ok) (hev : s.ev.length ≤ 100000) (th : Nat) (hth : th < 4) (a : Att) (ha : s.ts th = some a) (hk : a.asked = true) (e : Ent) (hat : a.at_ = 5) (hx : a.es[a.nx]? = some e) (hsm : sameB ((s.hp[e.t.toNat]?).getD 0) e.v = true) : Runs Tryz.prog cfg 28 [.pointer (some ⟨0, 0, none⟩), .int .i64 th] (AH.of [some (.hi (.eng s))])
    fun r H' => r = .ret (rpNone).v ∧ H' = AH.of [some (.hi (.eng ({ s with ts := setT s.ts th (some { a with at_ := 5, nx := a.nx + 1 }) })))] := by
  refine Runs.ends ?_
  generalize hS : (({ s with ts := setT s.ts th (some { a with at_ := 5, nx := a.nx + 1 }) }) : NS) = S'
  refine Runs.openEng hth fun es cc hes => ?_
  have ft := find_th hth hes
  have z1 : ¬ (th : Int) < 0 := by omega
  have z2 : ¬ 4 ≤ (th : Int) := by omega
  have hok := hs.ts th a ha
  have hac := ask_cells1 a hk
  have hk0 : ¬ a.ra.k = 0 := by have := (hok.ask hk).1; omega
  have hel : (s.ev.length + 1) * 32 ≤ 140737488355328 ∧ s.ev.length ≤ 9223372036854775806 := by omega
  have t3 := take_evs s.ev
  have hg8 := hok.es.len
  have hgu := hok.es.uniq
  have hlt := (List.getElem?_eq_some_iff.1 hx).1
  have hne : ¬ (a.nx : Int) = a.es.length := by omega
  have hlt2 : (a.nx : Int) < a.es.length := by omega
  have her := hok.es.range e (List.mem_of_getElem? hx)
  have het := hok.est e (List.mem_of_getElem? hx)
  obtain ⟨rx, rv⟩ := rows_cell hx
  have hnx := hok.nx
  have hwr : IntKind.i64.wrap ((a.nx : Int) + 1) = ((a.nx + 1 : Nat) : Int) := by rw [wrap_i64 (by omega) (by omega)]; omega
  obtain ⟨y, hy⟩ : ∃ y, s.hp[e.t.toNat]? = some y := ⟨s.hp[e.t.toNat]'(by omega), List.getElem?_eq_getElem (by omega)⟩
  rw [hy, Option.getD_some] at hsm
  have hyv := hs.hv y (List.mem_of_getElem? hy)
  have uy := us_at hy
  refine runs_by (tbl := tblSt) tblSt_ok 0 5 (af := a28) rfl ?_
  rw [a28, b28, run_eq]
  refine ⟨by simp, ?_⟩
  simp (implicitDefEqProofs := false) [engL, tblSt, dataSt, forms79, a79, b79, forms83, a83, b83, forms85, a85, b85, forms86, a86, b86, forms136, a136, b136, forms87, a87, b87, forms89, a89, b89, forms90, a90, b90, forms91, a91, b91, forms142, a142, b142, forms138, a138, b138, z1, z2, ha, ft, tptr, slotO_some, frag_att, hac, hk0, hel, t3, evs_length, st92, st133, hat, hne, hlt, hlt2, hg8, hgu, rx, rv, her, het, uy, hsm, hyv, hwr]
  have htp := tpF_put th s.ts (b := { a with at_ := 5, nx := a.nx + 1 }) ha
  rw [← htp] at hes
  subst hS
  have hba : Att.ask { a with at_ := 5, nx := a.nx + 1 } = a.ra := by simp [Att.ask, hk]
  rcases th_cases hth with rfl | rfl | rfl | rfl
  · refine ends_plan [.pack (GD.att { a with at_ := 5, nx := a.nx + 1 }) 7 [12, 13], .pack (GD.eng ({ s with ts := setT s.ts 0 (some { a with at_ := 5, nx := a.nx + 1 }) })) 0 [1, 2, 3, 4, 5, 6, 7, 8, 9, 10]] [0] ?_ ?_ ?_ <;> simp [frag_att, frag_eng, hba, setT, ha, slotO_some, slotO_none, o1, o2, o3, Rp.v, Rp.cells, rpNone, rpErr, rpDone, rpEnd, rpBusy, evs_append, evs_single, us_set, u8s_set] <;> exact hes
  · refine ends_plan [.pack (GD.att { a with at_ := 5, nx := a.nx + 1 }) 7 [12, 13], .pack (GD.eng ({ s with ts := setT s.ts 1 (some { a with at_ := 5, nx := a.nx + 1 }) })) 0 [1, 2, 3, 4, 5, 6, 8, 7, 9, 10]] [0] ?_ ?_ ?_ <;> simp [frag_att, frag_eng, hba, setT, ha, slotO_some, slotO_none, o1, o2, o3, Rp.v, Rp.cells, rpNone, rpErr, rpDone, rpEnd, rpBusy, evs_append, evs_single, us_set, u8s_set] <;> exact hes
  · refine ends_plan [.pack (GD.att { a with at_ := 5, nx := a.nx + 1 }) 7 [12, 13], .pack (GD.eng ({ s with ts := setT s.ts 2 (some { a with at_ := 5, nx := a.nx + 1 }) })) 0 [1, 2, 3, 4, 5, 6, 8, 9, 7, 10]] [0] ?_ ?_ ?_ <;> simp [frag_att, frag_eng, hba, setT, ha, slotO_some, slotO_none, o1, o2, o3, Rp.v, Rp.cells, rpNone, rpErr, rpDone, rpEnd, rpBusy, evs_append, evs_single, us_set, u8s_set] <;> exact hes
  · refine ends_plan [.pack (GD.att { a with at_ := 5, nx := a.nx + 1 }) 7 [12, 13], .pack (GD.eng ({ s with ts := setT s.ts 3 (some { a with at_ := 5, nx := a.nx + 1 }) })) 0 [1, 2, 3, 4, 5, 6, 8, 9, 10, 7]] [0] ?_ ?_ ?_ <;> simp [frag_att, frag_eng, hba, setT, ha, slotO_some, slotO_none, o1, o2, o3, Rp.v, Rp.cells, rpNone, rpErr, rpDone, rpEnd, rpBusy, evs_append, evs_single, us_set, u8s_set] <;> exact hes
set_option maxRecDepth 10000 in
set_option maxHeartbeats 4000000 in
theorem step_a6y (s : NS) (hs : s.Ok) (hev : s.ev.length ≤ 100000) (th : Nat) (hth : th < 4) (a : Att) (ha : s.ts th = some a) (hk : a.asked = true) (hat : a.at_ = 6) (hc : s.c = a.seen) : Runs Tryz.prog cfg 28 [.pointer (some ⟨0, 0, none⟩), .int .i64 th] (AH.of [some (.hi (.eng s))])
    fun r H' => r = .ret (rpNone).v ∧ H' = AH.of [some (.hi (.eng ({ s with ts := setT s.ts th (some { a with snap := a.seen, at_ := a.back }), ky := s.ky.set a.n (a.seen + 1) })))] := by
  refine Runs.ends ?_
  generalize hS : (({ s with ts := setT s.ts th (some { a with snap := a.seen, at_ := a.back }), ky := s.ky.set a.n (a.seen + 1) }) : NS) = S'
  refine Runs.openEng hth fun es cc hes => ?_
  have ft := find_th hth hes
  have z1 : ¬ (th : Int) < 0 := by omega
  have z2 : ¬ 4 ≤ (th : Int) := by omega
  have hok := hs.ts th a ha
  have hac := ask_cells1 a hk
  have hk0 : ¬ a.ra.k = 0 := by have := (hok.ask hk).1; omega
  have hel : (s.ev.length + 1) * 32 ≤ 140737488355328 ∧ s.ev.length ≤ 9223372036854775806 := by omega
  have t3 := take_evs s.ev
  have hnk : a.n < s.ky.length := by have := hok.n; have := hs.kw; omega
  have hnk2 : (a.n : Int) < s.ky.length := by omega
  have hnk3 : a.n + 1 ≤ s.ky.length := by omega
  have hse := hok.seen
  have hsc := hs.c
  have hw1 : IntKind.u64.wrap (a.seen + 1) = a.seen + 1 := wrap_u64 (by omega) (by omega)
  refine runs_by (tbl := tblSt) tblSt_ok 0 5 (af := a28) rfl ?_
  rw [a28, b28, run_eq]
  refine ⟨by simp, ?_⟩
  simp (implicitDefEqProofs := false) [engL, tblSt, dataSt, forms79, a79, b79, forms83, a83, b83, forms85, a85, b85, forms86, a86, b86, forms136, a136, b136, forms87, a87, b87, forms89, a89, b89, forms90, a90, b90, forms91, a91, b91, forms142, a142, b142, forms138, a138, b138, z1, z2, ha, ft, tptr, slotO_some, frag_att, hac, hk0, hel, t3, evs_length, d134, hat, hc, hnk, hnk2, hnk3, hw1, us_length, us_set]
  have htp := tpF_put th s.ts (b := { a with snap := a.seen, at_ := a.back }) ha
  rw [← htp] at hes
  subst hS
  have hba : Att.ask { a with snap := a.seen, at_ := a.back } = a.ra := by simp [Att.ask, hk]
  rcases th_cases hth with rfl | rfl | rfl | rfl
  · refine ends_plan [.pack (GD.att { a with snap := a.seen, at_ := a.back }) 7 [12, 13], .pack (GD.eng ({ s with ts := setT s.ts 0 (some { a with snap := a.seen, at_ := a.back }), ky := s.ky.set a.n (a.seen + 1) })) 0 [1, 2, 3, 4, 5, 6, 7, 8, 9, 10]] [0] ?_ ?_ ?_ <;> simp [frag_att, frag_eng, hba, setT, ha, slotO_some, slotO_none, o1, o2, o3, Rp.v, Rp.cells, rpNone, rpErr, rpDone, rpEnd, rpBusy, evs_append, evs_single, us_set, u8s_set, hc] <;> exact hes
  · refine ends_plan [.pack (GD.att { a with snap := a.seen, at_ := a.back }) 7 [12, 13], .pack (GD.eng ({ s with ts := setT s.ts 1 (some { a with snap := a.seen, at_ := a.back }), ky := s.ky.set a.n (a.seen + 1) })) 0 [1, 2, 3, 4, 5, 6, 8, 7, 9, 10]] [0] ?_ ?_ ?_ <;> simp [frag_att, frag_eng, hba, setT, ha, slotO_some, slotO_none, o1, o2, o3, Rp.v, Rp.cells, rpNone, rpErr, rpDone, rpEnd, rpBusy, evs_append, evs_single, us_set, u8s_set, hc] <;> exact hes
  · refine ends_plan [.pack (GD.att { a with snap := a.seen, at_ := a.back }) 7 [12, 13], .pack (GD.eng ({ s with ts := setT s.ts 2 (some { a with snap := a.seen, at_ := a.back }), ky := s.ky.set a.n (a.seen + 1) })) 0 [1, 2, 3, 4, 5, 6, 8, 9, 7, 10]] [0] ?_ ?_ ?_ <;> simp [frag_att, frag_eng, hba, setT, ha, slotO_some, slotO_none, o1, o2, o3, Rp.v, Rp.cells, rpNone, rpErr, rpDone, rpEnd, rpBusy, evs_append, evs_single, us_set, u8s_set, hc] <;> exact hes
  · refine ends_plan [.pack (GD.att { a with snap := a.seen, at_ := a.back }) 7 [12, 13], .pack (GD.eng ({ s with ts := setT s.ts 3 (some { a with snap := a.seen, at_ := a.back }), ky := s.ky.set a.n (a.seen + 1) })) 0 [1, 2, 3, 4, 5, 6, 8, 9, 10, 7]] [0] ?_ ?_ ?_ <;> simp [frag_att, frag_eng, hba, setT, ha, slotO_some, slotO_none, o1, o2, o3, Rp.v, Rp.cells, rpNone, rpErr, rpDone, rpEnd, rpBusy, evs_append, evs_single, us_set, u8s_set, hc] <;> exact hes
set_option maxRecDepth 10000 in
set_option maxHeartbeats 4000000 in
theorem step_a6n (s : NS) (hs : s.Ok) (hev : s.ev.length ≤ 100000) (th : Nat) (hth : th < 4) (a : Att) (ha : s.ts th = some a) (hk : a.asked = true) (hat : a.at_ = 6) (hc : ¬ s.c = a.seen) : Runs Tryz.prog cfg 28 [.pointer (some ⟨0, 0, none⟩), .int .i64 th] (AH.of [some (.hi (.eng s))])
    fun r H' => r = .ret (rpNone).v ∧ H' = AH.of [some (.hi (.eng ({ s with ts := setT s.ts th (some { a with at_ := 4 }) })))] := by
  refine Runs.ends ?_
  generalize hS : (({ s with ts := setT s.ts th (some { a with at_ := 4 }) }) : NS) = S'
  refine Runs.openEng hth fun es cc hes => ?_
  have ft := find_th hth hes
  have z1 : ¬ (th : Int) < 0 := by omega
  have z2 : ¬ 4 ≤ (th : Int) := by omega
  have hok := hs.ts th a ha
  have hac := ask_cells1 a hk
  have hk0 : ¬ a.ra.k = 0 := by have := (hok.ask hk).1; omega
  have hel : (s.ev.length + 1) * 32 ≤ 140737488355328 ∧ s.ev.length ≤ 9223372036854775806 := by omega
  have t3 := take_evs s.ev
  refine runs_by (tbl := tblSt) tblSt_ok 0 5 (af := a28) rfl ?_
  rw [a28, b28, run_eq]
  refine ⟨by simp, ?_⟩
  simp (implicitDefEqProofs := false) [engL, tblSt, dataSt, forms79, a79, b79, forms83, a83, b83, forms85, a85, b85, forms86, a86, b86, forms136, a136, b136, forms87, a87, b87, forms89, a89, b89, forms90, a90, b90, forms91, a91, b91, forms142, a142, b142, forms138, a138, b138, z1, z2, ha, ft, tptr, slotO_some, frag_att, hac, hk0, hel, t3, evs_length, d134, hat, hc]
  have htp := tpF_put th s.ts (b := { a with at_ := 4 }) ha
  rw [← htp] at hes
  subst hS
  have hba : Att.ask { a with at_ := 4 } = a.ra := by simp [Att.ask, hk]
  rcases th_cases hth with rfl | rfl | rfl | rfl
  · refine ends_plan [.pack (GD.att { a with at_ := 4 }) 7 [12, 13], .pack (GD.eng ({ s with ts := setT s.ts 0 (some { a with at_ := 4 }) })) 0 [1, 2, 3, 4, 5, 6, 7, 8, 9, 10]] [0] ?_ ?_ ?_ <;> simp [frag_att, frag_eng, hba, setT, ha, slotO_some, slotO_none, o1, o2, o3, Rp.v, Rp.cells, rpNone, rpErr, rpDone, rpEnd, rpBusy, evs_append, evs_single, us_set, u8s_set] <;> exact hes
  · refine ends_plan [.pack (GD.att { a with at_ := 4 }) 7 [12, 13], .pack (GD.eng ({ s with ts := setT s.ts 1 (some { a with at_ := 4 }) })) 0 [1, 2, 3, 4, 5, 6, 8, 7, 9, 10]] [0] ?_ ?_ ?_ <;> simp [frag_att, frag_eng, hba, setT, ha, slotO_some, slotO_none, o1, o2, o3, Rp.v, Rp.cells, rpNone, rpErr, rpDone, rpEnd, rpBusy, evs_append, evs_single, us_set, u8s_set] <;> exact hes
  · refine ends_plan [.pack (GD.att { a with at_ := 4 }) 7 [12, 13], .pack (GD.eng ({ s with ts := setT s.ts 2 (some { a with at_ := 4 }) })) 0 [1, 2, 3, 4, 5, 6, 8, 9, 7, 10]] [0] ?_ ?_ ?_ <;> simp [frag_att, frag_eng, hba, setT, ha, slotO_some, slotO_none, o1, o2, o3, Rp.v, Rp.cells, rpNone, rpErr, rpDone, rpEnd, rpBusy, evs_append, evs_single, us_set, u8s_set] <;> exact hes
  · refine ends_plan [.pack (GD.att { a with at_ := 4 }) 7 [12, 13], .pack (GD.eng ({ s with ts := setT s.ts 3 (some { a with at_ := 4 }) })) 0 [1, 2, 3, 4, 5, 6, 8, 9, 10, 7]] [0] ?_ ?_ ?_ <;> simp [frag_att, frag_eng, hba, setT, ha, slotO_some, slotO_none, o1, o2, o3, Rp.v, Rp.cells, rpNone, rpErr, rpDone, rpEnd, rpBusy, evs_append, evs_single, us_set, u8s_set] <;> exact hes
set_option maxRecDepth 10000 in
set_option maxHeartbeats 4000000 in
theorem step_a4b (s : NS) (hs : s.Ok) (hev : s.ev.length ≤ 100000) (th : Nat) (hth : th < 4) (a : Att) (ha : s.ts th = some a) (hk : a.asked = true) (x : Int) (hat : a.at_ = 4) (ho : s.o = some x) : Runs Tryz.prog cfg 28 [.pointer (some ⟨0, 0, none⟩), .int .i64 th] (AH.of [some (.hi (.eng s))])
    fun r H' => r = .ret (rpBusy x).v ∧ H' = AH.of [some (.hi (.eng (s)))] := by
  refine Runs.ends ?_
  refine Runs.openEng hth fun es cc hes => ?_
  have ft := find_th hth hes
  have z1 : ¬ (th : Int) < 0 := by omega
  have z2 : ¬ 4 ≤ (th : Int) := by omega
  have hok := hs.ts th a ha
  have hac := ask_cells1 a hk
  have hk0 : ¬ a.ra.k = 0 := by have := (hok.ask hk).1; omega
  have hel : (s.ev.length + 1) * 32 ≤ 140737488355328 ∧ s.ev.length ≤ 9223372036854775806 := by omega
  have t3 := take_evs s.ev
  refine runs_by (tbl := tblSt) tblSt_ok 0 5 (af := a28) rfl ?_
  rw [a28, b28, run_eq]
  refine ⟨by simp, ?_⟩
  simp (implicitDefEqProofs := false) [engL, tblSt, dataSt, forms79, a79, b79, forms83, a83, b83, forms85, a85, b85, forms86, a86, b86, forms136, a136, b136, forms87, a87, b87, forms89, a89, b89, forms90, a90, b90, forms91, a91, b91, forms142, a142, b142, forms138, a138, b138, z1, z2, ha, ft, tptr, slotO_some, frag_att, hac, hk0, hel, t3, evs_length, d80, d94, hat, ho, snapR, ownR]
  have hba : True := trivial
  rcases th_cases hth with rfl | rfl | rfl | rfl
  · refine ends_plan [.pack (GD.att a) 7 [12, 13], .pack (GD.eng s) 0 [1, 2, 3, 4, 5, 6, 7, 8, 9, 10]] [0] ?_ ?_ ?_ <;> simp [frag_att, frag_eng, hba, setT, ha, slotO_some, slotO_none, o1, o2, o3, Rp.v, Rp.cells, rpNone, rpErr, rpDone, rpEnd, rpBusy, evs_append, evs_single, us_set, u8s_set, ho, hac, hat] <;> exact hes
  · refine ends_plan [.pack (GD.att a) 7 [12, 13], .pack (GD.eng s) 0 [1, 2, 3, 4, 5, 6, 8, 7, 9, 10]] [0] ?_ ?_ ?_ <;> simp [frag_att, frag_eng, hba, setT, ha, slotO_some, slotO_none, o1, o2, o3, Rp.v, Rp.cells, rpNone, rpErr, rpDone, rpEnd, rpBusy, evs_append, evs_single, us_set, u8s_set, ho, hac, hat] <;> exact hes
  · refine ends_plan [.pack (GD.att a) 7 [12, 13], .pack (GD.eng s) 0 [1, 2, 3, 4, 5, 6, 8, 9, 7, 10]] [0] ?_ ?_ ?_ <;> simp [frag_att, frag_eng, hba, setT, ha, slotO_some, slotO_none, o1, o2, o3, Rp.v, Rp.cells, rpNone, rpErr, rpDone, rpEnd, rpBusy, evs_append, evs_single, us_set, u8s_set, ho, hac, hat] <;> exact hes
  · refine ends_plan [.pack (GD.att a) 7 [12, 13], .pack (GD.eng s) 0 [1, 2, 3, 4, 5, 6, 8, 9, 10, 7]] [0] ?_ ?_ ?_ <;> simp [frag_att, frag_eng, hba, setT, ha, slotO_some, slotO_none, o1, o2, o3, Rp.v, Rp.cells, rpNone, rpErr, rpDone, rpEnd, rpBusy, evs_append, evs_single, us_set, u8s_set, ho, hac, hat] <;> exact hes
end YtnemoimbeefngaaGreat
end Go.Proofs
/-
  NOREC: Step. (Printed by tools/genstep.py.)
-/
set_option linter.unusedSimpArgs false
set_option linter.unusedVariables false
set_option linter.unnecessarySimpa false
set_option linter.unusedSectionVars false
namespace Go.Proofs
namespace YtnemoimbeefngaaGreat
open Go.Abs
set_option linter.unusedSimpArgs false

set_option maxRecDepth 10000 in
set_option maxHeartbeats 4000000 in
theorem step_a5ch (s : NS) (hs : s.Ok) (hev : s.ev.length ≤ 100000) (th : Nat) (hth : th < 4) (a : Att) (ha : s.ts th = some a) (hk : a.asked = true) (e : Ent) (hat : a.at_ = 5) (hx : a.es[a.nx]? = some e) (hsm : sameB ((s.hp[e.t.toNat]?).getD 0) e.v = false) (ho : s.o = some (th : Int)) : Runs Tryz.prog cfg 28 [.pointer (some ⟨0, 0, none⟩), .int .i64 th] (AH.of [some (.hi (.eng s))])
    fun r H' => r = .ret (rpEnd 1).v ∧ H' = AH.of [some (.hi (.eng (endS s th a 1)))] := by
  refine Runs.ends ?_
  generalize hS : ((endS s th a 1) : NS) = S'
  refine Runs.openEng hth fun es cc hes => ?_
  have ft := find_th hth hes
  have z1 : ¬ (th : Int) < 0 := by omega
  have z2 : ¬ 4 ≤ (th : Int) := by omega
  have hok := hs.ts th a ha
  have hac := ask_cells1 a hk
  have hk0 : ¬ a.ra.k = 0 := by have := (hok.ask hk).1; omega
  have hel : (s.ev.length + 1) * 32 ≤ 140737488355328 ∧ s.ev.length ≤ 9223372036854775806 := by omega
  have t3 := take_evs s.ev
  have hg8 := hok.es.len
  have hgu := hok.es.uniq
  have hlt := (List.getElem?_eq_some_iff.1 hx).1
  have hne : ¬ (a.nx : Int) = a.es.length := by omega
  have hlt2 : (a.nx : Int) < a.es.length := by omega
  have her := hok.es.range e (List.mem_of_getElem? hx)
  have het := hok.est e (List.mem_of_getElem? hx)
  obtain ⟨rx, rv⟩ := rows_cell hx
  obtain ⟨y, hy⟩ : ∃ y, s.hp[e.t.toNat]? = some y := ⟨s.hp[e.t.toNat]'(by omega), List.getElem?_eq_getElem (by omega)⟩
  rw [hy, Option.getD_some] at hsm
  have hyv := hs.hv y (List.mem_of_getElem? hy)
  have uy := us_at hy
  have hnw3 : a.n + 1 ≤ s.wy.length := hok.n
  have hcw : IntKind.u64.wrap (s.c - 1) = s.c - 1 := by have h1 := hs.held _ ho; have h2 := hs.c; exact wrap_u64 (by omega) (by omega)
  have hnw := hok.n
  have hnw2 : (a.n : Int) < s.wy.length := by omega
  obtain ⟨es2, hdel, hes2⟩ := del_th hth hes
  refine runs_by (tbl := tblSt) tblSt_ok 0 5 (af := a28) rfl ?_
  rw [a28, b28, run_eq]
  refine ⟨by simp, ?_⟩
  simp (implicitDefEqProofs := false) [engL, tblSt, dataSt, forms79, a79, b79, forms83, a83, b83, forms85, a85, b85, forms86, a86, b86, forms136, a136, b136, forms87, a87, b87, forms89, a89, b89, forms90, a90, b90, forms91, a91, b91, forms142, a142, b142, forms138, a138, b138, z1, z2, ha, ft, tptr, slotO_some, frag_att, hac, hk0, hel, t3, evs_length, st92, st133, hat, hne, hlt, hlt2, hg8, hgu, rx, rv, her, het, uy, hsm, hyv, d135, ho, hnw, hnw2, hnw3, u8s_length, u8s_set, hcw, hdel]
  subst hS
  have hba : True := trivial
  rcases th_cases hth with rfl | rfl | rfl | rfl
  · have ho0 : s.o = some 0 := ho
    refine ends_plan [.nil 100, .pack (GD.eng (endS s 0 a 1)) 0 [1, 2, 3, 19, 5, 6, 20, 8, 9, 10]] [0] ?_ ?_ ?_ <;> simp [frag_att, frag_eng, hba, setT, ha, slotO_some, slotO_none, o1, o2, o3, Rp.v, Rp.cells, rpNone, rpErr, rpDone, rpEnd, rpBusy, evs_append, evs_single, us_set, u8s_set, endS, ho0] <;> exact hes2
  · have ho0 : s.o = some 1 := ho
    refine ends_plan [.nil 100, .pack (GD.eng (endS s 1 a 1)) 0 [1, 2, 3, 19, 5, 6, 8, 20, 9, 10]] [0] ?_ ?_ ?_ <;> simp [frag_att, frag_eng, hba, setT, ha, slotO_some, slotO_none, o1, o2, o3, Rp.v, Rp.cells, rpNone, rpErr, rpDone, rpEnd, rpBusy, evs_append, evs_single, us_set, u8s_set, endS, ho0] <;> exact hes2
  · have ho0 : s.o = some 2 := ho
    refine ends_plan [.nil 100, .pack (GD.eng (endS s 2 a 1)) 0 [1, 2, 3, 19, 5, 6, 8, 9, 20, 10]] [0] ?_ ?_ ?_ <;> simp [frag_att, frag_eng, hba, setT, ha, slotO_some, slotO_none, o1, o2, o3, Rp.v, Rp.cells, rpNone, rpErr, rpDone, rpEnd, rpBusy, evs_append, evs_single, us_set, u8s_set, endS, ho0] <;> exact hes2
  · have ho0 : s.o = some 3 := ho
    refine ends_plan [.nil 100, .pack (GD.eng (endS s 3 a 1)) 0 [1, 2, 3, 19, 5, 6, 8, 9, 10, 20]] [0] ?_ ?_ ?_ <;> simp [frag_att, frag_eng, hba, setT, ha, slotO_some, slotO_none, o1, o2, o3, Rp.v, Rp.cells, rpNone, rpErr, rpDone, rpEnd, rpBusy, evs_append, evs_single, us_set, u8s_set, endS, ho0] <;> exact hes2
set_option maxRecDepth 10000 in
set_option maxHeartbeats 4000000 in
theorem step_a5cf (s : NS) (hs : s.Ok) (hev : s.ev.length ≤ 100000) (th : Nat) (hth : th < 4) (a : Att) (ha : s.ts th = some a) (hk : a.asked = true) (e : Ent) (hat : a.at_ = 5) (hx : a.es[a.nx]? = some e) (hsm : sameB ((s.hp[e.t.toNat]?).getD 0) e.v = false) (ho : ¬ s.o = some (th : Int)) : Runs Tryz.prog cfg 28 [.pointer (some ⟨0, 0, none⟩), .int .i64 th] (AH.of [some (.hi (.eng s))])
    fun r H' => r = .ret (rpEnd 1).v ∧ H' = AH.of [some (.hi (.eng (endS s th a 1)))] := by
  refine Runs.ends ?_
  generalize hS : ((endS s th a 1) : NS) = S'
  refine Runs.openEng hth fun es cc hes => ?_
  have ft := find_th hth hes
  have z1 : ¬ (th : Int) < 0 := by omega
  have z2 : ¬ 4 ≤ (th : Int) := by omega
  have hok := hs.ts th a ha
  have hac := ask_cells1 a hk
  have hk0 : ¬ a.ra.k = 0 := by have := (hok.ask hk).1; omega
  have hel : (s.ev.length + 1) * 32 ≤ 140737488355328 ∧ s.ev.length ≤ 9223372036854775806 := by omega
  have t3 := take_evs s.ev
  have hg8 := hok.es.len
  have hgu := hok.es.uniq
  have hlt := (List.getElem?_eq_some_iff.1 hx).1
  have hne : ¬ (a.nx : Int) = a.es.length := by omega
  have hlt2 : (a.nx : Int) < a.es.length := by omega
  have her := hok.es.range e (List.mem_of_getElem? hx)
  have het := hok.est e (List.mem_of_getElem? hx)
  obtain ⟨rx, rv⟩ := rows_cell hx
  obtain ⟨y, hy⟩ : ∃ y, s.hp[e.t.toNat]? = some y := ⟨s.hp[e.t.toNat]'(by omega), List.getElem?_eq_getElem (by omega)⟩
  rw [hy, Option.getD_some] at hsm
  have hyv := hs.hv y (List.mem_of_getElem? hy)
  have uy := us_at hy
  have hnw3 : a.n + 1 ≤ s.wy.length := hok.n
  have hnw := hok.n
  have hnw2 : (a.n : Int) < s.wy.length := by omega
  obtain ⟨es2, hdel, hes2⟩ := del_th hth hes
  refine runs_by (tbl := tblSt) tblSt_ok 0 5 (af := a28) rfl ?_
  rw [a28, b28, run_eq]
  refine ⟨by simp, ?_⟩
  simp (implicitDefEqProofs := false) [engL, tblSt, dataSt, forms79, a79, b79, forms83, a83, b83, forms85, a85, b85, forms86, a86, b86, forms136, a136, b136, forms87, a87, b87, forms89, a89, b89, forms90, a90, b90, forms91, a91, b91, forms142, a142, b142, forms138, a138, b138, z1, z2, ha, ft, tptr, slotO_some, frag_att, hac, hk0, hel, t3, evs_length, st92, st133, hat, hne, hlt, hlt2, hg8, hgu, rx, rv, her, het, uy, hsm, hyv, d135, ho, hnw, hnw2, hnw3, u8s_length, u8s_set, hdel]
  subst hS
  have hba : True := trivial
  rcases th_cases hth with rfl | rfl | rfl | rfl
  · have ho0 : ¬ s.o = some 0 := ho
    refine ends_plan [.nil 100, .pack (GD.eng (endS s 0 a 1)) 0 [1, 2, 3, 19, 5, 6, 20, 8, 9, 10]] [0] ?_ ?_ ?_ <;> simp [frag_att, frag_eng, hba, setT, ha, slotO_some, slotO_none, o1, o2, o3, Rp.v, Rp.cells, rpNone, rpErr, rpDone, rpEnd, rpBusy, evs_append, evs_single, us_set, u8s_set, endS, ho0] <;> exact hes2
  · have ho0 : ¬ s.o = some 1 := ho
    refine ends_plan [.nil 100, .pack (GD.eng (endS s 1 a 1)) 0 [1, 2, 3, 19, 5, 6, 8, 20, 9, 10]] [0] ?_ ?_ ?_ <;> simp [frag_att, frag_eng, hba, setT, ha, slotO_some, slotO_none, o1, o2, o3, Rp.v, Rp.cells, rpNone, rpErr, rpDone, rpEnd, rpBusy, evs_append, evs_single, us_set, u8s_set, endS, ho0] <;> exact hes2
  · have ho0 : ¬ s.o = some 2 := ho
    refine ends_plan [.nil 100, .pack (GD.eng (endS s 2 a 1)) 0 [1, 2, 3, 19, 5, 6, 8, 9, 20, 10]] [0] ?_ ?_ ?_ <;> simp [frag_att, frag_eng, hba, setT, ha, slotO_some, slotO_none, o1, o2, o3, Rp.v, Rp.cells, rpNone, rpErr, rpDone, rpEnd, rpBusy, evs_append, evs_single, us_set, u8s_set, endS, ho0] <;> exact hes2
  · have ho0 : ¬ s.o = some 3 := ho
    refine ends_plan [.nil 100, .pack (GD.eng (endS s 3 a 1)) 0 [1, 2, 3, 19, 5, 6, 8, 9, 10, 20]] [0] ?_ ?_ ?_ <;> simp [frag_att, frag_eng, hba, setT, ha, slotO_some, slotO_none, o1, o2, o3, Rp.v, Rp.cells, rpNone, rpErr, rpDone, rpEnd, rpBusy, evs_append, evs_single, us_set, u8s_set, endS, ho0] <;> exact hes2
set_option maxRecDepth 10000 in
set_option maxHeartbeats 4000000 in
theorem step_k7h (s : NS) (hs : s.Ok) (hev : s.ev.length ≤ 100000) (th : Nat) (hth : th < 4) (a : Att) (ha : s.ts th = some a) (hk : a.asked = true) (hat : a.at_ < 4) (hk7 : a.ra.k = 7) (ho : s.o = some (th : Int)) : Runs Tryz.prog cfg 28 [.pointer (some ⟨0, 0, none⟩), .int .i64 th] (AH.of [some (.hi (.eng s))])
    fun r H' => r = .ret (rpEnd 4).v ∧ H' = AH.of [some (.hi (.eng (endS s th a 4)))] := by
  refine Runs.ends ?_
  generalize hS : ((endS s th a 4) : NS) = S'
  refine Runs.openEng hth fun es cc hes => ?_
  have ft := find_th hth hes
  have z1 : ¬ (th : Int) < 0 := by omega
  have z2 : ¬ 4 ≤ (th : Int) := by omega
  have hok := hs.ts th a ha
  have hac := ask_cells1 a hk
  have hk0 : ¬ a.ra.k = 0 := by have := (hok.ask hk).1; omega
  have hel : (s.ev.length + 1) * 32 ≤ 140737488355328 ∧ s.ev.length ≤ 9223372036854775806 := by omega
  have t3 := take_evs s.ev
  have hlo : ¬ 4 ≤ (a.at_ : Int) := by omega
  have hlo2 : ¬ 4 ≤ a.at_ := by omega
  have hnw3 : a.n + 1 ≤ s.wy.length := hok.n
  have hcw : IntKind.u64.wrap (s.c - 1) = s.c - 1 := by have h1 := hs.held _ ho; have h2 := hs.c; exact wrap_u64 (by omega) (by omega)
  have hnw := hok.n
  have hnw2 : (a.n : Int) < s.wy.length := by omega
  obtain ⟨es2, hdel, hes2⟩ := del_th hth hes
  refine runs_by (tbl := tblSt) tblSt_ok 0 5 (af := a28) rfl ?_
  rw [a28, b28, run_eq]
  refine ⟨by simp, ?_⟩
  simp (implicitDefEqProofs := false) [engL, tblSt, dataSt, forms79, a79, b79, forms83, a83, b83, forms85, a85, b85, forms86, a86, b86, forms136, a136, b136, forms87, a87, b87, forms89, a89, b89, forms90, a90, b90, forms91, a91, b91, forms142, a142, b142, forms138, a138, b138, z1, z2, ha, ft, tptr, slotO_some, frag_att, hac, hk0, hel, t3, evs_length, hlo, hlo2, hk7, d135, ho, hnw, hnw2, hnw3, u8s_length, u8s_set, hcw, hdel]
  subst hS
  have hba : True := trivial
  rcases th_cases hth with rfl | rfl | rfl | rfl
  · have ho0 : s.o = some 0 := ho
    refine ends_plan [.nil 100, .pack (GD.eng (endS s 0 a 4)) 0 [1, 2, 3, 17, 5, 6, 18, 8, 9, 10]] [0] ?_ ?_ ?_ <;> simp [frag_att, frag_eng, hba, setT, ha, slotO_some, slotO_none, o1, o2, o3, Rp.v, Rp.cells, rpNone, rpErr, rpDone, rpEnd, rpBusy, evs_append, evs_single, us_set, u8s_set, endS, ho0] <;> exact hes2
  · have ho0 : s.o = some 1 := ho
    refine ends_plan [.nil 100, .pack (GD.eng (endS s 1 a 4)) 0 [1, 2, 3, 17, 5, 6, 8, 18, 9, 10]] [0] ?_ ?_ ?_ <;> simp [frag_att, frag_eng, hba, setT, ha, slotO_some, slotO_none, o1, o2, o3, Rp.v, Rp.cells, rpNone, rpErr, rpDone, rpEnd, rpBusy, evs_append, evs_single, us_set, u8s_set, endS, ho0] <;> exact hes2
  · have ho0 : s.o = some 2 := ho
    refine ends_plan [.nil 100, .pack (GD.eng (endS s 2 a 4)) 0 [1, 2, 3, 17, 5, 6, 8, 9, 18, 10]] [0] ?_ ?_ ?_ <;> simp [frag_att, frag_eng, hba, setT, ha, slotO_some, slotO_none, o1, o2, o3, Rp.v, Rp.cells, rpNone, rpErr, rpDone, rpEnd, rpBusy, evs_append, evs_single, us_set, u8s_set, endS, ho0] <;> exact hes2
  · have ho0 : s.o = some 3 := ho
    refine ends_plan [.nil 100, .pack (GD.eng (endS s 3 a 4)) 0 [1, 2, 3, 17, 5, 6, 8, 9, 10, 18]] [0] ?_ ?_ ?_ <;> simp [frag_att, frag_eng, hba, setT, ha, slotO_some, slotO_none, o1, o2, o3, Rp.v, Rp.cells, rpNone, rpErr, rpDone, rpEnd, rpBusy, evs_append, evs_single, us_set, u8s_set, endS, ho0] <;> exact hes2
set_option maxRecDepth 10000 in
set_option maxHeartbeats 4000000 in
theorem step_k7f (s : NS) (hs : s.Ok) (hev : s.ev.length ≤ 100000) (th : Nat) (hth : th < 4) (a : Att) (ha : s.ts th = some a) (hk : a.asked = true) (hat : a.at_ < 4) (hk7 : a.ra.k = 7) (ho : ¬ s.o = some (th : Int)) : Runs Tryz.prog cfg 28 [.pointer (some ⟨0, 0, none⟩), .int .i64 th] (AH.of [some (.hi (.eng s))])
    fun r H' => r = .ret (rpEnd 4).v ∧ H' = AH.of [some (.hi (.eng (endS s th a 4)))] := by
  refine Runs.ends ?_
  generalize hS : ((endS s th a 4) : NS) = S'
  refine Runs.openEng hth fun es cc hes => ?_
  have ft := find_th hth hes
  have z1 : ¬ (th : Int) < 0 := by omega
  have z2 : ¬ 4 ≤ (th : Int) := by omega
  have hok := hs.ts th a ha
  have hac := ask_cells1 a hk
  have hk0 : ¬ a.ra.k = 0 := by have := (hok.ask hk).1; omega
  have hel : (s.ev.length + 1) * 32 ≤ 140737488355328 ∧ s.ev.length ≤ 9223372036854775806 := by omega
  have t3 := take_evs s.ev
  have hlo : ¬ 4 ≤ (a.at_ : Int) := by omega
  have hlo2 : ¬ 4 ≤ a.at_ := by omega
  have hnw3 : a.n + 1 ≤ s.wy.length := hok.n
  have hnw := hok.n
  have hnw2 : (a.n : Int) < s.wy.length := by omega
  obtain ⟨es2, hdel, hes2⟩ := del_th hth hes
  refine runs_by (tbl := tblSt) tblSt_ok 0 5 (af := a28) rfl ?_
  rw [a28, b28, run_eq]
  refine ⟨by simp, ?_⟩
  simp (implicitDefEqProofs := false) [engL, tblSt, dataSt, forms79, a79, b79, forms83, a83, b83, forms85, a85, b85, forms86, a86, b86, forms136, a136, b136, forms87, a87, b87, forms89, a89, b89, forms90, a90, b90, forms91, a91, b91, forms142, a142, b142, forms138, a138, b138, z1, z2, ha, ft, tptr, slotO_some, frag_att, hac, hk0, hel, t3, evs_length, hlo, hlo2, hk7, d135, ho, hnw, hnw2, hnw3, u8s_length, u8s_set, hdel]
  subst hS
  have hba : True := trivial
  rcases th_cases hth with rfl | rfl | rfl | rfl
  · have ho0 : ¬ s.o = some 0 := ho
    refine ends_plan [.nil 100, .pack (GD.eng (endS s 0 a 4)) 0 [1, 2, 3, 17, 5, 6, 18, 8, 9, 10]] [0] ?_ ?_ ?_ <;> simp [frag_att, frag_eng, hba, setT, ha, slotO_some, slotO_none, o1, o2, o3, Rp.v, Rp.cells, rpNone, rpErr, rpDone, rpEnd, rpBusy, evs_append, evs_single, us_set, u8s_set, endS, ho0] <;> exact hes2
  · have ho0 : ¬ s.o = some 1 := ho
    refine ends_plan [.nil 100, .pack (GD.eng (endS s 1 a 4)) 0 [1, 2, 3, 17, 5, 6, 8, 18, 9, 10]] [0] ?_ ?_ ?_ <;> simp [frag_att, frag_eng, hba, setT, ha, slotO_some, slotO_none, o1, o2, o3, Rp.v, Rp.cells, rpNone, rpErr, rpDone, rpEnd, rpBusy, evs_append, evs_single, us_set, u8s_set, endS, ho0] <;> exact hes2
  · have ho0 : ¬ s.o = some 2 := ho
    refine ends_plan [.nil 100, .pack (GD.eng (endS s 2 a 4)) 0 [1, 2, 3, 17, 5, 6, 8, 9, 18, 10]] [0] ?_ ?_ ?_ <;> simp [frag_att, frag_eng, hba, setT, ha, slotO_some, slotO_none, o1, o2, o3, Rp.v, Rp.cells, rpNone, rpErr, rpDone, rpEnd, rpBusy, evs_append, evs_single, us_set, u8s_set, endS, ho0] <;> exact hes2
  · have ho0 : ¬ s.o = some 3 := ho
    refine ends_plan [.nil 100, .pack (GD.eng (endS s 3 a 4)) 0 [1, 2, 3, 17, 5, 6, 8, 9, 10, 18]] [0] ?_ ?_ ?_ <;> simp [frag_att, frag_eng, hba, setT, ha, slotO_some, slotO_none, o1, o2, o3, Rp.v, Rp.cells, rpNone, rpErr, rpDone, rpEnd, rpBusy, evs_append, evs_single, us_set, u8s_set, endS, ho0] <;> exact hes2
end YtnemoimbeefngaaGreat
end Go.Proofs
/-
  NOREC: Step. (Printed by tools/genstep.py.)
-/
set_option linter.unusedSimpArgs false
set_option linter.unusedVariables false
set_option linter.unnecessarySimpa false
set_option linter.unusedSectionVars false
namespace Go.Proofs
namespace YtnemoimbeefngaaGreat
open Go.Abs
set_option linter.unusedSimpArgs false

set_option maxRecDepth 10000 in
set_option maxHeartbeats 4000000 in
theorem step_rg (s : NS) (hs : s.Ok) (hev : s.ev.length ≤ 100000) (th : Nat) (hth : th < 4) (a : Att) (ha : s.ts th = some a) (hk : a.asked = true) (hat : a.at_ < 4) (hk1 : a.ra.k = 1) (v : Int) (hv : getLog a.fs a.ra.t = some v) : Runs Tryz.prog cfg 28 [.pointer (some ⟨0, 0, none⟩), .int .i64 th] (AH.of [some (.hi (.eng s))])
    fun r H' => r = .ret (rpDone v).v ∧ H' = AH.of [some (.hi (.eng (gotS s th (a) v)))] := by
  refine Runs.ends ?_
  generalize hS : ((gotS s th (a) v) : NS) = S'
  refine Runs.openEng hth fun es cc hes => ?_
  have ft := find_th hth hes
  have z1 : ¬ (th : Int) < 0 := by omega
  have z2 : ¬ 4 ≤ (th : Int) := by omega
  have hok := hs.ts th a ha
  have hac := ask_cells1 a hk
  have hk0 : ¬ a.ra.k = 0 := by have := (hok.ask hk).1; omega
  have hel : (s.ev.length + 1) * 32 ≤ 140737488355328 ∧ s.ev.length ≤ 9223372036854775806 := by omega
  have t3 := take_evs s.ev
  have hlo : ¬ 4 ≤ (a.at_ : Int) := by omega
  have hlo2 : ¬ 4 ≤ a.at_ := by omega
  have hgl := hok.fs
  have hra := (hok.ask hk).2.2.1 (.inl hk1)
  refine runs_by (tbl := tblSt) tblSt_ok 0 5 (af := a28) rfl ?_
  rw [a28, b28, run_eq]
  refine ⟨by simp, ?_⟩
  simp (implicitDefEqProofs := false) [engL, tblSt, dataSt, forms79, a79, b79, forms83, a83, b83, forms85, a85, b85, forms86, a86, b86, forms136, a136, b136, forms87, a87, b87, forms89, a89, b89, forms90, a90, b90, forms91, a91, b91, forms142, a142, b142, forms138, a138, b138, z1, z2, ha, ft, tptr, slotO_some, frag_att, hac, hk0, hel, t3, evs_length, d88, hlo, hlo2, hk1, hgl, hv, optR]
  have htp := tpF_put th s.ts (b := { (a) with asked := false }) ha
  rw [← htp] at hes
  subst hS
  have hba : Att.ask { (a) with asked := false } = ⟨0, 0, 0⟩ := by simp [Att.ask, hk]
  rcases th_cases hth with rfl | rfl | rfl | rfl
  · refine ends_plan [.pack (GD.att { (a) with asked := false }) 7 [12, 13], .pack (GD.eng (gotS s 0 (a) v)) 0 [1, 2, 3, 17, 5, 6, 7, 8, 9, 10]] [0] ?_ ?_ ?_ <;> simp [frag_att, frag_eng, hba, setT, ha, slotO_some, slotO_none, o1, o2, o3, Rp.v, Rp.cells, rpNone, rpErr, rpDone, rpEnd, rpBusy, evs_append, evs_single, us_set, u8s_set, gotS] <;> exact hes
  · refine ends_plan [.pack (GD.att { (a) with asked := false }) 7 [12, 13], .pack (GD.eng (gotS s 1 (a) v)) 0 [1, 2, 3, 17, 5, 6, 8, 7, 9, 10]] [0] ?_ ?_ ?_ <;> simp [frag_att, frag_eng, hba, setT, ha, slotO_some, slotO_none, o1, o2, o3, Rp.v, Rp.cells, rpNone, rpErr, rpDone, rpEnd, rpBusy, evs_append, evs_single, us_set, u8s_set, gotS] <;> exact hes
  · refine ends_plan [.pack (GD.att { (a) with asked := false }) 7 [12, 13], .pack (GD.eng (gotS s 2 (a) v)) 0 [1, 2, 3, 17, 5, 6, 8, 9, 7, 10]] [0] ?_ ?_ ?_ <;> simp [frag_att, frag_eng, hba, setT, ha, slotO_some, slotO_none, o1, o2, o3, Rp.v, Rp.cells, rpNone, rpErr, rpDone, rpEnd, rpBusy, evs_append, evs_single, us_set, u8s_set, gotS] <;> exact hes
  · refine ends_plan [.pack (GD.att { (a) with asked := false }) 7 [12, 13], .pack (GD.eng (gotS s 3 (a) v)) 0 [1, 2, 3, 17, 5, 6, 8, 9, 10, 7]] [0] ?_ ?_ ?_ <;> simp [frag_att, frag_eng, hba, setT, ha, slotO_some, slotO_none, o1, o2, o3, Rp.v, Rp.cells, rpNone, rpErr, rpDone, rpEnd, rpBusy, evs_append, evs_single, us_set, u8s_set, gotS] <;> exact hes
set_option maxRecDepth 10000 in
set_option maxHeartbeats 4000000 in
theorem step_r0 (s : NS) (hs : s.Ok) (hev : s.ev.length ≤ 100000) (th : Nat) (hth : th < 4) (a : Att) (ha : s.ts th = some a) (hk : a.asked = true) (hat : a.at_ = 0) (hk1 : a.ra.k = 1) (hv : getLog a.fs a.ra.t = none) (y : Int) (hy : s.hp[a.ra.t.toNat]? = some y) : Runs Tryz.prog cfg 28 [.pointer (some ⟨0, 0, none⟩), .int .i64 th] (AH.of [some (.hi (.eng s))])
    fun r H' => r = .ret (rpNone).v ∧ H' = AH.of [some (.hi (.eng ({ s with ts := setT s.ts th (some { a with val := y, at_ := 1 }) })))] := by
  refine Runs.ends ?_
  generalize hS : (({ s with ts := setT s.ts th (some { a with val := y, at_ := 1 }) }) : NS) = S'
  refine Runs.openEng hth fun es cc hes => ?_
  have ft := find_th hth hes
  have z1 : ¬ (th : Int) < 0 := by omega
  have z2 : ¬ 4 ≤ (th : Int) := by omega
  have hok := hs.ts th a ha
  have hac := ask_cells1 a hk
  have hk0 : ¬ a.ra.k = 0 := by have := (hok.ask hk).1; omega
  have hel : (s.ev.length + 1) * 32 ≤ 140737488355328 ∧ s.ev.length ≤ 9223372036854775806 := by omega
  have t3 := take_evs s.ev
  have hgl := hok.fs
  have hra := (hok.ask hk).2.2.1 (.inl hk1)
  have uy := us_at hy
  refine runs_by (tbl := tblSt) tblSt_ok 0 5 (af := a28) rfl ?_
  rw [a28, b28, run_eq]
  refine ⟨by simp, ?_⟩
  simp (implicitDefEqProofs := false) [engL, tblSt, dataSt, forms79, a79, b79, forms83, a83, b83, forms85, a85, b85, forms86, a86, b86, forms136, a136, b136, forms87, a87, b87, forms89, a89, b89, forms90, a90, b90, forms91, a91, b91, forms142, a142, b142, forms138, a138, b138, z1, z2, ha, ft, tptr, slotO_some, frag_att, hac, hk0, hel, t3, evs_length, d88, hat, hk1, hgl, hv, optR, hra, uy]
  have htp := tpF_put th s.ts (b := { a with val := y, at_ := 1 }) ha
  rw [← htp] at hes
  subst hS
  have hba : Att.ask { a with val := y, at_ := 1 } = a.ra := by simp [Att.ask, hk]
  rcases th_cases hth with rfl | rfl | rfl | rfl
  · refine ends_plan [.pack (GD.att { a with val := y, at_ := 1 }) 7 [12, 13], .pack (GD.eng ({ s with ts := setT s.ts 0 (some { a with val := y, at_ := 1 }) })) 0 [1, 2, 3, 4, 5, 6, 7, 8, 9, 10]] [0] ?_ ?_ ?_ <;> simp [frag_att, frag_eng, hba, setT, ha, slotO_some, slotO_none, o1, o2, o3, Rp.v, Rp.cells, rpNone, rpErr, rpDone, rpEnd, rpBusy, evs_append, evs_single, us_set, u8s_set, hk1] <;> exact hes
  · refine ends_plan [.pack (GD.att { a with val := y, at_ := 1 }) 7 [12, 13], .pack (GD.eng ({ s with ts := setT s.ts 1 (some { a with val := y, at_ := 1 }) })) 0 [1, 2, 3, 4, 5, 6, 8, 7, 9, 10]] [0] ?_ ?_ ?_ <;> simp [frag_att, frag_eng, hba, setT, ha, slotO_some, slotO_none, o1, o2, o3, Rp.v, Rp.cells, rpNone, rpErr, rpDone, rpEnd, rpBusy, evs_append, evs_single, us_set, u8s_set, hk1] <;> exact hes
  · refine ends_plan [.pack (GD.att { a with val := y, at_ := 1 }) 7 [12, 13], .pack (GD.eng ({ s with ts := setT s.ts 2 (some { a with val := y, at_ := 1 }) })) 0 [1, 2, 3, 4, 5, 6, 8, 9, 7, 10]] [0] ?_ ?_ ?_ <;> simp [frag_att, frag_eng, hba, setT, ha, slotO_some, slotO_none, o1, o2, o3, Rp.v, Rp.cells, rpNone, rpErr, rpDone, rpEnd, rpBusy, evs_append, evs_single, us_set, u8s_set, hk1] <;> exact hes
  · refine ends_plan [.pack (GD.att { a with val := y, at_ := 1 }) 7 [12, 13], .pack (GD.eng ({ s with ts := setT s.ts 3 (some { a with val := y, at_ := 1 }) })) 0 [1, 2, 3, 4, 5, 6, 8, 9, 10, 7]] [0] ?_ ?_ ?_ <;> simp [frag_att, frag_eng, hba, setT, ha, slotO_some, slotO_none, o1, o2, o3, Rp.v, Rp.cells, rpNone, rpErr, rpDone, rpEnd, rpBusy, evs_append, evs_single, us_set, u8s_set, hk1] <;> exact hes
set_option maxRecDepth 10000 in
set_option maxHeartbeats 4000000 in
theorem step_r1l (s : NS) (hs : s.Ok) (hev : s.ev.length ≤ 100000) (th : Nat) (hth : th < 4) (a : Att) (ha : s.ts th = some a) (hk : a.asked = true) (hat : a.at_ = 1) (hk1 : a.ra.k = 1) (hv : getLog a.fs a.ra.t = none) (hc : ¬ s.c = a.snap) : Runs Tryz.prog cfg 28 [.pointer (some ⟨0, 0, none⟩), .int .i64 th] (AH.of [some (.hi (.eng s))])
    fun r H' => r = .ret (rpNone).v ∧ H' = AH.of [some (.hi (.eng ({ s with ts := setT s.ts th (some { a with at_ := 4, back := 0 }) })))] := by
  refine Runs.ends ?_
  generalize hS : (({ s with ts := setT s.ts th (some { a with at_ := 4, back := 0 }) }) : NS) = S'
  refine Runs.openEng hth fun es cc hes => ?_
  have ft := find_th hth hes
  have z1 : ¬ (th : Int) < 0 := by omega
  have z2 : ¬ 4 ≤ (th : Int) := by omega
  have hok := hs.ts th a ha
  have hac := ask_cells1 a hk
  have hk0 : ¬ a.ra.k = 0 := by have := (hok.ask hk).1; omega
  have hel : (s.ev.length + 1) * 32 ≤ 140737488355328 ∧ s.ev.length ≤ 9223372036854775806 := by omega
  have t3 := take_evs s.ev
  have hgl := hok.fs
  have hra := (hok.ask hk).2.2.1 (.inl hk1)
  refine runs_by (tbl := tblSt) tblSt_ok 0 5 (af := a28) rfl ?_
  rw [a28, b28, run_eq]
  refine ⟨by simp, ?_⟩
  simp (implicitDefEqProofs := false) [engL, tblSt, dataSt, forms79, a79, b79, forms83, a83, b83, forms85, a85, b85, forms86, a86, b86, forms136, a136, b136, forms87, a87, b87, forms89, a89, b89, forms90, a90, b90, forms91, a91, b91, forms142, a142, b142, forms138, a138, b138, z1, z2, ha, ft, tptr, slotO_some, frag_att, hac, hk0, hel, t3, evs_length, d88, d134, hat, hk1, hgl, hv, optR, hc]
  have htp := tpF_put th s.ts (b := { a with at_ := 4, back := 0 }) ha
  rw [← htp] at hes
  subst hS
  have hba : Att.ask { a with at_ := 4, back := 0 } = a.ra := by simp [Att.ask, hk]
  rcases th_cases hth with rfl | rfl | rfl | rfl
  · refine ends_plan [.pack (GD.att { a with at_ := 4, back := 0 }) 7 [12, 13], .pack (GD.eng ({ s with ts := setT s.ts 0 (some { a with at_ := 4, back := 0 }) })) 0 [1, 2, 3, 4, 5, 6, 7, 8, 9, 10]] [0] ?_ ?_ ?_ <;> simp [frag_att, frag_eng, hba, setT, ha, slotO_some, slotO_none, o1, o2, o3, Rp.v, Rp.cells, rpNone, rpErr, rpDone, rpEnd, rpBusy, evs_append, evs_single, us_set, u8s_set, hk1] <;> exact hes
  · refine ends_plan [.pack (GD.att { a with at_ := 4, back := 0 }) 7 [12, 13], .pack (GD.eng ({ s with ts := setT s.ts 1 (some { a with at_ := 4, back := 0 }) })) 0 [1, 2, 3, 4, 5, 6, 8, 7, 9, 10]] [0] ?_ ?_ ?_ <;> simp [frag_att, frag_eng, hba, setT, ha, slotO_some, slotO_none, o1, o2, o3, Rp.v, Rp.cells, rpNone, rpErr, rpDone, rpEnd, rpBusy, evs_append, evs_single, us_set, u8s_set, hk1] <;> exact hes
  · refine ends_plan [.pack (GD.att { a with at_ := 4, back := 0 }) 7 [12, 13], .pack (GD.eng ({ s with ts := setT s.ts 2 (some { a with at_ := 4, back := 0 }) })) 0 [1, 2, 3, 4, 5, 6, 8, 9, 7, 10]] [0] ?_ ?_ ?_ <;> simp [frag_att, frag_eng, hba, setT, ha, slotO_some, slotO_none, o1, o2, o3, Rp.v, Rp.cells, rpNone, rpErr, rpDone, rpEnd, rpBusy, evs_append, evs_single, us_set, u8s_set, hk1] <;> exact hes
  · refine ends_plan [.pack (GD.att { a with at_ := 4, back := 0 }) 7 [12, 13], .pack (GD.eng ({ s with ts := setT s.ts 3 (some { a with at_ := 4, back := 0 }) })) 0 [1, 2, 3, 4, 5, 6, 8, 9, 10, 7]] [0] ?_ ?_ ?_ <;> simp [frag_att, frag_eng, hba, setT, ha, slotO_some, slotO_none, o1, o2, o3, Rp.v, Rp.cells, rpNone, rpErr, rpDone, rpEnd, rpBusy, evs_append, evs_single, us_set, u8s_set, hk1] <;> exact hes
set_option maxRecDepth 10000 in
set_option maxHeartbeats 4000000 in
theorem step_r1g (s : NS) (hs : s.Ok) (hev : s.ev.length ≤ 100000) (th : Nat) (hth : th < 4) (a : Att) (ha : s.ts th = some a) (hk : a.asked = true) (hat : a.at_ = 1) (hk1 : a.ra.k = 1) (hv : getLog a.fs a.ra.t = none) (hc : s.c = a.snap) (hA : addCode a.es ⟨a.ra.t, a.val, 0⟩ = 0) : Runs Tryz.prog cfg 28 [.pointer (some ⟨0, 0, none⟩), .int .i64 th] (AH.of [some (.hi (.eng s))])
    fun r H' => r = .ret (rpDone a.val).v ∧ H' = AH.of [some (.hi (.eng (gotS s th ({ a with es := addL a.es ⟨a.ra.t, a.val, 0⟩ }) a.val)))] := by
  refine Runs.ends ?_
  generalize hS : ((gotS s th ({ a with es := addL a.es ⟨a.ra.t, a.val, 0⟩ }) a.val) : NS) = S'
  refine Runs.openEng hth fun es cc hes => ?_
  have ft := find_th hth hes
  have z1 : ¬ (th : Int) < 0 := by omega
  have z2 : ¬ 4 ≤ (th : Int) := by omega
  have hok := hs.ts th a ha
  have hac := ask_cells1 a hk
  have hk0 : ¬ a.ra.k = 0 := by have := (hok.ask hk).1; omega
  have hel : (s.ev.length + 1) * 32 ≤ 140737488355328 ∧ s.ev.length ≤ 9223372036854775806 := by omega
  have t3 := take_evs s.ev
  have hgl := hok.fs
  have hra := (hok.ask hk).2.2.1 (.inl hk1)
  have hgu := hok.es.uniq
  have hc1 : (s.c = a.snap) = True := eq_true hc
  have hat1 : ((a.at_ : Int) = 0) = False := eq_false (by omega)
  have hat2 : (a.at_ = 0) = False := eq_false (by omega)
  have hlo : ¬ 4 ≤ (a.at_ : Int) := by omega
  have hlo2 : ¬ 4 ≤ a.at_ := by omega
  refine runs_by (tbl := tblSt) tblSt_ok 0 5 (af := a28) rfl ?_
  rw [a28, b28, run_eq]
  refine ⟨by simp, ?_⟩
  simp (implicitDefEqProofs := false) [engL, tblSt, dataSt, forms79, a79, b79, forms83, a83, b83, forms85, a85, b85, forms86, a86, b86, forms136, a136, b136, forms87, a87, b87, forms89, a89, b89, forms90, a90, b90, forms91, a91, b91, forms142, a142, b142, forms138, a138, b138, z1, z2, ha, ft, tptr, slotO_some, frag_att, hac, hk0, hel, t3, evs_length, d88, d134, st143, hat1, hat2, hlo, hlo2, hk1, hgl, hv, optR, hc1, hgu, hA]
  have htp := tpF_put th s.ts (b := { ({ a with es := addL a.es ⟨a.ra.t, a.val, 0⟩ }) with asked := false }) ha
  rw [← htp] at hes
  subst hS
  have hba : Att.ask { ({ a with es := addL a.es ⟨a.ra.t, a.val, 0⟩ }) with asked := false } = ⟨0, 0, 0⟩ := by simp [Att.ask, hk]
  rcases th_cases hth with rfl | rfl | rfl | rfl
  · refine ends_plan [.pack (GD.att { ({ a with es := addL a.es ⟨a.ra.t, a.val, 0⟩ }) with asked := false }) 7 [12, 13], .pack (GD.eng (gotS s 0 ({ a with es := addL a.es ⟨a.ra.t, a.val, 0⟩ }) a.val)) 0 [1, 2, 3, 18, 5, 6, 7, 8, 9, 10]] [0] ?_ ?_ ?_ <;> simp [frag_att, frag_eng, hba, setT, ha, slotO_some, slotO_none, o1, o2, o3, Rp.v, Rp.cells, rpNone, rpErr, rpDone, rpEnd, rpBusy, evs_append, evs_single, us_set, u8s_set, gotS] <;> exact hes
  · refine ends_plan [.pack (GD.att { ({ a with es := addL a.es ⟨a.ra.t, a.val, 0⟩ }) with asked := false }) 7 [12, 13], .pack (GD.eng (gotS s 1 ({ a with es := addL a.es ⟨a.ra.t, a.val, 0⟩ }) a.val)) 0 [1, 2, 3, 18, 5, 6, 8, 7, 9, 10]] [0] ?_ ?_ ?_ <;> simp [frag_att, frag_eng, hba, setT, ha, slotO_some, slotO_none, o1, o2, o3, Rp.v, Rp.cells, rpNone, rpErr, rpDone, rpEnd, rpBusy, evs_append, evs_single, us_set, u8s_set, gotS] <;> exact hes
  · refine ends_plan [.pack (GD.att { ({ a with es := addL a.es ⟨a.ra.t, a.val, 0⟩ }) with asked := false }) 7 [12, 13], .pack (GD.eng (gotS s 2 ({ a with es := addL a.es ⟨a.ra.t, a.val, 0⟩ }) a.val)) 0 [1, 2, 3, 18, 5, 6, 8, 9, 7, 10]] [0] ?_ ?_ ?_ <;> simp [frag_att, frag_eng, hba, setT, ha, slotO_some, slotO_none, o1, o2, o3, Rp.v, Rp.cells, rpNone, rpErr, rpDone, rpEnd, rpBusy, evs_append, evs_single, us_set, u8s_set, gotS] <;> exact hes
  · refine ends_plan [.pack (GD.att { ({ a with es := addL a.es ⟨a.ra.t, a.val, 0⟩ }) with asked := false }) 7 [12, 13], .pack (GD.eng (gotS s 3 ({ a with es := addL a.es ⟨a.ra.t, a.val, 0⟩ }) a.val)) 0 [1, 2, 3, 18, 5, 6, 8, 9, 10, 7]] [0] ?_ ?_ ?_ <;> simp [frag_att, frag_eng, hba, setT, ha, slotO_some, slotO_none, o1, o2, o3, Rp.v, Rp.cells, rpNone, rpErr, rpDone, rpEnd, rpBusy, evs_append, evs_single, us_set, u8s_set, gotS] <;> exact hes
set_option maxRecDepth 10000 in
set_option maxHeartbeats 4000000 in
theorem step_r1fh (s : NS) (hs : s.Ok) (hev : s.ev.length ≤ 100000) (th : Nat) (hth : th < 4) (a : Att) (ha : s.ts th = some a) (hk : a.asked = true) (hat : a.at_ = 1) (hk1 : a.ra.k = 1) (hv : getLog a.fs a.ra.t = none) (hc : s.c = a.snap) (hA : ¬ addCode a.es ⟨a.ra.t, a.val, 0⟩ = 0) (ho : s.o = some (th : Int)) : Runs Tryz.prog cfg 28 [.pointer (some ⟨0, 0, none⟩), .int .i64 th] (AH.of [some (.hi (.eng s))])
    fun r H' => r = .ret (rpEnd 2).v ∧ H' = AH.of [some (.hi (.eng (endS s th a 2)))] := by
  refine Runs.ends ?_
  generalize hS : ((endS s th a 2) : NS) = S'
  refine Runs.openEng hth fun es cc hes => ?_
  have ft := find_th hth hes
  have z1 : ¬ (th : Int) < 0 := by omega
  have z2 : ¬ 4 ≤ (th : Int) := by omega
  have hok := hs.ts th a ha
  have hac := ask_cells1 a hk
  have hk0 : ¬ a.ra.k = 0 := by have := (hok.ask hk).1; omega
  have hel : (s.ev.length + 1) * 32 ≤ 140737488355328 ∧ s.ev.length ≤ 9223372036854775806 := by omega
  have t3 := take_evs s.ev
  have hgl := hok.fs
  have hra := (hok.ask hk).2.2.1 (.inl hk1)
  have hgu := hok.es.uniq
  have hc1 : (s.c = a.snap) = True := eq_true hc
  have hnw3 : a.n + 1 ≤ s.wy.length := hok.n
  have hcw : IntKind.u64.wrap (s.c - 1) = s.c - 1 := by have h1 := hs.held _ ho; have h2 := hs.c; exact wrap_u64 (by omega) (by omega)
  have hnw := hok.n
  have hnw2 : (a.n : Int) < s.wy.length := by omega
  obtain ⟨es2, hdel, hes2⟩ := del_th hth hes
  refine runs_by (tbl := tblSt) tblSt_ok 0 5 (af := a28) rfl ?_
  rw [a28, b28, run_eq]
  refine ⟨by simp, ?_⟩
  simp (implicitDefEqProofs := false) [engL, tblSt, dataSt, forms79, a79, b79, forms83, a83, b83, forms85, a85, b85, forms86, a86, b86, forms136, a136, b136, forms87, a87, b87, forms89, a89, b89, forms90, a90, b90, forms91, a91, b91, forms142, a142, b142, forms138, a138, b138, z1, z2, ha, ft, tptr, slotO_some, frag_att, hac, hk0, hel, t3, evs_length, d88, d134, st143, hat, hk1, hgl, hv, optR, hc1, hgu, hA, d135, ho, hnw, hnw2, hnw3, u8s_length, u8s_set, hcw, hdel]
  subst hS
  have hba : True := trivial
  rcases th_cases hth with rfl | rfl | rfl | rfl
  · have ho0 : s.o = some 0 := ho
    refine ends_plan [.nil 100, .pack (GD.eng (endS s 0 a 2)) 0 [1, 2, 3, 18, 5, 6, 19, 8, 9, 10]] [0] ?_ ?_ ?_ <;> simp [frag_att, frag_eng, hba, setT, ha, slotO_some, slotO_none, o1, o2, o3, Rp.v, Rp.cells, rpNone, rpErr, rpDone, rpEnd, rpBusy, evs_append, evs_single, us_set, u8s_set, endS, ho0] <;> exact hes2
  · have ho0 : s.o = some 1 := ho
    refine ends_plan [.nil 100, .pack (GD.eng (endS s 1 a 2)) 0 [1, 2, 3, 18, 5, 6, 8, 19, 9, 10]] [0] ?_ ?_ ?_ <;> simp [frag_att, frag_eng, hba, setT, ha, slotO_some, slotO_none, o1, o2, o3, Rp.v, Rp.cells, rpNone, rpErr, rpDone, rpEnd, rpBusy, evs_append, evs_single, us_set, u8s_set, endS, ho0] <;> exact hes2
  · have ho0 : s.o = some 2 := ho
    refine ends_plan [.nil 100, .pack (GD.eng (endS s 2 a 2)) 0 [1, 2, 3, 18, 5, 6, 8, 9, 19, 10]] [0] ?_ ?_ ?_ <;> simp [frag_att, frag_eng, hba, setT, ha, slotO_some, slotO_none, o1, o2, o3, Rp.v, Rp.cells, rpNone, rpErr, rpDone, rpEnd, rpBusy, evs_append, evs_single, us_set, u8s_set, endS, ho0] <;> exact hes2
  · have ho0 : s.o = some 3 := ho
    refine ends_plan [.nil 100, .pack (GD.eng (endS s 3 a 2)) 0 [1, 2, 3, 18, 5, 6, 8, 9, 10, 19]] [0] ?_ ?_ ?_ <;> simp [frag_att, frag_eng, hba, setT, ha, slotO_some, slotO_none, o1, o2, o3, Rp.v, Rp.cells, rpNone, rpErr, rpDone, rpEnd, rpBusy, evs_append, evs_single, us_set, u8s_set, endS, ho0] <;> exact hes2
set_option maxRecDepth 10000 in
set_option maxHeartbeats 4000000 in
theorem step_r1ff (s : NS) (hs : s.Ok) (hev : s.ev.length ≤ 100000) (th : Nat) (hth : th < 4) (a : Att) (ha : s.ts th = some a) (hk : a.asked = true) (hat : a.at_ = 1) (hk1 : a.ra.k = 1) (hv : getLog a.fs a.ra.t = none) (hc : s.c = a.snap) (hA : ¬ addCode a.es ⟨a.ra.t, a.val, 0⟩ = 0) (ho : ¬ s.o = some (th : Int)) : Runs Tryz.prog cfg 28 [.pointer (some ⟨0, 0, none⟩), .int .i64 th] (AH.of [some (.hi (.eng s))])
    fun r H' => r = .ret (rpEnd 2).v ∧ H' = AH.of [some (.hi (.eng (endS s th a 2)))] := by
  refine Runs.ends ?_
  generalize hS : ((endS s th a 2) : NS) = S'
  refine Runs.openEng hth fun es cc hes => ?_
  have ft := find_th hth hes
  have z1 : ¬ (th : Int) < 0 := by omega
  have z2 : ¬ 4 ≤ (th : Int) := by omega
  have hok := hs.ts th a ha
  have hac := ask_cells1 a hk
  have hk0 : ¬ a.ra.k = 0 := by have := (hok.ask hk).1; omega
  have hel : (s.ev.length + 1) * 32 ≤ 140737488355328 ∧ s.ev.length ≤ 9223372036854775806 := by omega
  have t3 := take_evs s.ev
  have hgl := hok.fs
  have hra := (hok.ask hk).2.2.1 (.inl hk1)
  have hgu := hok.es.uniq
  have hc1 : (s.c = a.snap) = True := eq_true hc
  have hnw3 : a.n + 1 ≤ s.wy.length := hok.n
  have hnw := hok.n
  have hnw2 : (a.n : Int) < s.wy.length := by omega
  obtain ⟨es2, hdel, hes2⟩ := del_th hth hes
  refine runs_by (tbl := tblSt) tblSt_ok 0 5 (af := a28) rfl ?_
  rw [a28, b28, run_eq]
  refine ⟨by simp, ?_⟩
  simp (implicitDefEqProofs := false) [engL, tblSt, dataSt, forms79, a79, b79, forms83, a83, b83, forms85, a85, b85, forms86, a86, b86, forms136, a136, b136, forms87, a87, b87, forms89, a89, b89, forms90, a90, b90, forms91, a91, b91, forms142, a142, b142, forms138, a138, b138, z1, z2, ha, ft, tptr, slotO_some, frag_att, hac, hk0, hel, t3, evs_length, d88, d134, st143, hat, hk1, hgl, hv, optR, hc1, hgu, hA, d135, ho, hnw, hnw2, hnw3, u8s_length, u8s_set, hdel]
  subst hS
  have hba : True := trivial
  rcases th_cases hth with rfl | rfl | rfl | rfl
  · have ho0 : ¬ s.o = some 0 := ho
    refine ends_plan [.nil 100, .pack (GD.eng (endS s 0 a 2)) 0 [1, 2, 3, 18, 5, 6, 19, 8, 9, 10]] [0] ?_ ?_ ?_ <;> simp [frag_att, frag_eng, hba, setT, ha, slotO_some, slotO_none, o1, o2, o3, Rp.v, Rp.cells, rpNone, rpErr, rpDone, rpEnd, rpBusy, evs_append, evs_single, us_set, u8s_set, endS, ho0] <;> exact hes2
  · have ho0 : ¬ s.o = some 1 := ho
    refine ends_plan [.nil 100, .pack (GD.eng (endS s 1 a 2)) 0 [1, 2, 3, 18, 5, 6, 8, 19, 9, 10]] [0] ?_ ?_ ?_ <;> simp [frag_att, frag_eng, hba, setT, ha, slotO_some, slotO_none, o1, o2, o3, Rp.v, Rp.cells, rpNone, rpErr, rpDone, rpEnd, rpBusy, evs_append, evs_single, us_set, u8s_set, endS, ho0] <;> exact hes2
  · have ho0 : ¬ s.o = some 2 := ho
    refine ends_plan [.nil 100, .pack (GD.eng (endS s 2 a 2)) 0 [1, 2, 3, 18, 5, 6, 8, 9, 19, 10]] [0] ?_ ?_ ?_ <;> simp [frag_att, frag_eng, hba, setT, ha, slotO_some, slotO_none, o1, o2, o3, Rp.v, Rp.cells, rpNone, rpErr, rpDone, rpEnd, rpBusy, evs_append, evs_single, us_set, u8s_set, endS, ho0] <;> exact hes2
  · have ho0 : ¬ s.o = some 3 := ho
    refine ends_plan [.nil 100, .pack (GD.eng (endS s 3 a 2)) 0 [1, 2, 3, 18, 5, 6, 8, 9, 10, 19]] [0] ?_ ?_ ?_ <;> simp [frag_att, frag_eng, hba, setT, ha, slotO_some, slotO_none, o1, o2, o3, Rp.v, Rp.cells, rpNone, rpErr, rpDone, rpEnd, rpBusy, evs_append, evs_single, us_set, u8s_set, endS, ho0] <;> exact hes2
end YtnemoimbeefngaaGreat
end Go.Proofs
/-
  NOREC: Step. (Printed by tools/genstep.py.)
-/
set_option linter.unusedSimpArgs false
set_option linter.unusedVariables false
set_option linter.unnecessarySimpa false
set_option linter.unusedSectionVars false
namespace Go.Proofs
namespace YtnemoimbeefngaaGreat
open Go.Abs
set_option linter.unusedSimpArgs false

set_option maxRecDepth 10000 in
set_option maxHeartbeats 4000000 in
theorem step_g0e (s : NS) (hs : s.Ok) (hev : s.ev.length ≤ 100000) (th : Nat) (hth : th < 4) (a : Att) (ha : s.ts th = some a) (hk : a.asked = true) (hat : a.at_ = 0) (hk6 : a.ra.k = 6) (hall : allL a.fs = []) : Runs Tryz.prog cfg 28 [.pointer (some ⟨0, 0, none⟩), .int .i64 th] (AH.of [some (.hi (.eng s))])
    fun r H' => r = .ret (rpEnd 0).v ∧ H' = AH.of [some (.hi (.eng (commitS ({ s with ev := s.ev ++ [⟨7, a.n, 0, 0⟩] }) th a)))] := by
  refine Runs.ends ?_
  generalize hS : ((commitS ({ s with ev := s.ev ++ [⟨7, a.n, 0, 0⟩] }) th a) : NS) = S'
  refine Runs.openEng hth fun es cc hes => ?_
  have ft := find_th hth hes
  have z1 : ¬ (th : Int) < 0 := by omega
  have z2 : ¬ 4 ≤ (th : Int) := by omega
  have hok := hs.ts th a ha
  have hac := ask_cells1 a hk
  have hk0 : ¬ a.ra.k = 0 := by have := (hok.ask hk).1; omega
  have hel : (s.ev.length + 1) * 32 ≤ 140737488355328 ∧ s.ev.length ≤ 9223372036854775806 := by omega
  have t3 := take_evs s.ev
  have hgl := hok.fs
  have hel2 := ev_room2 hev
  have t5 := take_evs7 s.ev a.n
  obtain ⟨es2, hdel, hes2⟩ := del_th hth hes
  refine runs_by (tbl := tblSt) tblSt_ok 0 5 (af := a28) rfl ?_
  rw [a28, b28, run_eq]
  refine ⟨by simp, ?_⟩
  simp (implicitDefEqProofs := false) [engL, tblSt, dataSt, forms79, a79, b79, forms83, a83, b83, forms85, a85, b85, forms86, a86, b86, forms136, a136, b136, forms87, a87, b87, forms89, a89, b89, forms90, a90, b90, forms91, a91, b91, forms142, a142, b142, forms138, a138, b138, z1, z2, ha, ft, tptr, slotO_some, frag_att, hac, hk0, hel, t3, evs_length, st93, hat, hk6, hgl, hall, hel2, t5, prs, hdel]
  refine ⟨⟨by omega, by omega⟩, ?_⟩
  subst hS
  have hba : True := trivial
  rcases th_cases hth with rfl | rfl | rfl | rfl
  · refine ends_plan [.nil 100, .pack (GD.eng (commitS ({ s with ev := s.ev ++ [⟨7, a.n, 0, 0⟩] }) 0 a)) 0 [1, 2, 3, 22, 5, 6, 23, 8, 9, 10]] [0] ?_ ?_ ?_ <;> simp [frag_att, frag_eng, hba, setT, ha, slotO_some, slotO_none, o1, o2, o3, Rp.v, Rp.cells, rpNone, rpErr, rpDone, rpEnd, rpBusy, evs_append, evs_single, us_set, u8s_set, evs_append, evs_single, evs_pair, commitS] <;> exact hes2
  · refine ends_plan [.nil 100, .pack (GD.eng (commitS ({ s with ev := s.ev ++ [⟨7, a.n, 0, 0⟩] }) 1 a)) 0 [1, 2, 3, 22, 5, 6, 8, 23, 9, 10]] [0] ?_ ?_ ?_ <;> simp [frag_att, frag_eng, hba, setT, ha, slotO_some, slotO_none, o1, o2, o3, Rp.v, Rp.cells, rpNone, rpErr, rpDone, rpEnd, rpBusy, evs_append, evs_single, us_set, u8s_set, evs_append, evs_single, evs_pair, commitS] <;> exact hes2
  · refine ends_plan [.nil 100, .pack (GD.eng (commitS ({ s with ev := s.ev ++ [⟨7, a.n, 0, 0⟩] }) 2 a)) 0 [1, 2, 3, 22, 5, 6, 8, 9, 23, 10]] [0] ?_ ?_ ?_ <;> simp [frag_att, frag_eng, hba, setT, ha, slotO_some, slotO_none, o1, o2, o3, Rp.v, Rp.cells, rpNone, rpErr, rpDone, rpEnd, rpBusy, evs_append, evs_single, us_set, u8s_set, evs_append, evs_single, evs_pair, commitS] <;> exact hes2
  · refine ends_plan [.nil 100, .pack (GD.eng (commitS ({ s with ev := s.ev ++ [⟨7, a.n, 0, 0⟩] }) 3 a)) 0 [1, 2, 3, 22, 5, 6, 8, 9, 10, 23]] [0] ?_ ?_ ?_ <;> simp [frag_att, frag_eng, hba, setT, ha, slotO_some, slotO_none, o1, o2, o3, Rp.v, Rp.cells, rpNone, rpErr, rpDone, rpEnd, rpBusy, evs_append, evs_single, us_set, u8s_set, evs_append, evs_single, evs_pair, commitS] <;> exact hes2
set_option maxRecDepth 10000 in
set_option maxHeartbeats 4000000 in
theorem step_g0n (s : NS) (hs : s.Ok) (hev : s.ev.length ≤ 100000) (th : Nat) (hth : th < 4) (a : Att) (ha : s.ts th = some a) (hk : a.asked = true) (hat : a.at_ = 0) (hk6 : a.ra.k = 6) (hall : ¬ allL a.fs = []) : Runs Tryz.prog cfg 28 [.pointer (some ⟨0, 0, none⟩), .int .i64 th] (AH.of [some (.hi (.eng s))])
    fun r H' => r = .ret (rpNone).v ∧ H' = AH.of [some (.hi (.eng ({ s with ts := setT s.ts th (some { a with at_ := 1 }), ev := s.ev ++ [⟨7, a.n, 0, 0⟩] })))] := by
  refine Runs.ends ?_
  generalize hS : (({ s with ts := setT s.ts th (some { a with at_ := 1 }), ev := s.ev ++ [⟨7, a.n, 0, 0⟩] }) : NS) = S'
  refine Runs.openEng hth fun es cc hes => ?_
  have ft := find_th hth hes
  have z1 : ¬ (th : Int) < 0 := by omega
  have z2 : ¬ 4 ≤ (th : Int) := by omega
  have hok := hs.ts th a ha
  have hac := ask_cells1 a hk
  have hk0 : ¬ a.ra.k = 0 := by have := (hok.ask hk).1; omega
  have hel : (s.ev.length + 1) * 32 ≤ 140737488355328 ∧ s.ev.length ≤ 9223372036854775806 := by omega
  have t3 := take_evs s.ev
  have hgl := hok.fs
  have hln : ¬ (allL a.fs).length = 0 := fun h => hall (List.length_eq_zero_iff.1 h)
  have hln2 : ¬ ((allL a.fs).length : Int) = 0 := by omega
  refine runs_by (tbl := tblSt) tblSt_ok 0 5 (af := a28) rfl ?_
  rw [a28, b28, run_eq]
  refine ⟨by simp, ?_⟩
  simp (implicitDefEqProofs := false) [engL, tblSt, dataSt, forms79, a79, b79, forms83, a83, b83, forms85, a85, b85, forms86, a86, b86, forms136, a136, b136, forms87, a87, b87, forms89, a89, b89, forms90, a90, b90, forms91, a91, b91, forms142, a142, b142, forms138, a138, b138, z1, z2, ha, ft, tptr, slotO_some, frag_att, hac, hk0, hel, t3, evs_length, st93, hat, hk6, hgl, hall, hln, hln2]
  have htp := tpF_put th s.ts (b := { a with at_ := 1 }) ha
  rw [← htp] at hes
  subst hS
  have hba : Att.ask { a with at_ := 1 } = a.ra := by simp [Att.ask, hk]
  rcases th_cases hth with rfl | rfl | rfl | rfl
  · refine ends_plan [.pack (GD.att { a with at_ := 1 }) 7 [12, 13], .pack (GD.eng ({ s with ts := setT s.ts 0 (some { a with at_ := 1 }), ev := s.ev ++ [⟨7, a.n, 0, 0⟩] })) 0 [1, 2, 3, 18, 5, 6, 7, 8, 9, 10]] [0] ?_ ?_ ?_ <;> simp [frag_att, frag_eng, hba, setT, ha, slotO_some, slotO_none, o1, o2, o3, Rp.v, Rp.cells, rpNone, rpErr, rpDone, rpEnd, rpBusy, evs_append, evs_single, us_set, u8s_set, hk6] <;> exact hes
  · refine ends_plan [.pack (GD.att { a with at_ := 1 }) 7 [12, 13], .pack (GD.eng ({ s with ts := setT s.ts 1 (some { a with at_ := 1 }), ev := s.ev ++ [⟨7, a.n, 0, 0⟩] })) 0 [1, 2, 3, 18, 5, 6, 8, 7, 9, 10]] [0] ?_ ?_ ?_ <;> simp [frag_att, frag_eng, hba, setT, ha, slotO_some, slotO_none, o1, o2, o3, Rp.v, Rp.cells, rpNone, rpErr, rpDone, rpEnd, rpBusy, evs_append, evs_single, us_set, u8s_set, hk6] <;> exact hes
  · refine ends_plan [.pack (GD.att { a with at_ := 1 }) 7 [12, 13], .pack (GD.eng ({ s with ts := setT s.ts 2 (some { a with at_ := 1 }), ev := s.ev ++ [⟨7, a.n, 0, 0⟩] })) 0 [1, 2, 3, 18, 5, 6, 8, 9, 7, 10]] [0] ?_ ?_ ?_ <;> simp [frag_att, frag_eng, hba, setT, ha, slotO_some, slotO_none, o1, o2, o3, Rp.v, Rp.cells, rpNone, rpErr, rpDone, rpEnd, rpBusy, evs_append, evs_single, us_set, u8s_set, hk6] <;> exact hes
  · refine ends_plan [.pack (GD.att { a with at_ := 1 }) 7 [12, 13], .pack (GD.eng ({ s with ts := setT s.ts 3 (some { a with at_ := 1 }), ev := s.ev ++ [⟨7, a.n, 0, 0⟩] })) 0 [1, 2, 3, 18, 5, 6, 8, 9, 10, 7]] [0] ?_ ?_ ?_ <;> simp [frag_att, frag_eng, hba, setT, ha, slotO_some, slotO_none, o1, o2, o3, Rp.v, Rp.cells, rpNone, rpErr, rpDone, rpEnd, rpBusy, evs_append, evs_single, us_set, u8s_set, hk6] <;> exact hes
set_option maxRecDepth 10000 in
set_option maxHeartbeats 4000000 in
theorem step_g1y (s : NS) (hs : s.Ok) (hev : s.ev.length ≤ 100000) (th : Nat) (hth : th < 4) (a : Att) (ha : s.ts th = some a) (hk : a.asked = true) (hat : a.at_ = 1) (hk6 : a.ra.k = 6) (ht : tryE s.o s.c th a.snap = 0) : Runs Tryz.prog cfg 28 [.pointer (some ⟨0, 0, none⟩), .int .i64 th] (AH.of [some (.hi (.eng s))])
    fun r H' => r = .ret (rpNone).v ∧ H' = AH.of [some (.hi (.eng ({ s with ts := setT s.ts th (some { a with dec := true, at_ := 2, nx := 0 }), o := some (th : Int), c := s.c + 1, ky := s.ky.set a.n (a.snap + 2) })))] := by
  refine Runs.ends ?_
  generalize hS : (({ s with ts := setT s.ts th (some { a with dec := true, at_ := 2, nx := 0 }), o := some (th : Int), c := s.c + 1, ky := s.ky.set a.n (a.snap + 2) }) : NS) = S'
  refine Runs.openEng hth fun es cc hes => ?_
  have ft := find_th hth hes
  have z1 : ¬ (th : Int) < 0 := by omega
  have z2 : ¬ 4 ≤ (th : Int) := by omega
  have hok := hs.ts th a ha
  have hac := ask_cells1 a hk
  have hk0 : ¬ a.ra.k = 0 := by have := (hok.ask hk).1; omega
  have hel : (s.ev.length + 1) * 32 ≤ 140737488355328 ∧ s.ev.length ≤ 9223372036854775806 := by omega
  have t3 := take_evs s.ev
  have hgl := hok.fs
  have hnk : a.n < s.ky.length := by have := hok.n; have := hs.kw; omega
  have hnk2 : (a.n : Int) < s.ky.length := by omega
  have hnk3 : a.n + 1 ≤ s.ky.length := by omega
  have hsc := hs.c
  have hsn := hok.snap
  have hw1 : IntKind.u64.wrap (a.snap + 2) = a.snap + 2 := wrap_u64 (by omega) (by omega)
  have hw2 : IntKind.u64.wrap (s.c + 1) = s.c + 1 := wrap_u64 (by omega) (by omega)
  refine runs_by (tbl := tblSt) tblSt_ok 0 5 (af := a28) rfl ?_
  rw [a28, b28, run_eq]
  refine ⟨by simp, ?_⟩
  simp (implicitDefEqProofs := false) [engL, tblSt, dataSt, forms79, a79, b79, forms83, a83, b83, forms85, a85, b85, forms86, a86, b86, forms136, a136, b136, forms87, a87, b87, forms89, a89, b89, forms90, a90, b90, forms91, a91, b91, forms142, a142, b142, forms138, a138, b138, z1, z2, ha, ft, tptr, slotO_some, frag_att, hac, hk0, hel, t3, evs_length, st93, d137, hat, hk6, hgl, ht, hnk, hnk2, hnk3, hw1, hw2, us_length, us_set]
  have htp := tpF_put th s.ts (b := { a with dec := true, at_ := 2, nx := 0 }) ha
  rw [← htp] at hes
  subst hS
  have hba : Att.ask { a with dec := true, at_ := 2, nx := 0 } = a.ra := by simp [Att.ask, hk]
  rcases th_cases hth with rfl | rfl | rfl | rfl
  · refine ends_plan [.pack (GD.att { a with dec := true, at_ := 2, nx := 0 }) 7 [12, 13], .pack (GD.eng ({ s with ts := setT s.ts 0 (some { a with dec := true, at_ := 2, nx := 0 }), o := some (0 : Int), c := s.c + 1, ky := s.ky.set a.n (a.snap + 2) })) 0 [1, 2, 3, 4, 5, 6, 7, 8, 9, 10]] [0] ?_ ?_ ?_ <;> simp [frag_att, frag_eng, hba, setT, ha, slotO_some, slotO_none, o1, o2, o3, Rp.v, Rp.cells, rpNone, rpErr, rpDone, rpEnd, rpBusy, evs_append, evs_single, us_set, u8s_set, hk6] <;> exact hes
  · refine ends_plan [.pack (GD.att { a with dec := true, at_ := 2, nx := 0 }) 7 [12, 13], .pack (GD.eng ({ s with ts := setT s.ts 1 (some { a with dec := true, at_ := 2, nx := 0 }), o := some (1 : Int), c := s.c + 1, ky := s.ky.set a.n (a.snap + 2) })) 0 [1, 2, 3, 4, 5, 6, 8, 7, 9, 10]] [0] ?_ ?_ ?_ <;> simp [frag_att, frag_eng, hba, setT, ha, slotO_some, slotO_none, o1, o2, o3, Rp.v, Rp.cells, rpNone, rpErr, rpDone, rpEnd, rpBusy, evs_append, evs_single, us_set, u8s_set, hk6] <;> exact hes
  · refine ends_plan [.pack (GD.att { a with dec := true, at_ := 2, nx := 0 }) 7 [12, 13], .pack (GD.eng ({ s with ts := setT s.ts 2 (some { a with dec := true, at_ := 2, nx := 0 }), o := some (2 : Int), c := s.c + 1, ky := s.ky.set a.n (a.snap + 2) })) 0 [1, 2, 3, 4, 5, 6, 8, 9, 7, 10]] [0] ?_ ?_ ?_ <;> simp [frag_att, frag_eng, hba, setT, ha, slotO_some, slotO_none, o1, o2, o3, Rp.v, Rp.cells, rpNone, rpErr, rpDone, rpEnd, rpBusy, evs_append, evs_single, us_set, u8s_set, hk6] <;> exact hes
  · refine ends_plan [.pack (GD.att { a with dec := true, at_ := 2, nx := 0 }) 7 [12, 13], .pack (GD.eng ({ s with ts := setT s.ts 3 (some { a with dec := true, at_ := 2, nx := 0 }), o := some (3 : Int), c := s.c + 1, ky := s.ky.set a.n (a.snap + 2) })) 0 [1, 2, 3, 4, 5, 6, 8, 9, 10, 7]] [0] ?_ ?_ ?_ <;> simp [frag_att, frag_eng, hba, setT, ha, slotO_some, slotO_none, o1, o2, o3, Rp.v, Rp.cells, rpNone, rpErr, rpDone, rpEnd, rpBusy, evs_append, evs_single, us_set, u8s_set, hk6] <;> exact hes
set_option maxRecDepth 10000 in
set_option maxHeartbeats 4000000 in
theorem step_g1ff (s : NS) (hs : s.Ok) (hev : s.ev.length ≤ 100000) (th : Nat) (hth : th < 4) (a : Att) (ha : s.ts th = some a) (hk : a.asked = true) (hat : a.at_ = 1) (hk6 : a.ra.k = 6) (ht : tryE s.o s.c th a.snap = 4) (ho : ¬ s.o = some (th : Int)) : Runs Tryz.prog cfg 28 [.pointer (some ⟨0, 0, none⟩), .int .i64 th] (AH.of [some (.hi (.eng s))])
    fun r H' => r = .ret (rpEnd 2).v ∧ H' = AH.of [some (.hi (.eng (endS s th a 2)))] := by
  refine Runs.ends ?_
  generalize hS : ((endS s th a 2) : NS) = S'
  refine Runs.openEng hth fun es cc hes => ?_
  have ft := find_th hth hes
  have z1 : ¬ (th : Int) < 0 := by omega
  have z2 : ¬ 4 ≤ (th : Int) := by omega
  have hok := hs.ts th a ha
  have hac := ask_cells1 a hk
  have hk0 : ¬ a.ra.k = 0 := by have := (hok.ask hk).1; omega
  have hel : (s.ev.length + 1) * 32 ≤ 140737488355328 ∧ s.ev.length ≤ 9223372036854775806 := by omega
  have t3 := take_evs s.ev
  have hgl := hok.fs
  have hnw3 : a.n + 1 ≤ s.wy.length := hok.n
  have hnw := hok.n
  have hnw2 : (a.n : Int) < s.wy.length := by omega
  obtain ⟨es2, hdel, hes2⟩ := del_th hth hes
  refine runs_by (tbl := tblSt) tblSt_ok 0 5 (af := a28) rfl ?_
  rw [a28, b28, run_eq]
  refine ⟨by simp, ?_⟩
  simp (implicitDefEqProofs := false) [engL, tblSt, dataSt, forms79, a79, b79, forms83, a83, b83, forms85, a85, b85, forms86, a86, b86, forms136, a136, b136, forms87, a87, b87, forms89, a89, b89, forms90, a90, b90, forms91, a91, b91, forms142, a142, b142, forms138, a138, b138, z1, z2, ha, ft, tptr, slotO_some, frag_att, hac, hk0, hel, t3, evs_length, st93, d137, hat, hk6, hgl, ht, d135, ho, hnw, hnw2, hnw3, u8s_length, u8s_set, hdel]
  subst hS
  have hba : True := trivial
  rcases th_cases hth with rfl | rfl | rfl | rfl
  · have ho0 : ¬ s.o = some 0 := ho
    refine ends_plan [.nil 100, .pack (GD.eng (endS s 0 a 2)) 0 [1, 2, 3, 19, 5, 6, 20, 8, 9, 10]] [0] ?_ ?_ ?_ <;> simp [frag_att, frag_eng, hba, setT, ha, slotO_some, slotO_none, o1, o2, o3, Rp.v, Rp.cells, rpNone, rpErr, rpDone, rpEnd, rpBusy, evs_append, evs_single, us_set, u8s_set, endS, ho0] <;> exact hes2
  · have ho0 : ¬ s.o = some 1 := ho
    refine ends_plan [.nil 100, .pack (GD.eng (endS s 1 a 2)) 0 [1, 2, 3, 19, 5, 6, 8, 20, 9, 10]] [0] ?_ ?_ ?_ <;> simp [frag_att, frag_eng, hba, setT, ha, slotO_some, slotO_none, o1, o2, o3, Rp.v, Rp.cells, rpNone, rpErr, rpDone, rpEnd, rpBusy, evs_append, evs_single, us_set, u8s_set, endS, ho0] <;> exact hes2
  · have ho0 : ¬ s.o = some 2 := ho
    refine ends_plan [.nil 100, .pack (GD.eng (endS s 2 a 2)) 0 [1, 2, 3, 19, 5, 6, 8, 9, 20, 10]] [0] ?_ ?_ ?_ <;> simp [frag_att, frag_eng, hba, setT, ha, slotO_some, slotO_none, o1, o2, o3, Rp.v, Rp.cells, rpNone, rpErr, rpDone, rpEnd, rpBusy, evs_append, evs_single, us_set, u8s_set, endS, ho0] <;> exact hes2
  · have ho0 : ¬ s.o = some 3 := ho
    refine ends_plan [.nil 100, .pack (GD.eng (endS s 3 a 2)) 0 [1, 2, 3, 19, 5, 6, 8, 9, 10, 20]] [0] ?_ ?_ ?_ <;> simp [frag_att, frag_eng, hba, setT, ha, slotO_some, slotO_none, o1, o2, o3, Rp.v, Rp.cells, rpNone, rpErr, rpDone, rpEnd, rpBusy, evs_append, evs_single, us_set, u8s_set, endS, ho0] <;> exact hes2
set_option maxRecDepth 10000 in
set_option maxHeartbeats 4000000 in
theorem step_g1l (s : NS) (hs : s.Ok) (hev : s.ev.length ≤ 100000) (th : Nat) (hth : th < 4) (a : Att) (ha : s.ts th = some a) (hk : a.asked = true) (hat : a.at_ = 1) (hk6 : a.ra.k = 6) (ht : ¬ tryE s.o s.c th a.snap = 0) (ht4 : ¬ tryE s.o s.c th a.snap = 4) : Runs Tryz.prog cfg 28 [.pointer (some ⟨0, 0, none⟩), .int .i64 th] (AH.of [some (.hi (.eng s))])
    fun r H' => r = .ret (rpNone).v ∧ H' = AH.of [some (.hi (.eng ({ s with ts := setT s.ts th (some { a with at_ := 4, back := 1 }) })))] := by
  refine Runs.ends ?_
  generalize hS : (({ s with ts := setT s.ts th (some { a with at_ := 4, back := 1 }) }) : NS) = S'
  refine Runs.openEng hth fun es cc hes => ?_
  have ft := find_th hth hes
  have z1 : ¬ (th : Int) < 0 := by omega
  have z2 : ¬ 4 ≤ (th : Int) := by omega
  have hok := hs.ts th a ha
  have hac := ask_cells1 a hk
  have hk0 : ¬ a.ra.k = 0 := by have := (hok.ask hk).1; omega
  have hel : (s.ev.length + 1) * 32 ≤ 140737488355328 ∧ s.ev.length ≤ 9223372036854775806 := by omega
  have t3 := take_evs s.ev
  have hgl := hok.fs
  refine runs_by (tbl := tblSt) tblSt_ok 0 5 (af := a28) rfl ?_
  rw [a28, b28, run_eq]
  refine ⟨by simp, ?_⟩
  simp (implicitDefEqProofs := false) [engL, tblSt, dataSt, forms79, a79, b79, forms83, a83, b83, forms85, a85, b85, forms86, a86, b86, forms136, a136, b136, forms87, a87, b87, forms89, a89, b89, forms90, a90, b90, forms91, a91, b91, forms142, a142, b142, forms138, a138, b138, z1, z2, ha, ft, tptr, slotO_some, frag_att, hac, hk0, hel, t3, evs_length, st93, d137, hat, hk6, hgl, ht, ht4]
  have htp := tpF_put th s.ts (b := { a with at_ := 4, back := 1 }) ha
  rw [← htp] at hes
  subst hS
  have hba : Att.ask { a with at_ := 4, back := 1 } = a.ra := by simp [Att.ask, hk]
  rcases th_cases hth with rfl | rfl | rfl | rfl
  · refine ends_plan [.pack (GD.att { a with at_ := 4, back := 1 }) 7 [12, 13], .pack (GD.eng ({ s with ts := setT s.ts 0 (some { a with at_ := 4, back := 1 }) })) 0 [1, 2, 3, 4, 5, 6, 7, 8, 9, 10]] [0] ?_ ?_ ?_ <;> simp [frag_att, frag_eng, hba, setT, ha, slotO_some, slotO_none, o1, o2, o3, Rp.v, Rp.cells, rpNone, rpErr, rpDone, rpEnd, rpBusy, evs_append, evs_single, us_set, u8s_set, hk6] <;> exact hes
  · refine ends_plan [.pack (GD.att { a with at_ := 4, back := 1 }) 7 [12, 13], .pack (GD.eng ({ s with ts := setT s.ts 1 (some { a with at_ := 4, back := 1 }) })) 0 [1, 2, 3, 4, 5, 6, 8, 7, 9, 10]] [0] ?_ ?_ ?_ <;> simp [frag_att, frag_eng, hba, setT, ha, slotO_some, slotO_none, o1, o2, o3, Rp.v, Rp.cells, rpNone, rpErr, rpDone, rpEnd, rpBusy, evs_append, evs_single, us_set, u8s_set, hk6] <;> exact hes
  · refine ends_plan [.pack (GD.att { a with at_ := 4, back := 1 }) 7 [12, 13], .pack (GD.eng ({ s with ts := setT s.ts 2 (some { a with at_ := 4, back := 1 }) })) 0 [1, 2, 3, 4, 5, 6, 8, 9, 7, 10]] [0] ?_ ?_ ?_ <;> simp [frag_att, frag_eng, hba, setT, ha, slotO_some, slotO_none, o1, o2, o3, Rp.v, Rp.cells, rpNone, rpErr, rpDone, rpEnd, rpBusy, evs_append, evs_single, us_set, u8s_set, hk6] <;> exact hes
  · refine ends_plan [.pack (GD.att { a with at_ := 4, back := 1 }) 7 [12, 13], .pack (GD.eng ({ s with ts := setT s.ts 3 (some { a with at_ := 4, back := 1 }) })) 0 [1, 2, 3, 4, 5, 6, 8, 9, 10, 7]] [0] ?_ ?_ ?_ <;> simp [frag_att, frag_eng, hba, setT, ha, slotO_some, slotO_none, o1, o2, o3, Rp.v, Rp.cells, rpNone, rpErr, rpDone, rpEnd, rpBusy, evs_append, evs_single, us_set, u8s_set, hk6] <;> exact hes
set_option maxRecDepth 10000 in
set_option maxHeartbeats 4000000 in
theorem step_g2m (s : NS) (hs : s.Ok) (hev : s.ev.length ≤ 100000) (th : Nat) (hth : th < 4) (a : Att) (ha : s.ts th = some a) (hk : a.asked = true) (hat : a.at_ = 2) (hk6 : a.ra.k = 6) (p : Pr) (hx : (allL a.fs)[a.nx]? = some p) (hp : 0 ≤ p.t ∧ p.t < s.hp.length) (hl : ¬ a.nx + 1 = (allL a.fs).length) : Runs Tryz.prog cfg 28 [.pointer (some ⟨0, 0, none⟩), .int .i64 th] (AH.of [some (.hi (.eng s))])
    fun r H' => r = .ret (rpNone).v ∧ H' = AH.of [some (.hi (.eng ({ s with ts := setT s.ts th (some { a with nx := a.nx + 1, at_ := 2 }), hp := s.hp.set p.t.toNat p.v })))] := by
  refine Runs.ends ?_
  generalize hS : (({ s with ts := setT s.ts th (some { a with nx := a.nx + 1, at_ := 2 }), hp := s.hp.set p.t.toNat p.v }) : NS) = S'
  refine Runs.openEng hth fun es cc hes => ?_
  have ft := find_th hth hes
  have z1 : ¬ (th : Int) < 0 := by omega
  have z2 : ¬ 4 ≤ (th : Int) := by omega
  have hok := hs.ts th a ha
  have hac := ask_cells1 a hk
  have hk0 : ¬ a.ra.k = 0 := by have := (hok.ask hk).1; omega
  have hel : (s.ev.length + 1) * 32 ≤ 140737488355328 ∧ s.ev.length ≤ 9223372036854775806 := by omega
  have t3 := take_evs s.ev
  have hgl := hok.fs
  have hlt := (List.getElem?_eq_some_iff.1 hx).1
  have hlt2 : (a.nx : Int) < (allL a.fs).length := by omega
  obtain ⟨rx, rv⟩ := prs_at hx
  have hnx := hok.nx
  have hwr : IntKind.i64.wrap ((a.nx : Int) + 1) = ((a.nx + 1 : Nat) : Int) := by rw [wrap_i64 (by omega) (by omega)]; omega
  have hpl : (p.t.toNat : Int) < s.hp.length := by omega
  have hpl2 : p.t.toNat < s.hp.length := by omega
  have hpl3 : p.t.toNat + 1 ≤ s.hp.length := by omega
  have hl2 : ¬ (a.nx : Int) + 1 = (allL a.fs).length := by omega
  refine runs_by (tbl := tblSt) tblSt_ok 0 5 (af := a28) rfl ?_
  rw [a28, b28, run_eq]
  refine ⟨by simp, ?_⟩
  simp (implicitDefEqProofs := false) [engL, tblSt, dataSt, forms79, a79, b79, forms83, a83, b83, forms85, a85, b85, forms86, a86, b86, forms136, a136, b136, forms87, a87, b87, forms89, a89, b89, forms90, a90, b90, forms91, a91, b91, forms142, a142, b142, forms138, a138, b138, z1, z2, ha, ft, tptr, slotO_some, frag_att, hac, hk0, hel, t3, evs_length, st93, hat, hk6, hgl, hlt, hlt2, rx, rv, hwr, hp, hpl, hpl2, hpl3, hl, hl2, us_length, us_set]
  have htp := tpF_put th s.ts (b := { a with nx := a.nx + 1, at_ := 2 }) ha
  rw [← htp] at hes
  subst hS
  have hba : Att.ask { a with nx := a.nx + 1, at_ := 2 } = a.ra := by simp [Att.ask, hk]
  rcases th_cases hth with rfl | rfl | rfl | rfl
  · refine ends_plan [.pack (GD.att { a with nx := a.nx + 1, at_ := 2 }) 7 [12, 13], .pack (GD.eng ({ s with ts := setT s.ts 0 (some { a with nx := a.nx + 1, at_ := 2 }), hp := s.hp.set p.t.toNat p.v })) 0 [1, 2, 3, 4, 5, 6, 7, 8, 9, 10]] [0] ?_ ?_ ?_ <;> simp [frag_att, frag_eng, hba, setT, ha, slotO_some, slotO_none, o1, o2, o3, Rp.v, Rp.cells, rpNone, rpErr, rpDone, rpEnd, rpBusy, evs_append, evs_single, us_set, u8s_set, hk6] <;> exact hes
  · refine ends_plan [.pack (GD.att { a with nx := a.nx + 1, at_ := 2 }) 7 [12, 13], .pack (GD.eng ({ s with ts := setT s.ts 1 (some { a with nx := a.nx + 1, at_ := 2 }), hp := s.hp.set p.t.toNat p.v })) 0 [1, 2, 3, 4, 5, 6, 8, 7, 9, 10]] [0] ?_ ?_ ?_ <;> simp [frag_att, frag_eng, hba, setT, ha, slotO_some, slotO_none, o1, o2, o3, Rp.v, Rp.cells, rpNone, rpErr, rpDone, rpEnd, rpBusy, evs_append, evs_single, us_set, u8s_set, hk6] <;> exact hes
  · refine ends_plan [.pack (GD.att { a with nx := a.nx + 1, at_ := 2 }) 7 [12, 13], .pack (GD.eng ({ s with ts := setT s.ts 2 (some { a with nx := a.nx + 1, at_ := 2 }), hp := s.hp.set p.t.toNat p.v })) 0 [1, 2, 3, 4, 5, 6, 8, 9, 7, 10]] [0] ?_ ?_ ?_ <;> simp [frag_att, frag_eng, hba, setT, ha, slotO_some, slotO_none, o1, o2, o3, Rp.v, Rp.cells, rpNone, rpErr, rpDone, rpEnd, rpBusy, evs_append, evs_single, us_set, u8s_set, hk6] <;> exact hes
  · refine ends_plan [.pack (GD.att { a with nx := a.nx + 1, at_ := 2 }) 7 [12, 13], .pack (GD.eng ({ s with ts := setT s.ts 3 (some { a with nx := a.nx + 1, at_ := 2 }), hp := s.hp.set p.t.toNat p.v })) 0 [1, 2, 3, 4, 5, 6, 8, 9, 10, 7]] [0] ?_ ?_ ?_ <;> simp [frag_att, frag_eng, hba, setT, ha, slotO_some, slotO_none, o1, o2, o3, Rp.v, Rp.cells, rpNone, rpErr, rpDone, rpEnd, rpBusy, evs_append, evs_single, us_set, u8s_set, hk6] <;> exact hes
set_option maxRecDepth 10000 in
set_option maxHeartbeats 4000000 in
theorem step_g2l (s : NS) (hs : s.Ok) (hev : s.ev.length ≤ 100000) (th : Nat) (hth : th < 4) (a : Att) (ha : s.ts th = some a) (hk : a.asked = true) (hat : a.at_ = 2) (hk6 : a.ra.k = 6) (p : Pr) (hx : (allL a.fs)[a.nx]? = some p) (hp : 0 ≤ p.t ∧ p.t < s.hp.length) (hl : a.nx + 1 = (allL a.fs).length) : Runs Tryz.prog cfg 28 [.pointer (some ⟨0, 0, none⟩), .int .i64 th] (AH.of [some (.hi (.eng s))])
    fun r H' => r = .ret (rpNone).v ∧ H' = AH.of [some (.hi (.eng ({ s with ts := setT s.ts th (some { a with nx := a.nx + 1, at_ := 3 }), hp := s.hp.set p.t.toNat p.v })))] := by
  refine Runs.ends ?_
  generalize hS : (({ s with ts := setT s.ts th (some { a with nx := a.nx + 1, at_ := 3 }), hp := s.hp.set p.t.toNat p.v }) : NS) = S'
  refine Runs.openEng hth fun es cc hes => ?_
  have ft := find_th hth hes
  have z1 : ¬ (th : Int) < 0 := by omega
  have z2 : ¬ 4 ≤ (th : Int) := by omega
  have hok := hs.ts th a ha
  have hac := ask_cells1 a hk
  have hk0 : ¬ a.ra.k = 0 := by have := (hok.ask hk).1; omega
  have hel : (s.ev.length + 1) * 32 ≤ 140737488355328 ∧ s.ev.length ≤ 9223372036854775806 := by omega
  have t3 := take_evs s.ev
  have hgl := hok.fs
  have hlt := (List.getElem?_eq_some_iff.1 hx).1
  have hlt2 : (a.nx : Int) < (allL a.fs).length := by omega
  obtain ⟨rx, rv⟩ := prs_at hx
  have hnx := hok.nx
  have hwr : IntKind.i64.wrap ((a.nx : Int) + 1) = ((a.nx + 1 : Nat) : Int) := by rw [wrap_i64 (by omega) (by omega)]; omega
  have hpl : (p.t.toNat : Int) < s.hp.length := by omega
  have hpl2 : p.t.toNat < s.hp.length := by omega
  have hpl3 : p.t.toNat + 1 ≤ s.hp.length := by omega
  have hl2 : ((a.nx : Int) + 1 = ((allL a.fs).length : Int)) = True := eq_true (by omega)
  have hl3 : (a.nx + 1 = (allL a.fs).length) = True := eq_true hl
  refine runs_by (tbl := tblSt) tblSt_ok 0 5 (af := a28) rfl ?_
  rw [a28, b28, run_eq]
  refine ⟨by simp, ?_⟩
  simp (implicitDefEqProofs := false) [engL, tblSt, dataSt, forms79, a79, b79, forms83, a83, b83, forms85, a85, b85, forms86, a86, b86, forms136, a136, b136, forms87, a87, b87, forms89, a89, b89, forms90, a90, b90, forms91, a91, b91, forms142, a142, b142, forms138, a138, b138, z1, z2, ha, ft, tptr, slotO_some, frag_att, hac, hk0, hel, t3, evs_length, st93, hat, hk6, hgl, hlt, hlt2, rx, rv, hwr, hp, hpl, hpl2, hpl3, hl2, hl3, us_length, us_set]
  have htp := tpF_put th s.ts (b := { a with nx := a.nx + 1, at_ := 3 }) ha
  rw [← htp] at hes
  subst hS
  have hba : Att.ask { a with nx := a.nx + 1, at_ := 3 } = a.ra := by simp [Att.ask, hk]
  rcases th_cases hth with rfl | rfl | rfl | rfl
  · refine ends_plan [.pack (GD.att { a with nx := a.nx + 1, at_ := 3 }) 7 [12, 13], .pack (GD.eng ({ s with ts := setT s.ts 0 (some { a with nx := a.nx + 1, at_ := 3 }), hp := s.hp.set p.t.toNat p.v })) 0 [1, 2, 3, 4, 5, 6, 7, 8, 9, 10]] [0] ?_ ?_ ?_ <;> simp [frag_att, frag_eng, hba, setT, ha, slotO_some, slotO_none, o1, o2, o3, Rp.v, Rp.cells, rpNone, rpErr, rpDone, rpEnd, rpBusy, evs_append, evs_single, us_set, u8s_set, hk6] <;> exact hes
  · refine ends_plan [.pack (GD.att { a with nx := a.nx + 1, at_ := 3 }) 7 [12, 13], .pack (GD.eng ({ s with ts := setT s.ts 1 (some { a with nx := a.nx + 1, at_ := 3 }), hp := s.hp.set p.t.toNat p.v })) 0 [1, 2, 3, 4, 5, 6, 8, 7, 9, 10]] [0] ?_ ?_ ?_ <;> simp [frag_att, frag_eng, hba, setT, ha, slotO_some, slotO_none, o1, o2, o3, Rp.v, Rp.cells, rpNone, rpErr, rpDone, rpEnd, rpBusy, evs_append, evs_single, us_set, u8s_set, hk6] <;> exact hes
  · refine ends_plan [.pack (GD.att { a with nx := a.nx + 1, at_ := 3 }) 7 [12, 13], .pack (GD.eng ({ s with ts := setT s.ts 2 (some { a with nx := a.nx + 1, at_ := 3 }), hp := s.hp.set p.t.toNat p.v })) 0 [1, 2, 3, 4, 5, 6, 8, 9, 7, 10]] [0] ?_ ?_ ?_ <;> simp [frag_att, frag_eng, hba, setT, ha, slotO_some, slotO_none, o1, o2, o3, Rp.v, Rp.cells, rpNone, rpErr, rpDone, rpEnd, rpBusy, evs_append, evs_single, us_set, u8s_set, hk6] <;> exact hes
  · refine ends_plan [.pack (GD.att { a with nx := a.nx + 1, at_ := 3 }) 7 [12, 13], .pack (GD.eng ({ s with ts := setT s.ts 3 (some { a with nx := a.nx + 1, at_ := 3 }), hp := s.hp.set p.t.toNat p.v })) 0 [1, 2, 3, 4, 5, 6, 8, 9, 10, 7]] [0] ?_ ?_ ?_ <;> simp [frag_att, frag_eng, hba, setT, ha, slotO_some, slotO_none, o1, o2, o3, Rp.v, Rp.cells, rpNone, rpErr, rpDone, rpEnd, rpBusy, evs_append, evs_single, us_set, u8s_set, hk6] <;> exact hes
set_option maxRecDepth 10000 in
set_option maxHeartbeats 4000000 in
theorem step_g3 (s : NS) (hs : s.Ok) (hev : s.ev.length ≤ 100000) (th : Nat) (hth : th < 4) (a : Att) (ha : s.ts th = some a) (hk : a.asked = true) (hat : a.at_ = 3) (hk6 : a.ra.k = 6) (ho : s.o = some (th : Int)) : Runs Tryz.prog cfg 28 [.pointer (some ⟨0, 0, none⟩), .int .i64 th] (AH.of [some (.hi (.eng s))])
    fun r H' => r = .ret (rpEnd 0).v ∧ H' = AH.of [some (.hi (.eng (commitS ({ s with o := none, c := s.c + 1 }) th a)))] := by
  refine Runs.ends ?_
  generalize hS : ((commitS ({ s with o := none, c := s.c + 1 }) th a) : NS) = S'
  refine Runs.openEng hth fun es cc hes => ?_
  have ft := find_th hth hes
  have z1 : ¬ (th : Int) < 0 := by omega
  have z2 : ¬ 4 ≤ (th : Int) := by omega
  have hok := hs.ts th a ha
  have hac := ask_cells1 a hk
  have hk0 : ¬ a.ra.k = 0 := by have := (hok.ask hk).1; omega
  have hel : (s.ev.length + 1) * 32 ≤ 140737488355328 ∧ s.ev.length ≤ 9223372036854775806 := by omega
  have t3 := take_evs s.ev
  have hgl := hok.fs
  have hsc := hs.c
  have hw2 : IntKind.u64.wrap (s.c + 1) = s.c + 1 := wrap_u64 (by omega) (by omega)
  obtain ⟨es2, hdel, hes2⟩ := del_th hth hes
  refine runs_by (tbl := tblSt) tblSt_ok 0 5 (af := a28) rfl ?_
  rw [a28, b28, run_eq]
  refine ⟨by simp, ?_⟩
  simp (implicitDefEqProofs := false) [engL, tblSt, dataSt, forms79, a79, b79, forms83, a83, b83, forms85, a85, b85, forms86, a86, b86, forms136, a136, b136, forms87, a87, b87, forms89, a89, b89, forms90, a90, b90, forms91, a91, b91, forms142, a142, b142, forms138, a138, b138, z1, z2, ha, ft, tptr, slotO_some, frag_att, hac, hk0, hel, t3, evs_length, st93, d139, hat, hk6, hgl, ho, hw2, hdel]
  subst hS
  have hba : True := trivial
  rcases th_cases hth with rfl | rfl | rfl | rfl
  · have ho0 : s.o = some 0 := ho
    refine ends_plan [.nil 100, .pack (GD.eng (commitS ({ s with o := none, c := s.c + 1 }) 0 a)) 0 [1, 2, 3, 19, 5, 6, 20, 8, 9, 10]] [0] ?_ ?_ ?_ <;> simp [frag_att, frag_eng, hba, setT, ha, slotO_some, slotO_none, o1, o2, o3, Rp.v, Rp.cells, rpNone, rpErr, rpDone, rpEnd, rpBusy, evs_append, evs_single, us_set, u8s_set, evs_append, evs_single, commitS] <;> exact hes2
  · have ho0 : s.o = some 1 := ho
    refine ends_plan [.nil 100, .pack (GD.eng (commitS ({ s with o := none, c := s.c + 1 }) 1 a)) 0 [1, 2, 3, 19, 5, 6, 8, 20, 9, 10]] [0] ?_ ?_ ?_ <;> simp [frag_att, frag_eng, hba, setT, ha, slotO_some, slotO_none, o1, o2, o3, Rp.v, Rp.cells, rpNone, rpErr, rpDone, rpEnd, rpBusy, evs_append, evs_single, us_set, u8s_set, evs_append, evs_single, commitS] <;> exact hes2
  · have ho0 : s.o = some 2 := ho
    refine ends_plan [.nil 100, .pack (GD.eng (commitS ({ s with o := none, c := s.c + 1 }) 2 a)) 0 [1, 2, 3, 19, 5, 6, 8, 9, 20, 10]] [0] ?_ ?_ ?_ <;> simp [frag_att, frag_eng, hba, setT, ha, slotO_some, slotO_none, o1, o2, o3, Rp.v, Rp.cells, rpNone, rpErr, rpDone, rpEnd, rpBusy, evs_append, evs_single, us_set, u8s_set, evs_append, evs_single, commitS] <;> exact hes2
  · have ho0 : s.o = some 3 := ho
    refine ends_plan [.nil 100, .pack (GD.eng (commitS ({ s with o := none, c := s.c + 1 }) 3 a)) 0 [1, 2, 3, 19, 5, 6, 8, 9, 10, 20]] [0] ?_ ?_ ?_ <;> simp [frag_att, frag_eng, hba, setT, ha, slotO_some, slotO_none, o1, o2, o3, Rp.v, Rp.cells, rpNone, rpErr, rpDone, rpEnd, rpBusy, evs_append, evs_single, us_set, u8s_set, evs_append, evs_single, commitS] <;> exact hes2
end YtnemoimbeefngaaGreat
end Go.Proofs
/-
  NOREC: Step. (Printed by tools/genstep.py.)
-/
set_option linter.unusedSimpArgs false
set_option linter.unusedVariables false
set_option linter.unnecessarySimpa false
set_option linter.unusedSectionVars false
namespace Go.Proofs
namespace YtnemoimbeefngaaGreat
open Go.Abs
set_option linter.unusedSimpArgs false

set_option maxRecDepth 10000 in
set_option maxHeartbeats 4000000 in
theorem step_t3 (s : NS) (hs : s.Ok) (hev : s.ev.length ≤ 100000) (th : Nat) (hth : th < 4) (a : Att) (ha : s.ts th = some a) (hk : a.asked = true) (hat : a.at_ < 4) (hk3 : a.ra.k = 3) (f : List Pr) (fs : List (List Pr)) (hfs : a.fs = f :: fs) (hl : ¬ 4 ≤ fs.length) : Runs Tryz.prog cfg 28 [.pointer (some ⟨0, 0, none⟩), .int .i64 th] (AH.of [some (.hi (.eng s))])
    fun r H' => r = .ret (rpDone 0).v ∧ H' = AH.of [some (.hi (.eng ({ s with ts := setT s.ts th (some { a with asked := false, fs := [] :: f :: fs }), ev := s.ev ++ [⟨4, a.n, 0, 0⟩] })))] := by
  refine Runs.ends ?_
  generalize hS : (({ s with ts := setT s.ts th (some { a with asked := false, fs := [] :: f :: fs }), ev := s.ev ++ [⟨4, a.n, 0, 0⟩] }) : NS) = S'
  refine Runs.openEng hth fun es cc hes => ?_
  have ft := find_th hth hes
  have z1 : ¬ (th : Int) < 0 := by omega
  have z2 : ¬ 4 ≤ (th : Int) := by omega
  have hok := hs.ts th a ha
  have hac := ask_cells1 a hk
  have hk0 : ¬ a.ra.k = 0 := by have := (hok.ask hk).1; omega
  have hel : (s.ev.length + 1) * 32 ≤ 140737488355328 ∧ s.ev.length ≤ 9223372036854775806 := by omega
  have t3 := take_evs s.ev
  have hlo : ¬ 4 ≤ (a.at_ : Int) := by omega
  have hlo2 : ¬ 4 ≤ a.at_ := by omega
  have hgl := hok.fs
  have hne := hok.fs.1
  rw [hfs] at hgl
  have hl5 : fs.length ≤ 100 := by have := hgl.2.1; simp at this; omega
  refine runs_by (tbl := tblSt) tblSt_ok 0 5 (af := a28) rfl ?_
  rw [a28, b28, run_eq]
  refine ⟨by simp, ?_⟩
  simp (implicitDefEqProofs := false) [engL, tblSt, dataSt, forms79, a79, b79, forms83, a83, b83, forms85, a85, b85, forms86, a86, b86, forms136, a136, b136, forms87, a87, b87, forms89, a89, b89, forms90, a90, b90, forms91, a91, b91, forms142, a142, b142, forms138, a138, b138, z1, z2, ha, ft, tptr, slotO_some, frag_att, hac, hk0, hel, t3, evs_length, hlo, hlo2, d144, hk3, hfs, hl, hl5]
  have htp := tpF_put th s.ts (b := { a with asked := false, fs := [] :: f :: fs }) ha
  rw [← htp] at hes
  subst hS
  have hba : Att.ask { a with asked := false, fs := [] :: f :: fs } = ⟨0, 0, 0⟩ := by simp [Att.ask, hk]
  rcases th_cases hth with rfl | rfl | rfl | rfl
  · refine ends_plan [.pack (GD.att { a with asked := false, fs := [] :: f :: fs }) 7 [12, 13], .pack (GD.eng ({ s with ts := setT s.ts 0 (some { a with asked := false, fs := [] :: f :: fs }), ev := s.ev ++ [⟨4, a.n, 0, 0⟩] })) 0 [1, 2, 3, 18, 5, 6, 7, 8, 9, 10]] [0] ?_ ?_ ?_ <;> simp [frag_att, frag_eng, hba, setT, ha, slotO_some, slotO_none, o1, o2, o3, Rp.v, Rp.cells, rpNone, rpErr, rpDone, rpEnd, rpBusy, evs_append, evs_single, us_set, u8s_set, evs_append, evs_single] <;> exact hes
  · refine ends_plan [.pack (GD.att { a with asked := false, fs := [] :: f :: fs }) 7 [12, 13], .pack (GD.eng ({ s with ts := setT s.ts 1 (some { a with asked := false, fs := [] :: f :: fs }), ev := s.ev ++ [⟨4, a.n, 0, 0⟩] })) 0 [1, 2, 3, 18, 5, 6, 8, 7, 9, 10]] [0] ?_ ?_ ?_ <;> simp [frag_att, frag_eng, hba, setT, ha, slotO_some, slotO_none, o1, o2, o3, Rp.v, Rp.cells, rpNone, rpErr, rpDone, rpEnd, rpBusy, evs_append, evs_single, us_set, u8s_set, evs_append, evs_single] <;> exact hes
  · refine ends_plan [.pack (GD.att { a with asked := false, fs := [] :: f :: fs }) 7 [12, 13], .pack (GD.eng ({ s with ts := setT s.ts 2 (some { a with asked := false, fs := [] :: f :: fs }), ev := s.ev ++ [⟨4, a.n, 0, 0⟩] })) 0 [1, 2, 3, 18, 5, 6, 8, 9, 7, 10]] [0] ?_ ?_ ?_ <;> simp [frag_att, frag_eng, hba, setT, ha, slotO_some, slotO_none, o1, o2, o3, Rp.v, Rp.cells, rpNone, rpErr, rpDone, rpEnd, rpBusy, evs_append, evs_single, us_set, u8s_set, evs_append, evs_single] <;> exact hes
  · refine ends_plan [.pack (GD.att { a with asked := false, fs := [] :: f :: fs }) 7 [12, 13], .pack (GD.eng ({ s with ts := setT s.ts 3 (some { a with asked := false, fs := [] :: f :: fs }), ev := s.ev ++ [⟨4, a.n, 0, 0⟩] })) 0 [1, 2, 3, 18, 5, 6, 8, 9, 10, 7]] [0] ?_ ?_ ?_ <;> simp [frag_att, frag_eng, hba, setT, ha, slotO_some, slotO_none, o1, o2, o3, Rp.v, Rp.cells, rpNone, rpErr, rpDone, rpEnd, rpBusy, evs_append, evs_single, us_set, u8s_set, evs_append, evs_single] <;> exact hes
set_option maxRecDepth 10000 in
set_option maxHeartbeats 4000000 in
theorem step_t4 (s : NS) (hs : s.Ok) (hev : s.ev.length ≤ 100000) (th : Nat) (hth : th < 4) (a : Att) (ha : s.ts th = some a) (hk : a.asked = true) (hat : a.at_ < 4) (hk4 : a.ra.k = 4) (f g : List Pr) (fs : List (List Pr)) (hfs : a.fs = f :: g :: fs) : Runs Tryz.prog cfg 28 [.pointer (some ⟨0, 0, none⟩), .int .i64 th] (AH.of [some (.hi (.eng s))])
    fun r H' => r = .ret (rpDone 0).v ∧ H' = AH.of [some (.hi (.eng ({ s with ts := setT s.ts th (some { a with asked := false, fs := g :: fs }), ev := s.ev ++ [⟨5, a.n, 0, 0⟩] })))] := by
  refine Runs.ends ?_
  generalize hS : (({ s with ts := setT s.ts th (some { a with asked := false, fs := g :: fs }), ev := s.ev ++ [⟨5, a.n, 0, 0⟩] }) : NS) = S'
  refine Runs.openEng hth fun es cc hes => ?_
  have ft := find_th hth hes
  have z1 : ¬ (th : Int) < 0 := by omega
  have z2 : ¬ 4 ≤ (th : Int) := by omega
  have hok := hs.ts th a ha
  have hac := ask_cells1 a hk
  have hk0 : ¬ a.ra.k = 0 := by have := (hok.ask hk).1; omega
  have hel : (s.ev.length + 1) * 32 ≤ 140737488355328 ∧ s.ev.length ≤ 9223372036854775806 := by omega
  have t3 := take_evs s.ev
  have hlo : ¬ 4 ≤ (a.at_ : Int) := by omega
  have hlo2 : ¬ 4 ≤ a.at_ := by omega
  have hgl := hok.fs
  have hne := hok.fs.1
  rw [hfs] at hgl
  have hl5 : fs.length + 1 ≤ 100 := by have := hgl.2.1; simp at this; omega
  refine runs_by (tbl := tblSt) tblSt_ok 0 5 (af := a28) rfl ?_
  rw [a28, b28, run_eq]
  refine ⟨by simp, ?_⟩
  simp (implicitDefEqProofs := false) [engL, tblSt, dataSt, forms79, a79, b79, forms83, a83, b83, forms85, a85, b85, forms86, a86, b86, forms136, a136, b136, forms87, a87, b87, forms89, a89, b89, forms90, a90, b90, forms91, a91, b91, forms142, a142, b142, forms138, a138, b138, z1, z2, ha, ft, tptr, slotO_some, frag_att, hac, hk0, hel, t3, evs_length, hlo, hlo2, d145, hk4, hfs, hl5]
  have htp := tpF_put th s.ts (b := { a with asked := false, fs := g :: fs }) ha
  rw [← htp] at hes
  subst hS
  have hba : Att.ask { a with asked := false, fs := g :: fs } = ⟨0, 0, 0⟩ := by simp [Att.ask, hk]
  rcases th_cases hth with rfl | rfl | rfl | rfl
  · refine ends_plan [.pack (GD.att { a with asked := false, fs := g :: fs }) 7 [12, 13], .pack (GD.eng ({ s with ts := setT s.ts 0 (some { a with asked := false, fs := g :: fs }), ev := s.ev ++ [⟨5, a.n, 0, 0⟩] })) 0 [1, 2, 3, 18, 5, 6, 7, 8, 9, 10]] [0] ?_ ?_ ?_ <;> simp [frag_att, frag_eng, hba, setT, ha, slotO_some, slotO_none, o1, o2, o3, Rp.v, Rp.cells, rpNone, rpErr, rpDone, rpEnd, rpBusy, evs_append, evs_single, us_set, u8s_set, evs_append, evs_single] <;> exact hes
  · refine ends_plan [.pack (GD.att { a with asked := false, fs := g :: fs }) 7 [12, 13], .pack (GD.eng ({ s with ts := setT s.ts 1 (some { a with asked := false, fs := g :: fs }), ev := s.ev ++ [⟨5, a.n, 0, 0⟩] })) 0 [1, 2, 3, 18, 5, 6, 8, 7, 9, 10]] [0] ?_ ?_ ?_ <;> simp [frag_att, frag_eng, hba, setT, ha, slotO_some, slotO_none, o1, o2, o3, Rp.v, Rp.cells, rpNone, rpErr, rpDone, rpEnd, rpBusy, evs_append, evs_single, us_set, u8s_set, evs_append, evs_single] <;> exact hes
  · refine ends_plan [.pack (GD.att { a with asked := false, fs := g :: fs }) 7 [12, 13], .pack (GD.eng ({ s with ts := setT s.ts 2 (some { a with asked := false, fs := g :: fs }), ev := s.ev ++ [⟨5, a.n, 0, 0⟩] })) 0 [1, 2, 3, 18, 5, 6, 8, 9, 7, 10]] [0] ?_ ?_ ?_ <;> simp [frag_att, frag_eng, hba, setT, ha, slotO_some, slotO_none, o1, o2, o3, Rp.v, Rp.cells, rpNone, rpErr, rpDone, rpEnd, rpBusy, evs_append, evs_single, us_set, u8s_set, evs_append, evs_single] <;> exact hes
  · refine ends_plan [.pack (GD.att { a with asked := false, fs := g :: fs }) 7 [12, 13], .pack (GD.eng ({ s with ts := setT s.ts 3 (some { a with asked := false, fs := g :: fs }), ev := s.ev ++ [⟨5, a.n, 0, 0⟩] })) 0 [1, 2, 3, 18, 5, 6, 8, 9, 10, 7]] [0] ?_ ?_ ?_ <;> simp [frag_att, frag_eng, hba, setT, ha, slotO_some, slotO_none, o1, o2, o3, Rp.v, Rp.cells, rpNone, rpErr, rpDone, rpEnd, rpBusy, evs_append, evs_single, us_set, u8s_set, evs_append, evs_single] <;> exact hes
set_option maxRecDepth 10000 in
set_option maxHeartbeats 4000000 in
theorem step_t5 (s : NS) (hs : s.Ok) (hev : s.ev.length ≤ 100000) (th : Nat) (hth : th < 4) (a : Att) (ha : s.ts th = some a) (hk : a.asked = true) (hat : a.at_ < 4) (hk5 : a.ra.k = 5) (f g : List Pr) (fs : List (List Pr)) (hfs : a.fs = f :: g :: fs) : Runs Tryz.prog cfg 28 [.pointer (some ⟨0, 0, none⟩), .int .i64 th] (AH.of [some (.hi (.eng s))])
    fun r H' => r = .ret (rpDone 0).v ∧ H' = AH.of [some (.hi (.eng ({ s with ts := setT s.ts th (some { a with asked := false, fs := mergeF g f :: fs }), ev := s.ev ++ [⟨6, a.n, 0, 0⟩] })))] := by
  refine Runs.ends ?_
  generalize hS : (({ s with ts := setT s.ts th (some { a with asked := false, fs := mergeF g f :: fs }), ev := s.ev ++ [⟨6, a.n, 0, 0⟩] }) : NS) = S'
  refine Runs.openEng hth fun es cc hes => ?_
  have ft := find_th hth hes
  have z1 : ¬ (th : Int) < 0 := by omega
  have z2 : ¬ 4 ≤ (th : Int) := by omega
  have hok := hs.ts th a ha
  have hac := ask_cells1 a hk
  have hk0 : ¬ a.ra.k = 0 := by have := (hok.ask hk).1; omega
  have hel : (s.ev.length + 1) * 32 ≤ 140737488355328 ∧ s.ev.length ≤ 9223372036854775806 := by omega
  have t3 := take_evs s.ev
  have hlo : ¬ 4 ≤ (a.at_ : Int) := by omega
  have hlo2 : ¬ 4 ≤ a.at_ := by omega
  have hgl := hok.fs
  have hne := hok.fs.1
  rw [hfs] at hgl
  refine runs_by (tbl := tblSt) tblSt_ok 0 5 (af := a28) rfl ?_
  rw [a28, b28, run_eq]
  refine ⟨by simp, ?_⟩
  simp (implicitDefEqProofs := false) [engL, tblSt, dataSt, forms79, a79, b79, forms83, a83, b83, forms85, a85, b85, forms86, a86, b86, forms136, a136, b136, forms87, a87, b87, forms89, a89, b89, forms90, a90, b90, forms91, a91, b91, forms142, a142, b142, forms138, a138, b138, z1, z2, ha, ft, tptr, slotO_some, frag_att, hac, hk0, hel, t3, evs_length, hlo, hlo2, d146, hk5, hfs, hgl]
  have htp := tpF_put th s.ts (b := { a with asked := false, fs := mergeF g f :: fs }) ha
  rw [← htp] at hes
  subst hS
  have hba : Att.ask { a with asked := false, fs := mergeF g f :: fs } = ⟨0, 0, 0⟩ := by simp [Att.ask, hk]
  rcases th_cases hth with rfl | rfl | rfl | rfl
  · refine ends_plan [.pack (GD.att { a with asked := false, fs := mergeF g f :: fs }) 7 [12, 13], .pack (GD.eng ({ s with ts := setT s.ts 0 (some { a with asked := false, fs := mergeF g f :: fs }), ev := s.ev ++ [⟨6, a.n, 0, 0⟩] })) 0 [1, 2, 3, 18, 5, 6, 7, 8, 9, 10]] [0] ?_ ?_ ?_ <;> simp [frag_att, frag_eng, hba, setT, ha, slotO_some, slotO_none, o1, o2, o3, Rp.v, Rp.cells, rpNone, rpErr, rpDone, rpEnd, rpBusy, evs_append, evs_single, us_set, u8s_set, evs_append, evs_single] <;> exact hes
  · refine ends_plan [.pack (GD.att { a with asked := false, fs := mergeF g f :: fs }) 7 [12, 13], .pack (GD.eng ({ s with ts := setT s.ts 1 (some { a with asked := false, fs := mergeF g f :: fs }), ev := s.ev ++ [⟨6, a.n, 0, 0⟩] })) 0 [1, 2, 3, 18, 5, 6, 8, 7, 9, 10]] [0] ?_ ?_ ?_ <;> simp [frag_att, frag_eng, hba, setT, ha, slotO_some, slotO_none, o1, o2, o3, Rp.v, Rp.cells, rpNone, rpErr, rpDone, rpEnd, rpBusy, evs_append, evs_single, us_set, u8s_set, evs_append, evs_single] <;> exact hes
  · refine ends_plan [.pack (GD.att { a with asked := false, fs := mergeF g f :: fs }) 7 [12, 13], .pack (GD.eng ({ s with ts := setT s.ts 2 (some { a with asked := false, fs := mergeF g f :: fs }), ev := s.ev ++ [⟨6, a.n, 0, 0⟩] })) 0 [1, 2, 3, 18, 5, 6, 8, 9, 7, 10]] [0] ?_ ?_ ?_ <;> simp [frag_att, frag_eng, hba, setT, ha, slotO_some, slotO_none, o1, o2, o3, Rp.v, Rp.cells, rpNone, rpErr, rpDone, rpEnd, rpBusy, evs_append, evs_single, us_set, u8s_set, evs_append, evs_single] <;> exact hes
  · refine ends_plan [.pack (GD.att { a with asked := false, fs := mergeF g f :: fs }) 7 [12, 13], .pack (GD.eng ({ s with ts := setT s.ts 3 (some { a with asked := false, fs := mergeF g f :: fs }), ev := s.ev ++ [⟨6, a.n, 0, 0⟩] })) 0 [1, 2, 3, 18, 5, 6, 8, 9, 10, 7]] [0] ?_ ?_ ?_ <;> simp [frag_att, frag_eng, hba, setT, ha, slotO_some, slotO_none, o1, o2, o3, Rp.v, Rp.cells, rpNone, rpErr, rpDone, rpEnd, rpBusy, evs_append, evs_single, us_set, u8s_set, evs_append, evs_single] <;> exact hes
set_option maxRecDepth 10000 in
set_option maxHeartbeats 4000000 in
theorem step_t2y (s : NS) (hs : s.Ok) (hev : s.ev.length ≤ 100000) (th : Nat) (hth : th < 4) (a : Att) (ha : s.ts th = some a) (hk : a.asked = true) (hat : a.at_ < 4) (hk2 : a.ra.k = 2) (f : List Pr) (fs : List (List Pr)) (hfs : a.fs = f :: fs) (hP : putCode f fs a.ra.t a.ra.v = 0) : Runs Tryz.prog cfg 28 [.pointer (some ⟨0, 0, none⟩), .int .i64 th] (AH.of [some (.hi (.eng s))])
    fun r H' => r = .ret (rpDone 0).v ∧ H' = AH.of [some (.hi (.eng ({ s with ts := setT s.ts th (some { a with asked := false, fs := putF f ⟨a.ra.t, a.ra.v⟩ :: fs }), ev := s.ev ++ [⟨3, a.n, a.ra.t, a.ra.v⟩] })))] := by
  refine Runs.ends ?_
  generalize hS : (({ s with ts := setT s.ts th (some { a with asked := false, fs := putF f ⟨a.ra.t, a.ra.v⟩ :: fs }), ev := s.ev ++ [⟨3, a.n, a.ra.t, a.ra.v⟩] }) : NS) = S'
  refine Runs.openEng hth fun es cc hes => ?_
  have ft := find_th hth hes
  have z1 : ¬ (th : Int) < 0 := by omega
  have z2 : ¬ 4 ≤ (th : Int) := by omega
  have hok := hs.ts th a ha
  have hac := ask_cells1 a hk
  have hk0 : ¬ a.ra.k = 0 := by have := (hok.ask hk).1; omega
  have hel : (s.ev.length + 1) * 32 ≤ 140737488355328 ∧ s.ev.length ≤ 9223372036854775806 := by omega
  have t3 := take_evs s.ev
  have hlo : ¬ 4 ≤ (a.at_ : Int) := by omega
  have hlo2 : ¬ 4 ≤ a.at_ := by omega
  have hgl := hok.fs
  have hne := hok.fs.1
  rw [hfs] at hgl
  have hrv := (hok.ask hk).2.2.2
  refine runs_by (tbl := tblSt) tblSt_ok 0 5 (af := a28) rfl ?_
  rw [a28, b28, run_eq]
  refine ⟨by simp, ?_⟩
  simp (implicitDefEqProofs := false) [engL, tblSt, dataSt, forms79, a79, b79, forms83, a83, b83, forms85, a85, b85, forms86, a86, b86, forms136, a136, b136, forms87, a87, b87, forms89, a89, b89, forms90, a90, b90, forms91, a91, b91, forms142, a142, b142, forms138, a138, b138, z1, z2, ha, ft, tptr, slotO_some, frag_att, hac, hk0, hel, t3, evs_length, hlo, hlo2, d147, hk2, hfs, hgl, hrv, hP]
  have htp := tpF_put th s.ts (b := { a with asked := false, fs := putF f ⟨a.ra.t, a.ra.v⟩ :: fs }) ha
  rw [← htp] at hes
  subst hS
  have hba : Att.ask { a with asked := false, fs := putF f ⟨a.ra.t, a.ra.v⟩ :: fs } = ⟨0, 0, 0⟩ := by simp [Att.ask, hk]
  rcases th_cases hth with rfl | rfl | rfl | rfl
  · refine ends_plan [.pack (GD.att { a with asked := false, fs := putF f ⟨a.ra.t, a.ra.v⟩ :: fs }) 7 [12, 13], .pack (GD.eng ({ s with ts := setT s.ts 0 (some { a with asked := false, fs := putF f ⟨a.ra.t, a.ra.v⟩ :: fs }), ev := s.ev ++ [⟨3, a.n, a.ra.t, a.ra.v⟩] })) 0 [1, 2, 3, 18, 5, 6, 7, 8, 9, 10]] [0] ?_ ?_ ?_ <;> simp [frag_att, frag_eng, hba, setT, ha, slotO_some, slotO_none, o1, o2, o3, Rp.v, Rp.cells, rpNone, rpErr, rpDone, rpEnd, rpBusy, evs_append, evs_single, us_set, u8s_set, evs_append, evs_single] <;> exact hes
  · refine ends_plan [.pack (GD.att { a with asked := false, fs := putF f ⟨a.ra.t, a.ra.v⟩ :: fs }) 7 [12, 13], .pack (GD.eng ({ s with ts := setT s.ts 1 (some { a with asked := false, fs := putF f ⟨a.ra.t, a.ra.v⟩ :: fs }), ev := s.ev ++ [⟨3, a.n, a.ra.t, a.ra.v⟩] })) 0 [1, 2, 3, 18, 5, 6, 8, 7, 9, 10]] [0] ?_ ?_ ?_ <;> simp [frag_att, frag_eng, hba, setT, ha, slotO_some, slotO_none, o1, o2, o3, Rp.v, Rp.cells, rpNone, rpErr, rpDone, rpEnd, rpBusy, evs_append, evs_single, us_set, u8s_set, evs_append, evs_single] <;> exact hes
  · refine ends_plan [.pack (GD.att { a with asked := false, fs := putF f ⟨a.ra.t, a.ra.v⟩ :: fs }) 7 [12, 13], .pack (GD.eng ({ s with ts := setT s.ts 2 (some { a with asked := false, fs := putF f ⟨a.ra.t, a.ra.v⟩ :: fs }), ev := s.ev ++ [⟨3, a.n, a.ra.t, a.ra.v⟩] })) 0 [1, 2, 3, 18, 5, 6, 8, 9, 7, 10]] [0] ?_ ?_ ?_ <;> simp [frag_att, frag_eng, hba, setT, ha, slotO_some, slotO_none, o1, o2, o3, Rp.v, Rp.cells, rpNone, rpErr, rpDone, rpEnd, rpBusy, evs_append, evs_single, us_set, u8s_set, evs_append, evs_single] <;> exact hes
  · refine ends_plan [.pack (GD.att { a with asked := false, fs := putF f ⟨a.ra.t, a.ra.v⟩ :: fs }) 7 [12, 13], .pack (GD.eng ({ s with ts := setT s.ts 3 (some { a with asked := false, fs := putF f ⟨a.ra.t, a.ra.v⟩ :: fs }), ev := s.ev ++ [⟨3, a.n, a.ra.t, a.ra.v⟩] })) 0 [1, 2, 3, 18, 5, 6, 8, 9, 10, 7]] [0] ?_ ?_ ?_ <;> simp [frag_att, frag_eng, hba, setT, ha, slotO_some, slotO_none, o1, o2, o3, Rp.v, Rp.cells, rpNone, rpErr, rpDone, rpEnd, rpBusy, evs_append, evs_single, us_set, u8s_set, evs_append, evs_single] <;> exact hes
set_option maxRecDepth 10000 in
set_option maxHeartbeats 4000000 in
theorem step_t2fh (s : NS) (hs : s.Ok) (hev : s.ev.length ≤ 100000) (th : Nat) (hth : th < 4) (a : Att) (ha : s.ts th = some a) (hk : a.asked = true) (hat : a.at_ < 4) (hk2 : a.ra.k = 2) (f : List Pr) (fs : List (List Pr)) (hfs : a.fs = f :: fs) (hP : ¬ putCode f fs a.ra.t a.ra.v = 0) (ho : s.o = some (th : Int)) : Runs Tryz.prog cfg 28 [.pointer (some ⟨0, 0, none⟩), .int .i64 th] (AH.of [some (.hi (.eng s))])
    fun r H' => r = .ret (rpEnd 2).v ∧ H' = AH.of [some (.hi (.eng (endS s th a 2)))] := by
  refine Runs.ends ?_
  generalize hS : ((endS s th a 2) : NS) = S'
  refine Runs.openEng hth fun es cc hes => ?_
  have ft := find_th hth hes
  have z1 : ¬ (th : Int) < 0 := by omega
  have z2 : ¬ 4 ≤ (th : Int) := by omega
  have hok := hs.ts th a ha
  have hac := ask_cells1 a hk
  have hk0 : ¬ a.ra.k = 0 := by have := (hok.ask hk).1; omega
  have hel : (s.ev.length + 1) * 32 ≤ 140737488355328 ∧ s.ev.length ≤ 9223372036854775806 := by omega
  have t3 := take_evs s.ev
  have hlo : ¬ 4 ≤ (a.at_ : Int) := by omega
  have hlo2 : ¬ 4 ≤ a.at_ := by omega
  have hgl := hok.fs
  rw [hfs] at hgl
  have hrv := (hok.ask hk).2.2.2
  have hnw3 : a.n + 1 ≤ s.wy.length := hok.n
  have hcw : IntKind.u64.wrap (s.c - 1) = s.c - 1 := by have h1 := hs.held _ ho; have h2 := hs.c; exact wrap_u64 (by omega) (by omega)
  have hnw := hok.n
  have hnw2 : (a.n : Int) < s.wy.length := by omega
  obtain ⟨es2, hdel, hes2⟩ := del_th hth hes
  refine runs_by (tbl := tblSt) tblSt_ok 0 5 (af := a28) rfl ?_
  rw [a28, b28, run_eq]
  refine ⟨by simp, ?_⟩
  simp (implicitDefEqProofs := false) [engL, tblSt, dataSt, forms79, a79, b79, forms83, a83, b83, forms85, a85, b85, forms86, a86, b86, forms136, a136, b136, forms87, a87, b87, forms89, a89, b89, forms90, a90, b90, forms91, a91, b91, forms142, a142, b142, forms138, a138, b138, z1, z2, ha, ft, tptr, slotO_some, frag_att, hac, hk0, hel, t3, evs_length, d147, hlo, hlo2, hk2, hfs, hgl, hrv, hP, d135, ho, hnw, hnw2, hnw3, u8s_length, u8s_set, hcw, hdel]
  subst hS
  have hba : True := trivial
  rcases th_cases hth with rfl | rfl | rfl | rfl
  · have ho0 : s.o = some 0 := ho
    refine ends_plan [.nil 100, .pack (GD.eng (endS s 0 a 2)) 0 [1, 2, 3, 19, 5, 6, 20, 8, 9, 10]] [0] ?_ ?_ ?_ <;> simp [frag_att, frag_eng, hba, setT, ha, slotO_some, slotO_none, o1, o2, o3, Rp.v, Rp.cells, rpNone, rpErr, rpDone, rpEnd, rpBusy, evs_append, evs_single, us_set, u8s_set, endS, ho0] <;> exact hes2
  · have ho0 : s.o = some 1 := ho
    refine ends_plan [.nil 100, .pack (GD.eng (endS s 1 a 2)) 0 [1, 2, 3, 19, 5, 6, 8, 20, 9, 10]] [0] ?_ ?_ ?_ <;> simp [frag_att, frag_eng, hba, setT, ha, slotO_some, slotO_none, o1, o2, o3, Rp.v, Rp.cells, rpNone, rpErr, rpDone, rpEnd, rpBusy, evs_append, evs_single, us_set, u8s_set, endS, ho0] <;> exact hes2
  · have ho0 : s.o = some 2 := ho
    refine ends_plan [.nil 100, .pack (GD.eng (endS s 2 a 2)) 0 [1, 2, 3, 19, 5, 6, 8, 9, 20, 10]] [0] ?_ ?_ ?_ <;> simp [frag_att, frag_eng, hba, setT, ha, slotO_some, slotO_none, o1, o2, o3, Rp.v, Rp.cells, rpNone, rpErr, rpDone, rpEnd, rpBusy, evs_append, evs_single, us_set, u8s_set, endS, ho0] <;> exact hes2
  · have ho0 : s.o = some 3 := ho
    refine ends_plan [.nil 100, .pack (GD.eng (endS s 3 a 2)) 0 [1, 2, 3, 19, 5, 6, 8, 9, 10, 20]] [0] ?_ ?_ ?_ <;> simp [frag_att, frag_eng, hba, setT, ha, slotO_some, slotO_none, o1, o2, o3, Rp.v, Rp.cells, rpNone, rpErr, rpDone, rpEnd, rpBusy, evs_append, evs_single, us_set, u8s_set, endS, ho0] <;> exact hes2
set_option maxRecDepth 10000 in
set_option maxHeartbeats 4000000 in
theorem step_t2ff (s : NS) (hs : s.Ok) (hev : s.ev.length ≤ 100000) (th : Nat) (hth : th < 4) (a : Att) (ha : s.ts th = some a) (hk : a.asked = true) (hat : a.at_ < 4) (hk2 : a.ra.k = 2) (f : List Pr) (fs : List (List Pr)) (hfs : a.fs = f :: fs) (hP : ¬ putCode f fs a.ra.t a.ra.v = 0) (ho : ¬ s.o = some (th : Int)) : Runs Tryz.prog cfg 28 [.pointer (some ⟨0, 0, none⟩), .int .i64 th] (AH.of [some (.hi (.eng s))])
    fun r H' => r = .ret (rpEnd 2).v ∧ H' = AH.of [some (.hi (.eng (endS s th a 2)))] := by
  refine Runs.ends ?_
  generalize hS : ((endS s th a 2) : NS) = S'
  refine Runs.openEng hth fun es cc hes => ?_
  have ft := find_th hth hes
  have z1 : ¬ (th : Int) < 0 := by omega
  have z2 : ¬ 4 ≤ (th : Int) := by omega
  have hok := hs.ts th a ha
  have hac := ask_cells1 a hk
  have hk0 : ¬ a.ra.k = 0 := by have := (hok.ask hk).1; omega
  have hel : (s.ev.length + 1) * 32 ≤ 140737488355328 ∧ s.ev.length ≤ 9223372036854775806 := by omega
  have t3 := take_evs s.ev
  have hlo : ¬ 4 ≤ (a.at_ : Int) := by omega
  have hlo2 : ¬ 4 ≤ a.at_ := by omega
  have hgl := hok.fs
  rw [hfs] at hgl
  have hrv := (hok.ask hk).2.2.2
  have hnw3 : a.n + 1 ≤ s.wy.length := hok.n
  have hnw := hok.n
  have hnw2 : (a.n : Int) < s.wy.length := by omega
  obtain ⟨es2, hdel, hes2⟩ := del_th hth hes
  refine runs_by (tbl := tblSt) tblSt_ok 0 5 (af := a28) rfl ?_
  rw [a28, b28, run_eq]
  refine ⟨by simp, ?_⟩
  simp (implicitDefEqProofs := false) [engL, tblSt, dataSt, forms79, a79, b79, forms83, a83, b83, forms85, a85, b85, forms86, a86, b86, forms136, a136, b136, forms87, a87, b87, forms89, a89, b89, forms90, a90, b90, forms91, a91, b91, forms142, a142, b142, forms138, a138, b138, z1, z2, ha, ft, tptr, slotO_some, frag_att, hac, hk0, hel, t3, evs_length, d147, hlo, hlo2, hk2, hfs, hgl, hrv, hP, d135, ho, hnw, hnw2, hnw3, u8s_length, u8s_set, hdel]
  subst hS
  have hba : True := trivial
  rcases th_cases hth with rfl | rfl | rfl | rfl
  · have ho0 : ¬ s.o = some 0 := ho
    refine ends_plan [.nil 100, .pack (GD.eng (endS s 0 a 2)) 0 [1, 2, 3, 19, 5, 6, 20, 8, 9, 10]] [0] ?_ ?_ ?_ <;> simp [frag_att, frag_eng, hba, setT, ha, slotO_some, slotO_none, o1, o2, o3, Rp.v, Rp.cells, rpNone, rpErr, rpDone, rpEnd, rpBusy, evs_append, evs_single, us_set, u8s_set, endS, ho0] <;> exact hes2
  · have ho0 : ¬ s.o = some 1 := ho
    refine ends_plan [.nil 100, .pack (GD.eng (endS s 1 a 2)) 0 [1, 2, 3, 19, 5, 6, 8, 20, 9, 10]] [0] ?_ ?_ ?_ <;> simp [frag_att, frag_eng, hba, setT, ha, slotO_some, slotO_none, o1, o2, o3, Rp.v, Rp.cells, rpNone, rpErr, rpDone, rpEnd, rpBusy, evs_append, evs_single, us_set, u8s_set, endS, ho0] <;> exact hes2
  · have ho0 : ¬ s.o = some 2 := ho
    refine ends_plan [.nil 100, .pack (GD.eng (endS s 2 a 2)) 0 [1, 2, 3, 19, 5, 6, 8, 9, 20, 10]] [0] ?_ ?_ ?_ <;> simp [frag_att, frag_eng, hba, setT, ha, slotO_some, slotO_none, o1, o2, o3, Rp.v, Rp.cells, rpNone, rpErr, rpDone, rpEnd, rpBusy, evs_append, evs_single, us_set, u8s_set, endS, ho0] <;> exact hes2
  · have ho0 : ¬ s.o = some 3 := ho
    refine ends_plan [.nil 100, .pack (GD.eng (endS s 3 a 2)) 0 [1, 2, 3, 19, 5, 6, 8, 9, 10, 20]] [0] ?_ ?_ ?_ <;> simp [frag_att, frag_eng, hba, setT, ha, slotO_some, slotO_none, o1, o2, o3, Rp.v, Rp.cells, rpNone, rpErr, rpDone, rpEnd, rpBusy, evs_append, evs_single, us_set, u8s_set, endS, ho0] <;> exact hes2
end YtnemoimbeefngaaGreat
end Go.Proofs
/-
  NOREC: Step, all together.
-/
set_option linter.unusedSimpArgs false
set_option linter.unusedVariables false
set_option linter.unnecessarySimpa false
set_option linter.unusedSectionVars false
namespace Go.Proofs
namespace YtnemoimbeefngaaGreat
open Go.Abs
set_option linter.unusedSimpArgs false

theorem step_none (s : NS) (th : Nat) (hth : th < 4) (hb : s.ts th = none ∨ ∃ a, s.ts th = some a ∧ a.asked = false) : Runs Tryz.prog cfg 28 [.pointer (some ⟨0, 0, none⟩), .int .i64 th] (AH.of [some (.hi (.eng s))])
    fun r H' => r = .ret (rpErr 8).v ∧ H' = AH.of [some (.hi (.eng s))] := by
  refine Runs.ends ?_
  refine Runs.openEng hth fun es cc hes => ?_
  have ft := find_th hth hes
  have z1 : ¬ (th : Int) < 0 := by omega
  have z2 : ¬ 4 ≤ (th : Int) := by omega
  rcases hb with ha | ⟨a, ha, hf⟩
  · refine runs_by (tbl := []) (by simp) 0 3 (af := a28) rfl ?_
    rw [a28, b28, run_eq]
    refine ⟨by simp, ?_⟩
    simp (implicitDefEqProofs := false) [engL, forms79, a79, b79, z1, z2, ha, ft, tptr]
    rcases th_cases hth with rfl | rfl | rfl | rfl
    · refine ends_plan [.pack (GD.eng s) 0 [1, 2, 3, 4, 5, 6, 7, 8, 9, 10]] [0] ?_ ?_ ?_ <;> simp [frag_eng, ha, o1, o2, o3, rpErr, Rp.v, Rp.cells] <;> exact hes
    · refine ends_plan [.pack (GD.eng s) 0 [1, 2, 3, 4, 5, 6, 8, 7, 9, 10]] [0] ?_ ?_ ?_ <;> simp [frag_eng, ha, o1, o2, o3, rpErr, Rp.v, Rp.cells] <;> exact hes
    · refine ends_plan [.pack (GD.eng s) 0 [1, 2, 3, 4, 5, 6, 8, 9, 7, 10]] [0] ?_ ?_ ?_ <;> simp [frag_eng, ha, o1, o2, o3, rpErr, Rp.v, Rp.cells] <;> exact hes
    · refine ends_plan [.pack (GD.eng s) 0 [1, 2, 3, 4, 5, 6, 8, 9, 10, 7]] [0] ?_ ?_ ?_ <;> simp [frag_eng, ha, o1, o2, o3, rpErr, Rp.v, Rp.cells] <;> exact hes
  · have hac := ask_cells a hf
    refine runs_by (tbl := []) (by simp) 0 3 (af := a28) rfl ?_
    rw [a28, b28, run_eq]
    refine ⟨by simp, ?_⟩
    simp (implicitDefEqProofs := false) [engL, forms79, a79, b79, z1, z2, ha, ft, tptr, slotO_some, frag_att, hac]
    rcases th_cases hth with rfl | rfl | rfl | rfl
    · refine ends_plan [.pack (GD.att a) 7 [12, 13], .pack (GD.eng s) 0 [1, 2, 3, 4, 5, 6, 7, 8, 9, 10]] [0] ?_ ?_ ?_ <;> simp [frag_att, frag_eng, hac, ha, slotO_some, o1, o2, o3, rpErr, Rp.v, Rp.cells] <;> exact hes
    · refine ends_plan [.pack (GD.att a) 7 [12, 13], .pack (GD.eng s) 0 [1, 2, 3, 4, 5, 6, 8, 7, 9, 10]] [0] ?_ ?_ ?_ <;> simp [frag_att, frag_eng, hac, ha, slotO_some, o1, o2, o3, rpErr, Rp.v, Rp.cells] <;> exact hes
    · refine ends_plan [.pack (GD.att a) 7 [12, 13], .pack (GD.eng s) 0 [1, 2, 3, 4, 5, 6, 8, 9, 7, 10]] [0] ?_ ?_ ?_ <;> simp [frag_att, frag_eng, hac, ha, slotO_some, o1, o2, o3, rpErr, Rp.v, Rp.cells] <;> exact hes
    · refine ends_plan [.pack (GD.att a) 7 [12, 13], .pack (GD.eng s) 0 [1, 2, 3, 4, 5, 6, 8, 9, 10, 7]] [0] ?_ ?_ ?_ <;> simp [frag_att, frag_eng, hac, ha, slotO_some, o1, o2, o3, rpErr, Rp.v, Rp.cells] <;> exact hes
theorem step_range (d : GD) (t : Int) (ht : t < 0 ∨ 4 ≤ t) : Runs Tryz.prog cfg 28 [.pointer (some ⟨0, 0, none⟩), .int .i64 t] (AH.of [some (.hi d)])
    fun r H' => r = .ret (rpErr 2).v ∧ H' = AH.of [some (.hi d)] := by
  refine Runs.ends ?_
  have ht' : ¬ t < 0 → 4 ≤ t := fun h => by omega
  refine runs_by (tbl := []) (by simp) 0 3 (af := a28) rfl ?_
  rw [a28, b28, run_eq]
  refine ⟨by simp, ?_⟩
  by_cases h1 : t < 0
  · simp (implicitDefEqProofs := false) [forms79, a79, b79, h1]
    refine ends_plan [] [0] ?_ ?_ ?_ <;> simp [rpErr, Rp.v, Rp.cells]
  · simp (implicitDefEqProofs := false) [forms79, a79, b79, h1, ht' h1]
    refine ends_plan [] [0] ?_ ?_ ?_ <;> simp [rpErr, Rp.v, Rp.cells]
/-- Two states that are one. -/
theorem runs_as {f : FuncId} {args : List Value} {H : AH GD} {r r' : Rp} {s s' : NS} (h : Runs Tryz.prog cfg f args H fun r1 H' => r1 = .ret r.v ∧ H' = AH.of [some (.hi (.eng s))]) (e : (r, s) = (r', s')) :
    Runs Tryz.prog cfg f args H fun r1 H' => r1 = .ret r'.v ∧ H' = AH.of [some (.hi (.eng s'))] := by
  cases e; exact h
theorem with_at {s : NS} {th : Nat} {a : Att} {n : Nat} (h : a.at_ = n) : ({ a with at_ := n } : Att) = a := by cases a; simp_all
theorem range_fst {s : NS} {a : Att} (h : a.Ok s) {p : Pr} (hp : p ∈ allL a.fs) : 0 ≤ p.t ∧ p.t < s.hp.length := by
  unfold allL allN at hp
  obtain ⟨t, _, ht⟩ := List.mem_filterMap.1 hp
  simp only [Option.map_eq_some_iff] at ht
  obtain ⟨v, hv, rfl⟩ := ht
  -- the frame's pair
  have : ∃ f ∈ a.fs, ∃ q ∈ f, q.t = (t : Int) := by
    unfold getLog at hv
    obtain ⟨f, hf, hg⟩ := List.exists_of_findSome?_eq_some hv
    refine ⟨f, hf, ?_⟩
    unfold getP at hg
    simp only [Option.map_eq_some_iff] at hg
    obtain ⟨q, hq, _⟩ := hg
    exact ⟨q, List.mem_of_find?_eq_some hq, by simpa using List.find?_some hq⟩
  obtain ⟨f, hf, q, hq, hqt⟩ := this
  have := h.fst f hf q hq
  simp only
  rw [← hqt]
  exact ⟨this.1, this.2.1⟩
set_option maxHeartbeats 4000000 in
theorem runs_step (s : NS) (hs : s.Ok) (hev : s.ev.length ≤ 100000) (th : Nat) (hth : th < 4) :
    Runs Tryz.prog cfg 28 [.pointer (some ⟨0, 0, none⟩), .int .i64 th] (AH.of [some (.hi (.eng s))])
    fun r H' => r = .ret (stepS s th).1.v ∧ H' = AH.of [some (.hi (.eng (stepS s th).2))] := by
  cases ha : s.ts th with
  | none => exact runs_as (step_none s th hth (.inl ha)) (by simp [stepS, ha])
  | some a =>
    cases hk : a.asked with
    | false => exact runs_as (step_none s th hth (.inr ⟨a, ha, hk⟩)) (by simp [stepS, ha, hk])
    | true =>
      have hok := hs.ts th a ha
      have hask := hok.ask hk
      by_cases h4 : 4 ≤ a.at_
      · have e0 : stepS s th = againS s th a := by simp [stepS, ha, hk, h4]
        rw [e0]
        have h6 := hok.at_
        have hat : a.at_ = 4 ∨ a.at_ = 5 ∨ a.at_ = 6 := by omega
        rcases hat with hat | hat | hat
        · cases ho : s.o with
          | none => exact runs_as (step_a4n s hs hev th hth a ha hk hat ho) (by simp [againS, hat, ho, putA])
          | some x => exact runs_as (step_a4b s hs hev th hth a ha hk x hat ho) (by simp [againS, hat, ho])
        · cases hx : a.es[a.nx]? with
          | none =>
            have hge : a.es.length ≤ a.nx := List.getElem?_eq_none_iff.1 hx
            by_cases hnx : a.nx = a.es.length
            · exact runs_as (step_a5e s hs hev th hth a ha hk hat hnx) (by simp [againS, hat, hx, putA])
            · exact absurd (Nat.le_antisymm (hok.la hat) hge) hnx
          | some e =>
            cases hsm : sameB ((s.hp[e.t.toNat]?).getD 0) e.v with
            | true => exact runs_as (step_a5o s hs hev th hth a ha hk e hat hx hsm) (by simp [againS, hat, hx, hsm, putA])
            | false =>
              by_cases ho : s.o = some (th : Int)
              · exact runs_as (step_a5ch s hs hev th hth a ha hk e hat hx hsm ho) (by simp [againS, hat, hx, hsm])
              · exact runs_as (step_a5cf s hs hev th hth a ha hk e hat hx hsm ho) (by simp [againS, hat, hx, hsm])
        · by_cases hc : s.c = a.seen
          · exact runs_as (step_a6y s hs hev th hth a ha hk hat hc) (by simp [againS, hat, hc])
          · exact runs_as (step_a6n s hs hev th hth a ha hk hat hc) (by simp [againS, hat, hc, putA])
      · have hlt : a.at_ < 4 := by omega
        have hkk : a.ra.k = 1 ∨ a.ra.k = 2 ∨ a.ra.k = 3 ∨ a.ra.k = 4 ∨ a.ra.k = 5 ∨ a.ra.k = 6 ∨ a.ra.k = 7 := by have := hask.1; have := hask.2.1; omega
        obtain ⟨f, fs, hfs⟩ : ∃ f fs, a.fs = f :: fs := by
          cases h : a.fs with
          | nil => exact absurd h hok.fs.1
          | cons f fs => exact ⟨f, fs, rfl⟩
        have hwt := hok.ww hk
        rcases hkk with k1 | k2 | k3 | k4 | k5 | k6 | k7
        · have e0 : stepS s th = readS s th a := by simp [stepS, ha, hk, h4, k1]
          rw [e0]
          cases hv : getLog a.fs a.ra.t with
          | some v => exact runs_as (step_rg s hs hev th hth a ha hk hlt k1 v hv) (by simp [readS, hv])
          | none =>
            have h1 := hok.kr hk hlt k1
            have hra := hask.2.2.1 (.inl k1)
            obtain ⟨y, hy⟩ : ∃ y, s.hp[a.ra.t.toNat]? = some y := ⟨s.hp[a.ra.t.toNat]'(by omega), List.getElem?_eq_getElem (by omega)⟩
            have hat : a.at_ = 0 ∨ a.at_ = 1 := by omega
            rcases hat with hat | hat
            · exact runs_as (step_r0 s hs hev th hth a ha hk hat k1 hv y hy) (by simp [readS, hv, hat, hy, putA])
            · by_cases hc : s.c = a.snap
              · by_cases hA : addCode a.es ⟨a.ra.t, a.val, 0⟩ = 0
                · exact runs_as (step_r1g s hs hev th hth a ha hk hat k1 hv hc hA) (by simp [readS, hv, hat, hc, hA])
                · by_cases ho : s.o = some (th : Int)
                  · exact runs_as (step_r1fh s hs hev th hth a ha hk hat k1 hv hc hA ho) (by simp [readS, hv, hat, hc, hA])
                  · exact runs_as (step_r1ff s hs hev th hth a ha hk hat k1 hv hc hA ho) (by simp [readS, hv, hat, hc, hA])
              · exact runs_as (step_r1l s hs hev th hth a ha hk hat k1 hv hc) (by simp [readS, hv, hat, hc, putA])
        · have e0 : stepS s th = turnS s th a := by simp [stepS, ha, hk, h4, k2]
          rw [e0]
          by_cases hP : putCode f fs a.ra.t a.ra.v = 0
          · exact runs_as (step_t2y s hs hev th hth a ha hk hlt k2 f fs hfs hP) (by simp [turnS, k2, hfs, putCs, putFs, hP])
          · by_cases ho : s.o = some (th : Int)
            · exact runs_as (step_t2fh s hs hev th hth a ha hk hlt k2 f fs hfs hP ho) (by simp [turnS, k2, hfs, putCs, hP])
            · exact runs_as (step_t2ff s hs hev th hth a ha hk hlt k2 f fs hfs hP ho) (by simp [turnS, k2, hfs, putCs, hP])
        · have e0 : stepS s th = turnS s th a := by simp [stepS, ha, hk, h4, k3]
          rw [e0]
          have hl := hwt.1 k3
          rw [hfs] at hl
          have hl4 : ¬ 4 ≤ fs.length := by simp at hl; omega
          have hl5 : ¬ 5 ≤ fs.length + 1 := by omega
          exact runs_as (step_t3 s hs hev th hth a ha hk hlt k3 f fs hfs hl4) (by simp [turnS, k3, hfs, pushF, hl4])
        · have e0 : stepS s th = turnS s th a := by simp [stepS, ha, hk, h4, k4]
          rw [e0]
          have hl := hwt.2 (.inl k4)
          rw [hfs] at hl
          cases fs with
          | nil => simp at hl
          | cons g rs => exact runs_as (step_t4 s hs hev th hth a ha hk hlt k4 f g rs hfs) (by simp [turnS, k4, hfs, dropF])
        · have e0 : stepS s th = turnS s th a := by simp [stepS, ha, hk, h4, k5]
          rw [e0]
          have hl := hwt.2 (.inr k5)
          rw [hfs] at hl
          cases fs with
          | nil => simp at hl
          | cons g rs => exact runs_as (step_t5 s hs hev th hth a ha hk hlt k5 f g rs hfs) (by simp [turnS, k5, hfs, mergeFs])
        · have e0 : stepS s th = goOnS s th a := by simp [stepS, ha, hk, h4, k6]
          rw [e0]
          have hat : a.at_ = 0 ∨ a.at_ = 1 ∨ a.at_ = 2 ∨ a.at_ = 3 := by omega
          rcases hat with hat | hat | hat | hat
          · by_cases hall : allL a.fs = []
            · exact runs_as (step_g0e s hs hev th hth a ha hk hat k6 hall) (by simp [goOnS, hat, hall])
            · exact runs_as (step_g0n s hs hev th hth a ha hk hat k6 hall) (by simp [goOnS, hat, hall])
          · by_cases ht : tryE s.o s.c th a.snap = 0
            · exact runs_as (step_g1y s hs hev th hth a ha hk hat k6 ht) (by simp [goOnS, hat, ht])
            · by_cases ht4 : tryE s.o s.c th a.snap = 4
              · have ho : ¬ s.o = some (th : Int) := fun ho => by
                  have z1 : ¬ (th : Int) < 0 := by omega
                  have z2 : ¬ 4 ≤ (th : Int) := by omega
                  rw [ho] at ht4
                  simp [tryE, z1, z2] at ht4
                exact runs_as (step_g1ff s hs hev th hth a ha hk hat k6 ht4 ho) (by simp [goOnS, hat, ht4])
              · exact runs_as (step_g1l s hs hev th hth a ha hk hat k6 ht ht4) (by simp [goOnS, hat, ht, ht4, putA])
          · have hw := hok.wr hk hat
            obtain ⟨p, hp⟩ : ∃ p, (allL a.fs)[a.nx]? = some p := ⟨_, List.getElem?_eq_getElem hw⟩
            have hpr := range_fst hok (List.mem_of_getElem? hp)
            by_cases hl : a.nx + 1 = (allL a.fs).length
            · exact runs_as (step_g2l s hs hev th hth a ha hk hat k6 p hp hpr hl) (by simp [goOnS, hat, hp, hl])
            · exact runs_as (step_g2m s hs hev th hth a ha hk hat k6 p hp hpr hl) (by simp [goOnS, hat, hp, hl])
          · exact runs_as (step_g3 s hs hev th hth a ha hk hat k6 ((hs.dec th a ha).1 ((hs.dec th a ha).2 hk k6 (.inr hat))).1) (by simp [goOnS, hat])
        · have e0 : stepS s th = (rpEnd 4, endS s th a 4) := by simp [stepS, ha, hk, h4, k7]
          rw [e0]
          by_cases ho : s.o = some (th : Int)
          · exact step_k7h s hs hev th hth a ha hk hlt k7 ho
          · exact step_k7f s hs hev th hth a ha hk hlt k7 ho
end YtnemoimbeefngaaGreat
end Go.Proofs
/-
  WRITES: what is good stays so.
-/
set_option linter.unusedSimpArgs false
set_option linter.unusedVariables false
set_option linter.unnecessarySimpa false
set_option linter.unusedSectionVars false
namespace Go.Proofs
namespace YtnemoimbeefngaaGreat
open Go.Abs
set_option linter.unusedSimpArgs false

theorem good_log_nil : GoodLog [[]] := ⟨by simp, by simp, by simp [lenLog]⟩
theorem putF_len {f : List Pr} {p : Pr} : (putF f p).length = f.length ∨ (getP f p.t = none ∧ (putF f p).length = f.length + 1) := by
  induction f with
  | nil => exact .inr ⟨rfl, rfl⟩
  | cons a f ih =>
    simp only [putF]
    split
    · exact .inl rfl
    · rename_i h
      have e : getP (a :: f) p.t = getP f p.t := by simp [getP, h]
      rcases ih with h1 | ⟨h1, h2⟩
      · exact .inl (by simp [h1])
      · exact .inr ⟨by rw [e]; exact h1, by simp [h2]⟩
theorem put_good {f : List Pr} {fs : List (List Pr)} {t v : Int} (h : GoodLog (f :: fs)) (hc : putCode f fs t v = 0) : GoodLog (putF f ⟨t, v⟩ :: fs) := by
  refine ⟨by simp, by simpa using h.2.1, ?_⟩
  have h16 := h.2.2
  rw [lenLog_cons] at h16 ⊢
  rcases putF_len (f := f) (p := ⟨t, v⟩) with h1 | ⟨h1, h2⟩
  · rw [h1]; exact h16
  · unfold putCode at hc
    split at hc
    · cases hc
    · split at hc
      · cases hc
      · split at hc
        · cases hc
        · rename_i h3
          have h1' : getP f t = none := h1
          rw [h1', lenLog_cons] at h3
          simp at h3
          rw [h2]
          omega
theorem merge_good {f g : List Pr} {fs : List (List Pr)} (h : GoodLog (f :: g :: fs)) : GoodLog (mergeF g f :: fs) := by
  refine ⟨by simp, by have := h.2.1; simp at this ⊢; omega, ?_⟩
  have h16 := h.2.2
  have := mergeF_le g f
  rw [lenLog_cons, lenLog_cons] at h16
  rw [lenLog_cons]
  omega
theorem drop_good {f g : List Pr} {fs : List (List Pr)} (h : GoodLog (f :: g :: fs)) : GoodLog (g :: fs) := by
  refine ⟨by simp, by have := h.2.1; simp at this ⊢; omega, ?_⟩
  have h16 := h.2.2
  rw [lenLog_cons] at h16
  omega
theorem push_good {f : List Pr} {fs : List (List Pr)} (h : GoodLog (f :: fs)) (hl : (f :: fs).length < 5) : GoodLog ([] :: f :: fs) := by
  refine ⟨by simp, by simp at hl ⊢; omega, ?_⟩
  have h16 := h.2.2
  rw [lenLog_cons]
  simpa using h16
end YtnemoimbeefngaaGreat
end Go.Proofs
/-
  NOREC: what holds of it stays so.
-/
set_option linter.unusedSimpArgs false
set_option linter.unusedVariables false
set_option linter.unnecessarySimpa false
set_option linter.unusedSectionVars false
namespace Go.Proofs
namespace YtnemoimbeefngaaGreat
open Go.Abs
set_option linter.unusedSimpArgs false

theorem Att.Ok.mono {a : Att} {s s' : NS} (h : a.Ok s) (h1 : s.wy.length ≤ s'.wy.length) (h2 : s'.hp.length = s.hp.length) (h3 : s.c ≤ s'.c) : a.Ok s' where
  n := Nat.lt_of_lt_of_le h.n h1
  snap := ⟨h.snap.1, Int.le_trans h.snap.2 h3⟩
  es := h.es
  est := by rw [h2]; exact h.est
  fs := h.fs
  fst := by rw [h2]; exact h.fst
  seen := ⟨h.seen.1, Int.le_trans h.seen.2 h3⟩
  val := h.val
  at_ := h.at_
  back := h.back
  nx := h.nx
  ask := by rw [h2]; exact h.ask
  wr := h.wr
  kr := h.kr
  ko := h.ko
  kb := h.kb
  la := h.la
  ww := h.ww
  ne := h.ne
/-- Of one thread something else is said; all others are as they were. -/
theorem NS.Ok.turn {s s' : NS} (hs : s.Ok) {th : Nat} (hth : th < 4) {x : Option Att} (hts : s'.ts = setT s.ts th x) (hhp : s'.hp.length = s.hp.length) (hhv : ∀ v ∈ s'.hp, 0 ≤ v ∧ v < 18446744073709551616) (hc : s.c ≤ s'.c ∧ s'.c ≤ 1099511627776)
    (hh : ∀ x, s'.o = some x → 1 ≤ s'.c ∧ s'.c ≤ 1099511627775) (hky : s'.ky.length ≤ 64) (hkw : s'.wy.length = s'.ky.length) (hwl : s.wy.length ≤ s'.wy.length) (hb : ∀ b, x = some b → b.Ok s')
    (hown : ∀ x, s'.o = some x → ∃ (th : Nat) (a : Att), x = (th : Int) ∧ s'.ts th = some a ∧ a.dec = true) (hdec : ∀ i a, s'.ts i = some a → DecOk s'.o i a) : s'.Ok where
  hp := by rw [hhp]; exact hs.hp
  hv := hhv
  c := ⟨Int.le_trans hs.c.1 hc.1, hc.2⟩
  held' := hh
  ky := hky
  kw := hkw
  ts := fun i a hi => by
    rw [hts] at hi
    by_cases he : i = th
    · subst he; rw [setT_self] at hi; exact hb a hi
    · rw [setT_other _ _ he] at hi; exact (hs.ts i a hi).mono hwl hhp hc.1
  own := hown
  dec := hdec
  th4 := fun i hi => by rw [hts, setT_other _ _ (by omega)]; exact hs.th4 i hi
theorem not_held {s : NS} (hs : s.Ok) {th : Nat} {a : Att} (ha : s.ts th = some a) (hd : a.dec = false) : ¬ s.o = some (th : Int) := fun ho => by
  obtain ⟨i, b, h1, h2, h3⟩ := hs.own _ ho
  have : i = th := by omega
  subst this
  rw [ha] at h2; cases h2
  rw [hd] at h3; cases h3
/-- The lock is as it was; the thread was not decided, nor is it. -/
theorem NS.Ok.turn0 {s s' : NS} (hs : s.Ok) {th : Nat} (hth : th < 4) {x : Option Att} (hts : s'.ts = setT s.ts th x) (ho : s'.o = s.o) (hcc : s'.c = s.c) (hhp : s'.hp = s.hp) (hky : s'.ky.length ≤ 64) (hkw : s'.wy.length = s'.ky.length) (hwl : s.wy.length ≤ s'.wy.length)
    (hold : ∀ a, s.ts th = some a → a.dec = false) (hb : ∀ b, x = some b → b.Ok s' ∧ b.dec = false ∧ ¬ (b.asked = true ∧ b.ra.k = 6 ∧ (b.at_ = 2 ∨ b.at_ = 3))) : s'.Ok := by
  refine hs.turn hth hts (by rw [hhp]) (by rw [hhp]; exact hs.hv) ⟨by omega, by rw [hcc]; exact hs.c.2⟩ (by rw [ho, hcc]; exact hs.held') hky hkw hwl (fun b h => (hb b h).1) (fun y hy => ?_) (fun i a hi => ?_)
  · rw [ho] at hy
    obtain ⟨i, b, h1, h2, h3⟩ := hs.own y hy
    refine ⟨i, b, h1, ?_, h3⟩
    rw [hts, setT_other _ _ ?_]
    · exact h2
    · rintro rfl; rw [hold b h2] at h3; cases h3
  · rw [hts] at hi
    rw [ho]
    by_cases he : i = th
    · subst he
      rw [setT_self] at hi
      obtain ⟨_, h2, h3⟩ := hb a hi
      refine ⟨fun h => (by rw [h2] at h; cases h), fun h4 h5 h6 => (h3 ⟨h4, h5, h6⟩).elim⟩
    · rw [setT_other _ _ he] at hi; exact hs.dec i a hi

theorem NS.Ok.begin {s : NS} (hs : s.Ok) {th : Nat} (hth : th < 4) (h : beginC s th = 0) : (beginS s th).Ok := by
  have h1 : s.ts th = none ∧ s.ky.length < 64 := by
    unfold beginC at h
    split at h
    · cases h
    · split at h
      · cases h
      · refine ⟨?_, by omega⟩
        cases hx : s.ts th
        · rfl
        · simp_all
  refine hs.turn0 hth (s' := beginS s th) rfl rfl rfl rfl (by simp [beginS]; omega) (by simp [beginS, hs.kw]) (by simp [beginS]) (fun a ha => by rw [h1.1] at ha; cases ha) (fun b hb => ?_)
  cases hb
  refine ⟨?_, rfl, fun h => by cases h.1⟩
  have hc := hs.c
  exact { n := (by simp [newA, beginS, hs.kw])
          snap := ⟨hc.1, Int.le_refl _⟩
          es := good_nil
          est := (fun e he => by cases he)
          fs := good_log_nil
          fst := (fun f hf p hp => by simp only [newA, List.mem_singleton] at hf; subst hf; cases hp)
          seen := ⟨Int.le_refl _, hc.1⟩
          val := ⟨by simp [newA], by simp [newA]⟩
          at_ := (by simp [newA])
          back := (by simp [newA])
          nx := (by simp [newA])
          ask := (fun h => by cases h)
          wr := (fun h => by cases h)
          kr := (fun h => by cases h)
          ko := (fun h => by cases h)
          kb := (fun h => by cases h)
          la := (fun h => by cases h)
          ww := (fun h => by cases h)
          ne := (fun h => by cases h) }
theorem want_ok {a : Att} {hl : Nat} {x : Ak} (h : wantC a hl x = 0) (hk : 0 ≤ x.k) : 1 ≤ x.k ∧ x.k ≤ 7 ∧ (x.k = 1 ∨ x.k = 2 → 0 ≤ x.t ∧ x.t < hl) ∧ (x.k = 3 → a.fs.length < 5) ∧ (x.k = 4 ∨ x.k = 5 → a.fs.length ≠ 1) := by
  unfold wantC at h
  split at h
  · cases h
  split at h
  · cases h
  split at h
  · cases h
  split at h
  · cases h
  split at h
  · cases h
  split at h
  · cases h
  · refine ⟨by omega, by omega, fun h => by omega, fun h => by omega, fun h => by omega⟩
theorem NS.Ok.ask {s : NS} (hs : s.Ok) {th : Nat} (hth : th < 4) {x : Ak} (hk : 0 ≤ x.k) (hv : 0 ≤ x.v ∧ x.v < 18446744073709551616) (h : askC s th x = 0) : (askS s th x).Ok := by
  unfold askC at h
  cases ha : s.ts th with
  | none => rw [ha] at h; cases h
  | some a =>
    rw [ha] at h
    simp only at h
    cases hf : a.asked with
    | true => rw [hf] at h; cases h
    | false =>
      rw [hf] at h
      have hw := want_ok (by simpa using h) hk
      have hok := hs.ts th a ha
      have hd : a.dec = false := by
        cases hd : a.dec
        · rfl
        · have := ((hs.dec th a ha).1 hd).2.1
          rw [hf] at this; cases this
      have hl1 : 1 ≤ a.fs.length := by
        have := hok.fs.1
        cases h : a.fs with
        | nil => exact absurd h this
        | cons f fs => simp
      have e : askS s th x = { s with ts := setT s.ts th (some { a with asked := true, ra := x, at_ := 0, nx := 0 }) } := by simp [askS, ha]
      rw [e]
      refine hs.turn0 hth rfl rfl rfl rfl hs.ky hs.kw (Nat.le_refl _) (fun b hb => by rw [ha] at hb; cases hb; exact hd) (fun b hb => ?_)
      cases hb
      refine ⟨?_, hd, fun h => by simp at h⟩
      exact { n := hok.n
              snap := hok.snap
              es := hok.es
              est := hok.est
              fs := hok.fs
              fst := hok.fst
              seen := hok.seen
              val := hok.val
              at_ := (by simp)
              back := hok.back
              nx := (by simp)
              ask := (fun _ => ⟨hw.1, hw.2.1, hw.2.2.1, hv⟩)
              wr := (fun _ h => by simp at h)
              kr := (fun _ _ _ => by simp)
              ko := (fun _ _ _ => rfl)
              kb := (fun _ h => by simp at h)
              la := (fun h => by simp at h)
              ww := (fun _ => ⟨hw.2.2.2.1, fun h => by have h2 := hw.2.2.2.2 h; show 1 < a.fs.length; omega⟩)
              ne := (fun _ _ h => absurd rfl h) }
theorem NS.Ok.end {s : NS} (hs : s.Ok) {th : Nat} (hth : th < 4) {a : Att} (ha : s.ts th = some a) (hd : a.dec = false) (why : Int) : (endS s th a why).Ok := by
  have ho := not_held hs ha hd
  refine hs.turn0 hth (s' := endS s th a why) rfl (by simp [endS, ho]) (by simp [endS, ho]) rfl hs.ky (by simp [endS, hs.kw]) (by simp [endS]) (fun b hb => by rw [ha] at hb; cases hb; exact hd) (fun b hb => by cases hb)
theorem NS.Ok.kill {s : NS} (hs : s.Ok) {th : Nat} (hth : th < 4) : (killS s th).Ok := by
  unfold killS
  cases ha : s.ts th with
  | none => exact hs
  | some a =>
    simp only
    cases hd : a.dec with
    | true => exact hs
    | false => exact hs.end hth ha hd 3

/-! The frames -/
theorem putF_mem {f : List Pr} {p q : Pr} (h : q ∈ putF f p) : q = p ∨ q ∈ f ∨ (∃ r ∈ f, q = ⟨r.t, p.v⟩) := by
  induction f with
  | nil => simp [putF] at h; exact .inl h
  | cons a f ih =>
    simp only [putF] at h
    split at h
    · rcases List.mem_cons.1 h with rfl | h
      · exact .inr (.inr ⟨a, by simp, rfl⟩)
      · exact .inr (.inl (by simp [h]))
    · rcases List.mem_cons.1 h with rfl | h
      · exact .inr (.inl (by simp))
      · rcases ih h with h | h | ⟨r, hr, h⟩
        · exact .inl h
        · exact .inr (.inl (by simp [h]))
        · exact .inr (.inr ⟨r, by simp [hr], h⟩)
theorem mergeF_mem {g f : List Pr} {P : Pr → Prop} (hg : ∀ p ∈ g, P p) (hf : ∀ p ∈ f, P p) (hP : ∀ p q, P p → P q → P ⟨p.t, q.v⟩) : ∀ p ∈ mergeF g f, P p := by
  unfold mergeF
  induction f generalizing g with
  | nil => exact hg
  | cons a f ih =>
    refine ih (g := putF g a) (fun p hp => ?_) (fun p hp => hf p (by simp [hp]))
    rcases putF_mem hp with rfl | h | ⟨r, hr, rfl⟩
    · exact hf _ (by simp)
    · exact hg p h
    · exact hP r a (hg r hr) (hf a (by simp))
theorem putCode_range {f : List Pr} {fs : List (List Pr)} {t v : Int} (hc : putCode f fs t v = 0) : 0 ≤ t ∧ t < 12 := by
  unfold putCode at hc
  split at hc
  · cases hc
  · omega
theorem addL_mem {l : List Ent} {e x : Ent} (h : x ∈ addL l e) : x ∈ l ∨ x = e := by
  unfold addL at h
  split at h
  · rcases List.mem_append.1 h with h | h
    · exact .inl h
    · exact .inr (by simpa using h)
  · exact .inl h
theorem allL_le (fs : List (List Pr)) : (allL fs).length ≤ 12 := allN_le fs 12
theorem allL_mem {fs : List (List Pr)} {p : Pr} (hp : p ∈ allL fs) : ∃ f ∈ fs, p ∈ f := by
  unfold allL allN at hp
  obtain ⟨t, _, ht⟩ := List.mem_filterMap.1 hp
  simp only [Option.map_eq_some_iff] at ht
  obtain ⟨v, hv, rfl⟩ := ht
  unfold getLog at hv
  obtain ⟨f, hf, hg⟩ := List.exists_of_findSome?_eq_some hv
  refine ⟨f, hf, ?_⟩
  unfold getP at hg
  simp only [Option.map_eq_some_iff] at hg
  obtain ⟨q, hq, rfl⟩ := hg
  have h1 := List.mem_of_find?_eq_some hq
  have h2 : q.t = (t : Int) := by simpa using List.find?_some hq
  rw [← h2]; exact h1
end YtnemoimbeefngaaGreat
end Go.Proofs
/-
  NOREC: what holds of it stays so: a step.
-/
set_option linter.unusedSimpArgs false
set_option linter.unusedVariables false
set_option linter.unnecessarySimpa false
set_option linter.unusedSectionVars false
namespace Go.Proofs
namespace YtnemoimbeefngaaGreat
open Go.Abs
set_option linter.unusedSimpArgs false

theorem Att.Ok.free {a : Att} {s : NS} (h : a.Ok s) {es : List Ent} {fs : List (List Pr)} (he : Good es) (het : ∀ e ∈ es, e.t < s.hp.length) (hf : GoodLog fs) (hft : ∀ f ∈ fs, ∀ p ∈ f, 0 ≤ p.t ∧ p.t < s.hp.length ∧ 0 ≤ p.v ∧ p.v < 18446744073709551616) (hat : a.at_ < 4) :
    ({ a with asked := false, es := es, fs := fs } : Att).Ok s where
  n := h.n
  snap := h.snap
  es := he
  est := het
  fs := hf
  fst := hft
  seen := h.seen
  val := h.val
  at_ := h.at_
  back := h.back
  nx := h.nx
  ask := fun h => by cases h
  wr := fun h => by cases h
  kr := fun h => by cases h
  ko := fun h => by cases h
  kb := fun h => by cases h
  la := fun h => by simp only at h; omega
  ww := fun h => by cases h
  ne := fun h => by cases h
theorem Att.Ok.step {a b : Att} {s : NS} (h : a.Ok s) (hn : b.n = a.n) (hes : b.es = a.es) (hfs : b.fs = a.fs) (hask : b.asked = a.asked) (hra : b.ra = a.ra) (snap : 0 ≤ b.snap ∧ b.snap ≤ s.c) (seen : 0 ≤ b.seen ∧ b.seen ≤ s.c) (val : 0 ≤ b.val ∧ b.val < 18446744073709551616)
    (hat : b.at_ ≤ 6) (back : b.back ≤ 1) (nx : b.nx ≤ 100) (wr : b.at_ = 2 → b.nx < (allL a.fs).length) (kr : b.at_ < 4 → a.ra.k = 1 → b.at_ ≤ 1) (ko : a.ra.k ≠ 1 → a.ra.k ≠ 6 → b.at_ = 0) (kb : 4 ≤ b.at_ → (a.ra.k = 1 ∧ b.back = 0) ∨ (a.ra.k = 6 ∧ b.back = 1)) (la : b.at_ = 5 → b.nx ≤ a.es.length) (ne : a.ra.k = 6 → b.at_ ≠ 0 → allL a.fs ≠ []) : b.Ok s where
  n := by rw [hn]; exact h.n
  snap := snap
  es := by rw [hes]; exact h.es
  est := by rw [hes]; exact h.est
  fs := by rw [hfs]; exact h.fs
  fst := by rw [hfs]; exact h.fst
  seen := seen
  val := val
  at_ := hat
  back := back
  nx := nx
  ask := by rw [hask, hra]; exact h.ask
  wr := by rw [hask, hfs]; exact fun _ => wr
  kr := by rw [hask, hra]; exact fun _ => kr
  ko := by rw [hask, hra]; exact fun _ => ko
  kb := by rw [hask, hra]; exact fun _ => kb
  la := by rw [hes]; exact la
  ww := by rw [hask, hra, hfs]; exact h.ww
  ne := by rw [hask, hra, hfs]; exact fun _ => ne

theorem ok_again {s : NS} (hs : s.Ok) {th : Nat} (hth : th < 4) {a : Att} (ha : s.ts th = some a) (hk : a.asked = true) (h4 : 4 ≤ a.at_) : (againS s th a).2.Ok := by
  have hok := hs.ts th a ha
  have hd : a.dec = false := by
    cases hd : a.dec
    · rfl
    · have := ((hs.dec th a ha).1 hd).2.2.2; omega
  have hb4 := hok.kb hk h4
  have put : ∀ b : Att, b.Ok s → b.dec = false → ¬ (b.asked = true ∧ b.ra.k = 6 ∧ (b.at_ = 2 ∨ b.at_ = 3)) → (putA s th b).Ok := fun b h1 h2 h3 =>
    hs.turn0 hth (s' := putA s th b) rfl rfl rfl rfl hs.ky hs.kw (Nat.le_refl _) (fun c hc => by rw [ha] at hc; cases hc; exact hd) (fun c hc => by cases hc; exact ⟨⟨h1.n, h1.snap, h1.es, h1.est, h1.fs, h1.fst, h1.seen, h1.val, h1.at_, h1.back, h1.nx, h1.ask, h1.wr, h1.kr, h1.ko, h1.kb, h1.la, h1.ww, h1.ne⟩, h2, h3⟩)
  have hko : a.ra.k ≠ 1 → a.ra.k ≠ 6 → a.at_ = 0 := hok.ko hk
  have hc := hs.c
  unfold againS
  split
  · rename_i hat
    split
    · exact hs
    · refine put _ (hok.step rfl rfl rfl rfl rfl hok.snap ⟨hc.1, Int.le_refl _⟩ hok.val (by simp) hok.back (by simp) (fun h => by simp at h) (fun h => by simp at h) (fun h1 h2 => by have := hko h1 h2; omega) (fun _ => hb4) (fun _ => by simp) (fun h6 _ => hok.ne hk h6 (by omega))) hd (by simp)
  · split
    · rename_i hat
      split
      · refine put _ (hok.step rfl rfl rfl rfl rfl hok.snap hok.seen hok.val (by simp) hok.back hok.nx (fun h => by simp at h) (fun h => by simp at h) (fun h1 h2 => by have := hko h1 h2; omega) (fun _ => hb4) (fun h => by simp at h) (fun h6 _ => hok.ne hk h6 (by omega))) hd (by simp)
      · rename_i e hx
        have hlt := (List.getElem?_eq_some_iff.1 hx).1
        have h8 := hok.es.len
        split
        · refine put _ (hok.step rfl rfl rfl rfl rfl hok.snap hok.seen hok.val hok.at_ hok.back (by simp; omega) (fun h => by simp at h; omega) (fun h => by simp at h; omega) (fun h1 h2 => by have := hko h1 h2; omega) (fun _ => hb4) (fun _ => hlt) (fun h6 _ => hok.ne hk h6 (by omega))) hd (by simp; omega)
        · exact hs.end hth ha hd 1
    · split
      · rename_i hat hc2
        have hbk : a.back = 0 ∨ a.back = 1 := by have := hok.back; omega
        refine hs.turn0 hth (s' := { s with ts := setT s.ts th (some { a with snap := a.seen, at_ := a.back }), ky := s.ky.set a.n (a.seen + 1) }) rfl rfl rfl rfl (by simp; exact hs.ky) (by simp; exact hs.kw) (Nat.le_refl _) (fun c hc => by rw [ha] at hc; cases hc; exact hd) (fun c hc => ?_)
        cases hc
        have hok' : a.Ok { s with ts := setT s.ts th (some { a with snap := a.seen, at_ := a.back }), ky := s.ky.set a.n (a.seen + 1) } := hok.mono (Nat.le_refl _) rfl (Int.le_refl _)
        refine ⟨hok'.step rfl rfl rfl rfl rfl hok.seen hok.seen hok.val (by simp; omega) hok.back hok.nx (fun h => by simp at h; omega) (fun _ h => by simp; omega) (fun h1 h2 => by have := hko h1 h2; omega) (fun h => by simp at h; omega) (fun h => by simp at h; omega) (fun h6 _ => hok.ne hk h6 (by omega)), hd, by simp; omega⟩
      · rename_i hat hc2
        refine put _ (hok.step rfl rfl rfl rfl rfl hok.snap hok.seen hok.val (by simp) hok.back hok.nx (fun h => by simp at h) (fun h => by simp at h) (fun h1 h2 => by have := hko h1 h2; omega) (fun _ => hb4) (fun h => by simp at h) (fun h6 _ => hok.ne hk h6 (by omega))) hd (by simp)
theorem ok_read {s : NS} (hs : s.Ok) {th : Nat} (hth : th < 4) {a : Att} (ha : s.ts th = some a) (hk : a.asked = true) (h4 : a.at_ < 4) (k1 : a.ra.k = 1) : (readS s th a).2.Ok := by
  have hok := hs.ts th a ha
  have hd : a.dec = false := by
    cases hd : a.dec
    · rfl
    · have := ((hs.dec th a ha).1 hd).2.2.1; omega
  have put : ∀ b : Att, b.Ok s → b.dec = false → ¬ (b.asked = true ∧ b.ra.k = 6 ∧ (b.at_ = 2 ∨ b.at_ = 3)) → (putA s th b).Ok := fun b h1 h2 h3 =>
    hs.turn0 hth (s' := putA s th b) rfl rfl rfl rfl hs.ky hs.kw (Nat.le_refl _) (fun c hc => by rw [ha] at hc; cases hc; exact hd) (fun c hc => by cases hc; exact ⟨⟨h1.n, h1.snap, h1.es, h1.est, h1.fs, h1.fst, h1.seen, h1.val, h1.at_, h1.back, h1.nx, h1.ask, h1.wr, h1.kr, h1.ko, h1.kb, h1.la, h1.ww, h1.ne⟩, h2, h3⟩)
  have got : ∀ (es : List Ent) (v : Int), Good es → (∀ e ∈ es, e.t < s.hp.length) → (gotS s th { a with es := es } v).Ok := fun es v h1 h2 => by
    refine hs.turn0 hth (s' := gotS s th { a with es := es } v) rfl rfl rfl rfl hs.ky hs.kw (Nat.le_refl _) (fun c hc => by rw [ha] at hc; cases hc; exact hd) (fun c hc => ?_)
    cases hc
    have hok' : a.Ok (gotS s th { a with es := es } v) := hok.mono (Nat.le_refl _) rfl (Int.le_refl _)
    exact ⟨hok'.free h1 h2 hok.fs hok.fst h4, hd, fun h => by cases h.1⟩
  have hra := (hok.ask hk).2.2.1 (.inl k1)
  unfold readS
  split
  · exact got a.es _ hok.es hok.est
  · split
    · rename_i hat
      obtain ⟨y, hy⟩ : ∃ y, s.hp[a.ra.t.toNat]? = some y := ⟨s.hp[a.ra.t.toNat]'(by omega), List.getElem?_eq_getElem (by omega)⟩
      have hyv := hs.hv y (List.mem_of_getElem? hy)
      refine put _ (hok.step rfl rfl rfl rfl rfl hok.snap hok.seen (by simp [hy]; exact hyv) (by simp) hok.back hok.nx (fun h => by simp at h) (fun _ _ => by simp) (fun h1 => absurd k1 h1) (fun h => by simp at h) (fun h => by simp at h) (fun h6 => absurd (k1.symm.trans h6) (by decide))) hd (by simp)
    · split
      · split
        · rename_i hA
          refine got _ _ (hok.es.add _) (fun e he => ?_)
          rcases addL_mem he with he | rfl
          · exact hok.est e he
          · exact hra.2
        · exact hs.end hth ha hd 2
      · refine put _ (hok.step rfl rfl rfl rfl rfl hok.snap hok.seen hok.val (by simp) (by simp) hok.nx (fun h => by simp at h) (fun h => by simp at h) (fun h1 => absurd k1 h1) (fun _ => .inl ⟨k1, rfl⟩) (fun h => by simp at h) (fun h6 => absurd (k1.symm.trans h6) (by decide))) hd (by simp)
theorem ok_turn {s : NS} (hs : s.Ok) {th : Nat} (hth : th < 4) {a : Att} (ha : s.ts th = some a) (hk : a.asked = true) (h4 : a.at_ < 4) (k2 : a.ra.k = 2 ∨ a.ra.k = 3 ∨ a.ra.k = 4 ∨ a.ra.k = 5) : (turnS s th a).2.Ok := by
  have hok := hs.ts th a ha
  have hd : a.dec = false := by
    cases hd : a.dec
    · rfl
    · have := ((hs.dec th a ha).1 hd).2.2.1; omega
  have go : ∀ (fs : List (List Pr)) (ev : List Ev), GoodLog fs → (∀ f ∈ fs, ∀ p ∈ f, 0 ≤ p.t ∧ p.t < s.hp.length ∧ 0 ≤ p.v ∧ p.v < 18446744073709551616) → ({ s with ts := setT s.ts th (some { a with asked := false, fs := fs }), ev := ev } : NS).Ok := fun fs ev h1 h2 => by
    refine hs.turn0 hth (s' := { s with ts := setT s.ts th (some { a with asked := false, fs := fs }), ev := ev }) rfl rfl rfl rfl hs.ky hs.kw (Nat.le_refl _) (fun c hc => by rw [ha] at hc; cases hc; exact hd) (fun c hc => ?_)
    cases hc
    have hok' : a.Ok { s with ts := setT s.ts th (some { a with asked := false, fs := fs }), ev := ev } := hok.mono (Nat.le_refl _) rfl (Int.le_refl _)
    exact ⟨hok'.free hok.es hok.est h1 h2 h4, hd, fun h => by cases h.1⟩
  obtain ⟨f, fs, hfs⟩ : ∃ f fs, a.fs = f :: fs := by
    cases h : a.fs with
    | nil => exact absurd h hok.fs.1
    | cons f fs => exact ⟨f, fs, rfl⟩
  have hgl := hok.fs
  have hft := hok.fst
  have hww := hok.ww hk
  rw [hfs] at hgl hft hww
  unfold turnS
  split
  · rename_i k3
    have hl := hww.1 k3
    have h5 : ¬ 5 ≤ (f :: fs).length := by omega
    rw [hfs, pushF, if_neg h5]
    exact go _ _ (push_good hgl hl) fun g hg => by
      rcases List.mem_cons.1 hg with rfl | hg
      · intro p hp; cases hp
      · exact hft g hg
  · split
    · rename_i k4
      have hl := hww.2 (.inl k4)
      cases fs with
      | nil => simp at hl
      | cons g rs =>
        rw [hfs]
        exact go _ _ (drop_good hgl) fun q hq => hft q (by simp only [dropF] at hq; exact List.mem_cons_of_mem _ hq)
    · split
      · rename_i k5
        have hl := hww.2 (.inr k5)
        cases fs with
        | nil => simp at hl
        | cons g rs =>
          rw [hfs]
          refine go _ _ (merge_good hgl) fun q hq => ?_
          simp only [mergeFs] at hq
          rcases List.mem_cons.1 hq with rfl | hq
          · exact mergeF_mem (hft g (by simp)) (hft f (by simp)) fun p q h1 h2 => ⟨h1.1, h1.2.1, h2.2.2⟩
          · exact hft q (by simp [hq])
      · split
        · rename_i k3 k4 k5 hP
          have k2' : a.ra.k = 2 := by omega
          have hra := hok.ask hk
          have hr := hra.2.2.1 (.inr k2')
          rw [hfs] at hP ⊢
          simp only [putCs] at hP
          refine go _ _ (put_good hgl hP) fun q hq => ?_
          simp only [putFs] at hq
          rcases List.mem_cons.1 hq with rfl | hq
          · intro p hp
            rcases putF_mem hp with rfl | h | ⟨r, hr2, rfl⟩
            · exact ⟨hr.1, hr.2, hra.2.2.2⟩
            · exact hft f (by simp) p h
            · have := hft f (by simp) r hr2
              exact ⟨this.1, this.2.1, hra.2.2.2⟩
          · exact hft q (by simp [hq])
        · exact hs.end hth ha hd 2
/-- The lock is taken, or freed, by the thread. -/
theorem ok_goOn {s : NS} (hs : s.Ok) {th : Nat} (hth : th < 4) {a : Att} (ha : s.ts th = some a) (hk : a.asked = true) (h4 : a.at_ < 4) (k6 : a.ra.k = 6) : (goOnS s th a).2.Ok := by
  have hok := hs.ts th a ha
  have hc := hs.c
  have hdec := hs.dec th a ha
  have nod : ¬ (a.at_ = 2 ∨ a.at_ = 3) → a.dec = false := fun h => by
    cases hd : a.dec
    · rfl
    · exact absurd (hdec.1 hd).2.2.2 h
  unfold goOnS
  split
  · rename_i hat
    have hd := nod (by omega)
    split
    · refine hs.turn0 hth (s' := commitS { s with ev := s.ev ++ [⟨7, a.n, 0, 0⟩] } th a) rfl rfl rfl rfl hs.ky hs.kw (Nat.le_refl _) (fun c hc => by rw [ha] at hc; cases hc; exact hd) (fun c hc => by cases hc)
    · refine hs.turn0 hth (s' := { s with ts := setT s.ts th (some { a with at_ := 1 }), ev := s.ev ++ [⟨7, a.n, 0, 0⟩] }) rfl rfl rfl rfl hs.ky hs.kw (Nat.le_refl _) (fun c hc => by rw [ha] at hc; cases hc; exact hd) (fun c hc => ?_)
      cases hc
      have hok' : a.Ok { s with ts := setT s.ts th (some { a with at_ := 1 }), ev := s.ev ++ [⟨7, a.n, 0, 0⟩] } := hok.mono (Nat.le_refl _) rfl (Int.le_refl _)
      exact ⟨hok'.step rfl rfl rfl rfl rfl hok.snap hok.seen hok.val (by simp) hok.back hok.nx (fun h => by simp at h) (fun _ _ => by simp) (fun _ h => absurd k6 h) (fun h => by simp at h) (fun h => by simp at h) (fun _ _ => by assumption), hd, by simp⟩
  · split
    · rename_i hat
      have hd := nod (by omega)
      have hnh := not_held hs ha hd
      split
      · rename_i ht
        -- nobody had it
        have ho : s.o = none ∧ s.c = a.snap ∧ s.c < 1099511627775 := by
          unfold tryE at ht
          split at ht
          · cases ht
          · split at ht
            · cases ht
            · split at ht
              · cases ht
              · split at ht
                · cases ht
                · rename_i h1 h2 h3 h4
                  refine ⟨?_, by omega, by omega⟩
                  cases h : s.o
                  · rfl
                  · simp [h] at h2
        have hne := hok.ne hk k6 (by omega)
        have hl0 : 0 < (allL a.fs).length := List.length_pos_iff.2 hne
        have hok' : a.Ok { s with o := some (th : Int), c := s.c + 1, ts := setT s.ts th (some { a with dec := true, at_ := 2, nx := 0 }), ky := s.ky.set a.n (a.snap + 2) } := hok.mono (Nat.le_refl _) rfl (by simp only; omega)
        refine hs.turn hth (s' := { s with o := some (th : Int), c := s.c + 1, ts := setT s.ts th (some { a with dec := true, at_ := 2, nx := 0 }), ky := s.ky.set a.n (a.snap + 2) }) rfl rfl hs.hv ⟨by simp only; omega, by simp only; omega⟩ (fun x _ => ⟨by simp only; omega, by simp only; omega⟩) (by simp; exact hs.ky) (by simp; exact hs.kw) (Nat.le_refl _) (fun c hc => ?_) (fun x hx => ?_) (fun i c hi => ?_)
        · cases hc
          exact hok'.step rfl rfl rfl rfl rfl hok'.snap hok'.seen hok.val (by simp) hok.back (by simp) (fun _ => hl0) (fun _ h => by omega) (fun _ h => absurd k6 h) (fun h => by simp at h) (fun h => by simp at h) (fun _ _ => hne)
        · cases hx
          exact ⟨th, _, rfl, setT_self _ _ _, rfl⟩
        · simp only at hi ⊢
          by_cases he : i = th
          · subst he
            rw [setT_self] at hi
            cases hi
            exact ⟨fun _ => ⟨rfl, hk, k6, .inl rfl⟩, fun _ _ _ => rfl⟩
          · rw [setT_other _ _ he] at hi
            have hd := hs.dec i c hi
            exact ⟨(fun h => by have := (hd.1 h).1; rw [ho.1] at this; cases this), hd.2⟩
      · split
        · exact hs.end hth ha hd 2
        · refine hs.turn0 hth (s' := putA s th { a with at_ := 4, back := 1 }) rfl rfl rfl rfl hs.ky hs.kw (Nat.le_refl _) (fun c hc => by rw [ha] at hc; cases hc; exact hd) (fun c hc => ?_)
          cases hc
          have hok' : a.Ok (putA s th { a with at_ := 4, back := 1 }) := hok.mono (Nat.le_refl _) rfl (Int.le_refl _)
          exact ⟨hok'.step rfl rfl rfl rfl rfl hok.snap hok.seen hok.val (by simp) (by simp) hok.nx (fun h => by simp at h) (fun h => by simp at h) (fun _ h => absurd k6 h) (fun _ => .inr ⟨k6, rfl⟩) (fun h => by simp at h) (fun _ _ => hok.ne hk k6 (by omega)), hd, by simp⟩
    · split
      · rename_i hat
        have hd := hdec.2 hk k6 (.inl hat)
        have hx := hdec.1 hd
        have hne := hok.ne hk k6 (by omega)
        split
        · rename_i p hp
          have hpm := List.mem_of_getElem? hp
          have hlt := (List.getElem?_eq_some_iff.1 hp).1
          have hl12 := allL_le a.fs
          obtain ⟨f, hf, hpf⟩ := allL_mem hpm
          have hpr := hok.fst f hf p hpf
          obtain ⟨b, hb⟩ : ∃ b : Att, b = { a with nx := a.nx + 1, at_ := if a.nx + 1 = (allL a.fs).length then 3 else 2 } := ⟨_, rfl⟩
          have hb2 : b.at_ = 2 ∨ b.at_ = 3 := by rw [hb]; simp only; split <;> simp
          rw [← hb]
          have hok' : a.Ok { s with hp := s.hp.set p.t.toNat p.v, ts := setT s.ts th (some b) } := hok.mono (Nat.le_refl _) (by simp) (Int.le_refl _)
          refine hs.turn hth (s' := { s with hp := s.hp.set p.t.toNat p.v, ts := setT s.ts th (some b) }) rfl (by simp) (fun v hv => ?_) ⟨Int.le_refl _, hc.2⟩ hs.held' hs.ky hs.kw (Nat.le_refl _) (fun c hc => ?_) (fun x hx2 => ?_) (fun i c hi => ?_)
          · rcases List.mem_or_eq_of_mem_set hv with h | rfl
            · exact hs.hv v h
            · exact hpr.2.2
          · cases hc
            refine hok'.step (by rw [hb]) (by rw [hb]) (by rw [hb]) (by rw [hb]) (by rw [hb]) (by rw [hb]; exact hok.snap) (by rw [hb]; exact hok.seen) (by rw [hb]; exact hok.val) (by omega) (by rw [hb]; exact hok.back) (by rw [hb]; simp only; omega) (fun h => ?_) (fun _ h => by omega) (fun _ h => absurd k6 h) (fun h => by omega) (fun h => by omega) (fun _ _ => hne)
            rw [hb] at h ⊢
            simp only at h ⊢
            split at h
            · cases h
            · omega
          · obtain ⟨i, c, h1, h2, h3⟩ := hs.own x hx2
            by_cases he : i = th
            · subst he
              exact ⟨i, b, h1, setT_self _ _ _, by rw [hb]; exact hd⟩
            · exact ⟨i, c, h1, by simp only; rw [setT_other _ _ he]; exact h2, h3⟩
          · simp only at hi ⊢
            by_cases he : i = th
            · subst he
              rw [setT_self] at hi
              cases hi
              exact ⟨fun _ => ⟨hx.1, by rw [hb]; exact hk, by rw [hb]; exact k6, hb2⟩, fun _ _ _ => by rw [hb]; exact hd⟩
            · rw [setT_other _ _ he] at hi
              exact hs.dec i c hi
        · exact hs
      · rename_i h0 h1 h2
        have hat : a.at_ = 3 := by omega
        have hd := hdec.2 hk k6 (.inr hat)
        have hx := hdec.1 hd
        have hh := hs.held' _ hx.1
        refine hs.turn hth (s' := commitS { s with o := none, c := s.c + 1 } th a) rfl rfl hs.hv ⟨by simp only [commitS]; omega, by simp only [commitS]; omega⟩ (fun x h => by cases h) hs.ky hs.kw (Nat.le_refl _) (fun c hc => by cases hc) (fun x h => by cases h) (fun i c hi => ?_)
        simp only [commitS] at hi ⊢
        by_cases he : i = th
        · subst he; rw [setT_self] at hi; cases hi
        · rw [setT_other _ _ he] at hi
          have hd2 := hs.dec i c hi
          refine ⟨fun h => ?_, hd2.2⟩
          have := (hd2.1 h).1
          rw [hx.1] at this
          simp only [Option.some.injEq] at this
          omega
theorem NS.Ok.step {s : NS} (hs : s.Ok) {th : Nat} (hth : th < 4) : (stepS s th).2.Ok := by
  unfold stepS
  cases ha : s.ts th with
  | none => exact hs
  | some a =>
    simp only
    cases hk : a.asked with
    | false => exact hs
    | true =>
      simp only [Bool.true_eq_false, if_false]
      have hok := hs.ts th a ha
      have hask := hok.ask hk
      split
      · rename_i h4; exact ok_again hs hth ha hk h4
      · rename_i h4
        have h4' : a.at_ < 4 := by omega
        split
        · rename_i k7
          have hd : a.dec = false := by
            cases hd : a.dec
            · rfl
            · have := ((hs.dec th a ha).1 hd).2.2.1; omega
          exact hs.end hth ha hd 4
        · split
          · rename_i k6; exact ok_goOn hs hth ha hk h4' k6
          · split
            · rename_i k1; exact ok_read hs hth ha hk h4' k1
            · refine ok_turn hs hth ha hk h4' ?_
              have := hask.1; have := hask.2.1; omega
end YtnemoimbeefngaaGreat
end Go.Proofs
/-
  NOREC: Step, Kill, and what is told, as contracts.
-/
set_option linter.unusedSimpArgs false
set_option linter.unusedVariables false
set_option linter.unnecessarySimpa false
set_option linter.unusedSectionVars false
namespace Go.Proofs
namespace YtnemoimbeefngaaGreat
open Go.Abs
set_option linter.unusedSimpArgs false

def stepR (s : NS) (t : Int) : Rp := match thOf t with
  | none => rpErr 2
  | some th => (stepS s th).1
def stepX (s : NS) (t : Int) : NS := match thOf t with
  | none => s
  | some th => (stepS s th).2
theorem rp_ground (r : Rp) : ground r.v = true := rfl
def d28 : DStep
  | .eng s, [.int .i64 t] => some (s.Ok ∧ s.ev.length ≤ 100000, (stepR s t).v, .eng (stepX s t))
  | _, _ => none
theorem st28_ok : CStepOk Tryz.prog cfg 28 (dataSt d28) := data_ok fun d rest p v d' h hp => by
  unfold d28 at h
  split at h
  case h_2 => cases h
  rename_i s t
  cases h
  refine ⟨rfl, rp_ground _, ?_⟩
  cases ht : thOf t with
  | none => simp only [stepR, stepX, ht]; exact step_range _ _ (thOf_none ht)
  | some th =>
    obtain ⟨h1, rfl⟩ := thOf_some ht
    simp only [stepR, stepX, ht]
    exact runs_step s hp.1 hp.2 th h1

/-! Kill -/
set_option maxRecDepth 10000 in
set_option maxHeartbeats 4000000 in
theorem kill_yes (s : NS) (hs : s.Ok) (hev : s.ev.length ≤ 100000) (th : Nat) (hth : th < 4) (a : Att) (ha : s.ts th = some a) (hd : a.dec = false) : Runs Tryz.prog cfg 29 [.pointer (some ⟨0, 0, none⟩), .int .i64 th] (AH.of [some (.hi (.eng s))])
    fun r H' => r = .ret (.int .i64 0) ∧ H' = AH.of [some (.hi (.eng (endS s th a 3)))] := by
  refine Runs.ends ?_
  have ho := not_held hs ha hd
  generalize hS : ((endS s th a 3) : NS) = S'
  refine Runs.openEng hth fun es cc hes => ?_
  have ft := find_th hth hes
  have z1 : ¬ (th : Int) < 0 := by omega
  have z2 : ¬ 4 ≤ (th : Int) := by omega
  have hok := hs.ts th a ha
  have hel : (s.ev.length + 1) * 32 ≤ 140737488355328 ∧ s.ev.length ≤ 9223372036854775806 := by omega
  have t3 := take_evs s.ev
  have hnw3 : a.n + 1 ≤ s.wy.length := hok.n
  have hnw := hok.n
  have hnw2 : (a.n : Int) < s.wy.length := by omega
  obtain ⟨es2, hdel, hes2⟩ := del_th hth hes
  refine runs_by (tbl := tblSt) tblSt_ok 0 5 (af := a29) rfl ?_
  rw [a29, b29, run_eq]
  refine ⟨by simp, ?_⟩
  simp (implicitDefEqProofs := false) [engL, tblSt, dataSt, forms79, a79, b79, forms83, a83, b83, forms86, a86, b86, z1, z2, ha, ft, tptr, slotO_some, frag_att, hd, hel, t3, evs_length, d135, ho, hnw, hnw2, hnw3, u8s_length, u8s_set, hdel]
  subst hS
  rcases th_cases hth with rfl | rfl | rfl | rfl
  · have ho0 : ¬ s.o = some 0 := ho
    refine ends_plan [.nil 100, .pack (GD.eng (endS s 0 a 3)) 0 [1, 2, 3, 16, 5, 6, 17, 8, 9, 10]] [0] ?_ ?_ ?_ <;> simp [frag_att, frag_eng, setT, ha, slotO_some, slotO_none, o1, o2, o3, evs_append, evs_single, us_set, u8s_set, endS, ho0] <;> exact hes2
  · have ho0 : ¬ s.o = some 1 := ho
    refine ends_plan [.nil 100, .pack (GD.eng (endS s 1 a 3)) 0 [1, 2, 3, 16, 5, 6, 8, 17, 9, 10]] [0] ?_ ?_ ?_ <;> simp [frag_att, frag_eng, setT, ha, slotO_some, slotO_none, o1, o2, o3, evs_append, evs_single, us_set, u8s_set, endS, ho0] <;> exact hes2
  · have ho0 : ¬ s.o = some 2 := ho
    refine ends_plan [.nil 100, .pack (GD.eng (endS s 2 a 3)) 0 [1, 2, 3, 16, 5, 6, 8, 9, 17, 10]] [0] ?_ ?_ ?_ <;> simp [frag_att, frag_eng, setT, ha, slotO_some, slotO_none, o1, o2, o3, evs_append, evs_single, us_set, u8s_set, endS, ho0] <;> exact hes2
  · have ho0 : ¬ s.o = some 3 := ho
    refine ends_plan [.nil 100, .pack (GD.eng (endS s 3 a 3)) 0 [1, 2, 3, 16, 5, 6, 8, 9, 10, 17]] [0] ?_ ?_ ?_ <;> simp [frag_att, frag_eng, setT, ha, slotO_some, slotO_none, o1, o2, o3, evs_append, evs_single, us_set, u8s_set, endS, ho0] <;> exact hes2
theorem kill_no (s : NS) (th : Nat) (hth : th < 4) (hb : s.ts th = none ∨ ∃ a, s.ts th = some a ∧ a.dec = true) : Runs Tryz.prog cfg 29 [.pointer (some ⟨0, 0, none⟩), .int .i64 th] (AH.of [some (.hi (.eng s))])
    fun r H' => r = .ret (.int .i64 8) ∧ H' = AH.of [some (.hi (.eng s))] := by
  refine Runs.ends ?_
  refine Runs.openEng hth fun es cc hes => ?_
  have ft := find_th hth hes
  have z1 : ¬ (th : Int) < 0 := by omega
  have z2 : ¬ 4 ≤ (th : Int) := by omega
  rcases hb with ha | ⟨a, ha, hd⟩
  · refine runs_by (tbl := []) (by simp) 0 3 (af := a29) rfl ?_
    rw [a29, b29, run_eq]
    refine ⟨by simp, ?_⟩
    simp (implicitDefEqProofs := false) [engL, forms79, a79, b79, z1, z2, ha, ft, tptr]
    rcases th_cases hth with rfl | rfl | rfl | rfl
    · refine ends_plan [.pack (GD.eng s) 0 [1, 2, 3, 4, 5, 6, 7, 8, 9, 10]] [0] ?_ ?_ ?_ <;> simp [frag_eng, ha, o1, o2, o3] <;> exact hes
    · refine ends_plan [.pack (GD.eng s) 0 [1, 2, 3, 4, 5, 6, 8, 7, 9, 10]] [0] ?_ ?_ ?_ <;> simp [frag_eng, ha, o1, o2, o3] <;> exact hes
    · refine ends_plan [.pack (GD.eng s) 0 [1, 2, 3, 4, 5, 6, 8, 9, 7, 10]] [0] ?_ ?_ ?_ <;> simp [frag_eng, ha, o1, o2, o3] <;> exact hes
    · refine ends_plan [.pack (GD.eng s) 0 [1, 2, 3, 4, 5, 6, 8, 9, 10, 7]] [0] ?_ ?_ ?_ <;> simp [frag_eng, ha, o1, o2, o3] <;> exact hes
  · refine runs_by (tbl := []) (by simp) 0 3 (af := a29) rfl ?_
    rw [a29, b29, run_eq]
    refine ⟨by simp, ?_⟩
    simp (implicitDefEqProofs := false) [engL, forms79, a79, b79, z1, z2, ha, ft, tptr, slotO_some, frag_att, hd]
    rcases th_cases hth with rfl | rfl | rfl | rfl
    · refine ends_plan [.pack (GD.att a) 7 [11, 12], .pack (GD.eng s) 0 [1, 2, 3, 4, 5, 6, 7, 8, 9, 10]] [0] ?_ ?_ ?_ <;> simp [frag_att, frag_eng, hd, ha, slotO_some, o1, o2, o3] <;> exact hes
    · refine ends_plan [.pack (GD.att a) 7 [11, 12], .pack (GD.eng s) 0 [1, 2, 3, 4, 5, 6, 8, 7, 9, 10]] [0] ?_ ?_ ?_ <;> simp [frag_att, frag_eng, hd, ha, slotO_some, o1, o2, o3] <;> exact hes
    · refine ends_plan [.pack (GD.att a) 7 [11, 12], .pack (GD.eng s) 0 [1, 2, 3, 4, 5, 6, 8, 9, 7, 10]] [0] ?_ ?_ ?_ <;> simp [frag_att, frag_eng, hd, ha, slotO_some, o1, o2, o3] <;> exact hes
    · refine ends_plan [.pack (GD.att a) 7 [11, 12], .pack (GD.eng s) 0 [1, 2, 3, 4, 5, 6, 8, 9, 10, 7]] [0] ?_ ?_ ?_ <;> simp [frag_att, frag_eng, hd, ha, slotO_some, o1, o2, o3] <;> exact hes
theorem kill_range (d : GD) (t : Int) (ht : t < 0 ∨ 4 ≤ t) : Runs Tryz.prog cfg 29 [.pointer (some ⟨0, 0, none⟩), .int .i64 t] (AH.of [some (.hi d)])
    fun r H' => r = .ret (.int .i64 2) ∧ H' = AH.of [some (.hi d)] := by
  refine Runs.ends ?_
  have ht' : ¬ t < 0 → 4 ≤ t := fun h => by omega
  refine runs_by (tbl := []) (by simp) 0 3 (af := a29) rfl ?_
  rw [a29, b29, run_eq]
  refine ⟨by simp, ?_⟩
  by_cases h1 : t < 0
  · simp (implicitDefEqProofs := false) [forms79, a79, b79, h1]
    refine ends_plan [] [0] ?_ ?_ ?_ <;> simp
  · simp (implicitDefEqProofs := false) [forms79, a79, b79, h1, ht' h1]
    refine ends_plan [] [0] ?_ ?_ ?_ <;> simp
def killR (s : NS) (t : Int) : Int := match thOf t with
  | none => 2
  | some th => killC s th
def killX (s : NS) (t : Int) : NS := match thOf t with
  | none => s
  | some th => killS s th
def d29 : DStep
  | .eng s, [.int .i64 t] => some (s.Ok ∧ s.ev.length ≤ 100000, .int .i64 (killR s t), .eng (killX s t))
  | _, _ => none
theorem st29_ok : CStepOk Tryz.prog cfg 29 (dataSt d29) := data_ok fun d rest p v d' h hp => by
  unfold d29 at h
  split at h
  case h_2 => cases h
  rename_i s t
  cases h
  refine ⟨rfl, rfl, ?_⟩
  cases ht : thOf t with
  | none => simp only [killR, killX, ht]; exact kill_range _ _ (thOf_none ht)
  | some th =>
    obtain ⟨h1, rfl⟩ := thOf_some ht
    simp only [killR, killX, ht]
    cases ha : s.ts th with
    | none =>
      simp only [killC, killS, ha]
      exact kill_no s th h1 (.inl ha)
    | some a =>
      cases hd : a.dec with
      | true =>
        simp only [killC, killS, ha, hd, if_true]
        exact kill_no s th h1 (.inr ⟨a, ha, hd⟩)
      | false =>
        simp only [killC, killS, ha, hd, Bool.false_eq_true, if_false]
        exact kill_yes s hp.1 hp.2 th h1 a ha hd

/-! Attempt, Holds, Why, Clock -/
def attR (s : NS) (t : Int) : Value := match (thOf t).bind s.ts with
  | some a => .tuple #[.int .i64 a.n, .bool true]
  | none => .tuple #[.int .i64 0, .bool false]
theorem find_out {s : NS} {es : List MapEntry} {cc : Nat} (h : AlikeM (tpF 0 s.ts) es cc) {t : Int} (ht : thOf t = none) : findIn false (.int .i64 t) es = some none := by
  have ht' := thOf_none ht
  rw [find_int h (tpF_keys _ _)]
  have : (tpF 0 s.ts).find? (isI t) = none := by
    rw [List.find?_eq_none]
    intro p hp
    unfold tpF tpK at hp
    have key : ∀ (i : Int) (k : Nat) (x : Option Att), 0 ≤ i → i < 4 → p ∈ tp1 i k x → ¬ isI t p = true := by
      intro i k x h1 h2 h3
      cases x with
      | none => cases h3
      | some a =>
        simp only [tp1, List.mem_singleton] at h3
        subst h3
        simp only [isI, decide_eq_true_eq]
        omega
    simp only [List.mem_append] at hp
    rcases hp with h | h | h | h
    · exact key 0 _ _ (by omega) (by omega) h
    · exact key 1 _ _ (by omega) (by omega) h
    · exact key 2 _ _ (by omega) (by omega) h
    · exact key 3 _ _ (by omega) (by omega) h
  rw [this]; rfl
theorem runs25 (s : NS) (t : Int) : Runs Tryz.prog cfg 25 [.pointer (some ⟨0, 0, none⟩), .int .i64 t] (AH.of [some (.hi (.eng s))])
    fun r H' => r = .ret (attR s t) ∧ H' = AH.of [some (.hi (.eng s))] := by
  refine Runs.ends ?_
  cases ht : thOf t with
  | none =>
    refine Runs.openEng (th := 0) (by omega) fun es cc hes => ?_
    have ft := find_out hes ht
    refine runs_by (tbl := []) (by simp) 0 3 (af := a25) rfl ?_
    rw [a25, b25, run_eq]
    refine ⟨by simp, ?_⟩
    simp (implicitDefEqProofs := false) [engL, forms46, a46, b46, ft]
    refine ends_plan [.pack (GD.eng s) 0 [1, 2, 3, 4, 5, 6, 7, 8, 9, 10]] [0] ?_ ?_ ?_ <;> simp [frag_eng, o1, o2, o3, attR, ht] <;> exact hes
  | some th =>
    obtain ⟨hth, rfl⟩ := thOf_some ht
    refine Runs.openEng hth fun es cc hes => ?_
    have ft := find_th hth hes
    cases ha : s.ts th with
    | none =>
      refine runs_by (tbl := []) (by simp) 0 3 (af := a25) rfl ?_
      rw [a25, b25, run_eq]
      refine ⟨by simp, ?_⟩
      simp (implicitDefEqProofs := false) [engL, forms46, a46, b46, ha, ft, tptr]
      have hr : attR s th = .tuple #[.int .i64 0, .bool false] := by simp [attR, ht, ha]
      rw [hr]
      rcases th_cases hth with rfl | rfl | rfl | rfl
      · refine ends_plan [.pack (GD.eng s) 0 [1, 2, 3, 4, 5, 6, 7, 8, 9, 10]] [0] ?_ ?_ ?_ <;> simp [frag_eng, ha, o1, o2, o3] <;> exact hes
      · refine ends_plan [.pack (GD.eng s) 0 [1, 2, 3, 4, 5, 6, 8, 7, 9, 10]] [0] ?_ ?_ ?_ <;> simp [frag_eng, ha, o1, o2, o3] <;> exact hes
      · refine ends_plan [.pack (GD.eng s) 0 [1, 2, 3, 4, 5, 6, 8, 9, 7, 10]] [0] ?_ ?_ ?_ <;> simp [frag_eng, ha, o1, o2, o3] <;> exact hes
      · refine ends_plan [.pack (GD.eng s) 0 [1, 2, 3, 4, 5, 6, 8, 9, 10, 7]] [0] ?_ ?_ ?_ <;> simp [frag_eng, ha, o1, o2, o3] <;> exact hes
    | some a =>
      refine runs_by (tbl := []) (by simp) 0 3 (af := a25) rfl ?_
      rw [a25, b25, run_eq]
      refine ⟨by simp, ?_⟩
      simp (implicitDefEqProofs := false) [engL, forms46, a46, b46, ha, ft, tptr, slotO_some, frag_att]
      have hr : attR s th = .tuple #[.int .i64 a.n, .bool true] := by simp [attR, ht, ha]
      rw [hr]
      rcases th_cases hth with rfl | rfl | rfl | rfl
      · refine ends_plan [.pack (GD.att a) 7 [11, 12], .pack (GD.eng s) 0 [1, 2, 3, 4, 5, 6, 7, 8, 9, 10]] [0] ?_ ?_ ?_ <;> simp [frag_att, frag_eng, ha, slotO_some, o1, o2, o3] <;> exact hes
      · refine ends_plan [.pack (GD.att a) 7 [11, 12], .pack (GD.eng s) 0 [1, 2, 3, 4, 5, 6, 8, 7, 9, 10]] [0] ?_ ?_ ?_ <;> simp [frag_att, frag_eng, ha, slotO_some, o1, o2, o3] <;> exact hes
      · refine ends_plan [.pack (GD.att a) 7 [11, 12], .pack (GD.eng s) 0 [1, 2, 3, 4, 5, 6, 8, 9, 7, 10]] [0] ?_ ?_ ?_ <;> simp [frag_att, frag_eng, ha, slotO_some, o1, o2, o3] <;> exact hes
      · refine ends_plan [.pack (GD.att a) 7 [11, 12], .pack (GD.eng s) 0 [1, 2, 3, 4, 5, 6, 8, 9, 10, 7]] [0] ?_ ?_ ?_ <;> simp [frag_att, frag_eng, ha, slotO_some, o1, o2, o3] <;> exact hes
def d25 : DStep
  | .eng s, [.int .i64 t] => some (True, attR s t, .eng s)
  | _, _ => none
theorem st25_ok : CStepOk Tryz.prog cfg 25 (dataSt d25) := data_ok fun d rest p v d' h hp => by
  unfold d25 at h
  split at h
  · cases h; exact ⟨rfl, by unfold attR; split <;> rfl, runs25 _ _⟩
  · cases h
def tblO : List (FuncId × CStep GD) := [(94, dataSt d94), (49, dataSt d49)]
theorem tblO_ok : ∀ x ∈ tblO, CStepOk Tryz.prog cfg x.1 x.2 := by simp [tblO, st94_ok, st49_ok]
theorem runs33 (s : NS) (t : Int) : Runs Tryz.prog cfg 33 [.pointer (some ⟨0, 0, none⟩), .int .i64 t] (AH.of [some (.hi (.eng s))])
    fun r H' => r = .ret (.bool (decide (s.o = some t))) ∧ H' = AH.of [some (.hi (.eng s))] := by
  refine Runs.ends ?_
  refine Runs.openEng (th := 0) (by omega) fun es cc hes => ?_
  cases ho : s.o with
  | none =>
    refine runs_by (tbl := tblO) tblO_ok 0 3 (af := a33) rfl ?_
    rw [a33, b33, run_eq]
    refine ⟨by simp, ?_⟩
    simp (implicitDefEqProofs := false) [engL, tblO, dataSt, d94, ho, ownR]
    refine ends_plan [.pack (GD.eng s) 0 [1, 2, 3, 4, 5, 6, 7, 8, 9, 10]] [0] ?_ ?_ ?_ <;> simp [frag_eng, o1, o2, o3, ho] <;> exact hes
  | some x =>
    refine runs_by (tbl := tblO) tblO_ok 0 3 (af := a33) rfl ?_
    rw [a33, b33, run_eq]
    refine ⟨by simp, ?_⟩
    simp (implicitDefEqProofs := false) [engL, tblO, dataSt, d94, ho, ownR]
    refine ends_plan [.pack (GD.eng s) 0 [1, 2, 3, 4, 5, 6, 7, 8, 9, 10]] [0] ?_ ?_ ?_ <;> simp [frag_eng, o1, o2, o3, ho] <;> exact hes
def d33 : DStep
  | .eng s, [.int .i64 t] => some (True, .bool (decide (s.o = some t)), .eng s)
  | _, _ => none
theorem st33_ok : CStepOk Tryz.prog cfg 33 (dataSt d33) := data_ok fun d rest p v d' h hp => by
  unfold d33 at h
  split at h
  · cases h; exact ⟨rfl, rfl, runs33 _ _⟩
  · cases h
theorem runs17 (s : NS) : Runs Tryz.prog cfg 17 [.pointer (some ⟨0, 0, none⟩)] (AH.of [some (.hi (.eng s))])
    fun r H' => r = .ret (.int .u64 s.c) ∧ H' = AH.of [some (.hi (.eng s))] := by
  refine Runs.ends ?_
  refine Runs.openEng (th := 0) (by omega) fun es cc hes => ?_
  refine runs_by (tbl := tblO) tblO_ok 0 3 (af := a17) rfl ?_
  rw [a17, b17, run_eq]
  refine ⟨by simp, ?_⟩
  simp (implicitDefEqProofs := false) [engL, tblO, dataSt, d49]
  refine ends_plan [.pack (GD.eng s) 0 [1, 2, 3, 4, 5, 6, 7, 8, 9, 10]] [0] ?_ ?_ ?_ <;> simp [frag_eng, o1, o2, o3] <;> exact hes
def d17 : DStep
  | .eng s, [] => some (True, .int .u64 s.c, .eng s)
  | _, _ => none
theorem st17_ok : CStepOk Tryz.prog cfg 17 (dataSt d17) := data_ok fun d rest p v d' h hp => by
  unfold d17 at h
  split at h
  · cases h; exact ⟨rfl, rfl, runs17 _⟩
  · cases h
/-- Why the n-th one ended. -/
def whyV (s : NS) (n : Int) : Int := if n < 0 then 0 else (s.wy[n.toNat]?).getD 0
theorem runs30 (s : NS) (n : Int) : Runs Tryz.prog cfg 30 [.pointer (some ⟨0, 0, none⟩), .int .i64 n] (AH.of [some (.hi (.eng s))])
    fun r H' => r = .ret (.int .u8 (whyV s n)) ∧ H' = AH.of [some (.hi (.eng s))] := by
  refine Runs.ends ?_
  refine Runs.openEng (th := 0) (by omega) fun es cc hes => ?_
  by_cases h1 : n < 0
  · refine runs_by (tbl := []) (by simp) 0 3 (af := a30) rfl ?_
    rw [a30, b30, run_eq]
    refine ⟨by simp, ?_⟩
    simp (implicitDefEqProofs := false) [engL, h1]
    refine ends_plan [.pack (GD.eng s) 0 [1, 2, 3, 4, 5, 6, 7, 8, 9, 10]] [0] ?_ ?_ ?_ <;> simp [frag_eng, o1, o2, o3, whyV, h1] <;> exact hes
  · by_cases h2 : (s.wy.length : Int) ≤ n
    · have hg : s.wy[n.toNat]? = none := List.getElem?_eq_none (by omega)
      refine runs_by (tbl := []) (by simp) 0 3 (af := a30) rfl ?_
      rw [a30, b30, run_eq]
      refine ⟨by simp, ?_⟩
      simp (implicitDefEqProofs := false) [engL, h1, h2]
      refine ends_plan [.pack (GD.eng s) 0 [1, 2, 3, 4, 5, 6, 7, 8, 9, 10]] [0] ?_ ?_ ?_ <;> simp [frag_eng, o1, o2, o3, whyV, h1, hg] <;> exact hes
    · obtain ⟨y, hy⟩ : ∃ y, s.wy[n.toNat]? = some y := ⟨s.wy[n.toNat]'(by omega), List.getElem?_eq_getElem (by omega)⟩
      have hu : (u8s s.wy)[n.toNat]? = some (.int .u8 y) := by simp [u8s, hy]
      have h3 : 0 ≤ n := by omega
      have h4 : n < s.wy.length := by omega
      refine runs_by (tbl := []) (by simp) 0 3 (af := a30) rfl ?_
      rw [a30, b30, run_eq]
      refine ⟨by simp, ?_⟩
      simp (implicitDefEqProofs := false) [engL, h1, h2, h3, h4, hu]
      refine ends_plan [.pack (GD.eng s) 0 [1, 2, 3, 4, 5, 6, 7, 8, 9, 10]] [0] ?_ ?_ ?_ <;> simp [frag_eng, o1, o2, o3, whyV, h1, hy] <;> exact hes
def d30 : DStep
  | .eng s, [.int .i64 n] => some (True, .int .u8 (whyV s n), .eng s)
  | _, _ => none
theorem st30_ok : CStepOk Tryz.prog cfg 30 (dataSt d30) := data_ok fun d rest p v d' h hp => by
  unfold d30 at h
  split at h
  · cases h; exact ⟨rfl, rfl, runs30 _ _⟩
  · cases h
end YtnemoimbeefngaaGreat
end Go.Proofs
/-
  NOREC: New, Heap, Events.
-/
set_option linter.unusedSimpArgs false
set_option linter.unusedVariables false
set_option linter.unnecessarySimpa false
set_option linter.unusedSectionVars false
namespace Go.Proofs
namespace YtnemoimbeefngaaGreat
open Go.Abs
set_option linter.unusedSimpArgs false

theorem runs48 (e : TypeId) (l : List Int) (tg : Nat) (hl : l.length ≤ 1000000) : Runs Tryz.prog cfg 48 [.slice (some ⟨0, 0, none⟩) l.length tg] (AH.of [some (.arr e (us l))])
    fun r H' => r = .ret (.slice (some ⟨1, 0, none⟩) l.length 1) ∧ H' = AH.of [some (.arr e (us l)), some (.arr 49 (us l))] := by
  refine Runs.ends ?_
  refine runs_by (tbl := []) (by simp) 0 0 (af := a48) rfl ?_
  rw [a48, b48, run_eq]
  refine ⟨by simp, ?_⟩
  have h1 : l.length * 8 ≤ 140737488355328 ∧ l.length ≤ 9223372036854775807 := by omega
  have h2 := take_us l
  simp (implicitDefEqProofs := false) [h1, h2, us_length]
  repeat' (first | with_reducible apply And.intro | with_reducible intro _)
  all_goals first
    | (refine ends_plan [] [0, 2] ?_ ?_ ?_ <;> simp; done)
    | (have : l = [] := by assumption
       subst this
       refine ends_wk (r' := .ret (.slice (some ⟨1, 0, none⟩) 0 1)) (leR_ret (by simp)) (ends_plan [.nil 49] [0, 1] ?_ ?_ ?_) <;> simp [us])
theorem runs_cloneV_ro (l : List Int) (n tg : Nat) (hn : n = l.length) (hl : l.length ≤ 1000000) : Runs Tryz.prog cfg 48 [.slice (some ⟨0, 0, none⟩) n tg] (AH.of [some (.ro (us l))])
    fun r H' => r = .ret (.slice (some ⟨1, 0, none⟩) l.length 1) ∧ H' = AH.of [some (.ro (us l)), some (.arr 49 (us l))] := by
  subst hn
  refine Runs.ends ?_
  refine runs_by (tbl := []) (by simp) 0 0 (af := a48) rfl ?_
  rw [a48, b48, run_eq]
  refine ⟨by simp, ?_⟩
  have h1 : l.length * 8 ≤ 140737488355328 ∧ l.length ≤ 9223372036854775807 := by omega
  have h2 := take_us l
  simp (implicitDefEqProofs := false) [h1, h2, us_length]
  repeat' (first | with_reducible apply And.intro | with_reducible intro _)
  all_goals first
    | (refine ends_plan [] [0, 2] ?_ ?_ ?_ <;> simp; done)
    | (have : l = [] := by assumption
       subst this
       refine ends_wk (r' := .ret (.slice (some ⟨1, 0, none⟩) 0 1)) (leR_ret (by simp)) (ends_plan [.nil 49] [0, 1] ?_ ?_ ?_) <;> simp [us])
def st48 : CStep GD := fun args H => match args with
  | [.slice (some ⟨k, 0, none⟩) n _] => match H.get k with
    | some (.arr _ cs) => (asUs cs).map fun l => (n = l.length ∧ l.length ≤ 1000000, .ret (.slice (some ⟨H.next, 0, none⟩) l.length 1), H.add (.arr 49 (us l)))
    | some (.ro cs) => (asUs cs).map fun l => (n = l.length ∧ l.length ≤ 1000000, .ret (.slice (some ⟨H.next, 0, none⟩) l.length 1), H.add (.arr 49 (us l)))
    | _ => none
  | _ => none
theorem st48_ok : CStepOk Tryz.prog cfg 48 st48 := by
  intro args H p r H' h hp
  unfold st48 at h
  split at h
  case h_2 => cases h
  split at h
  · simp only [Option.map_eq_some_iff] at h
    obtain ⟨l, hl, h⟩ := h
    rename_i k n tg x e cs hk
    cases h
    rw [asUs_inv hl] at hk
    rw [hp.1]
    exact (runs48 e l tg hp.2).atK (ro_none rfl) [k] (by simp) (by simp) (by simp [hk]) (by simp) (by simp) (by simp [upd_get hk])
  · simp only [Option.map_eq_some_iff] at h
    obtain ⟨l, hl, h⟩ := h
    rename_i k n tg x cs hk
    cases h
    rw [asUs_inv hl] at hk
    exact (runs_cloneV_ro l n tg hp.1 hp.2).atK (ro_same fun i cs hi => by rcases i with _ | _ | i <;> simp at hi ⊢; exact hi) [k] (by simp) (by simp) (by simp [hk]) (by simp) (by simp) (by simp [upd_get hk])
  · cases h
theorem runs42 (e : TypeId) (l : List Ev) (tg : Nat) (hl : l.length ≤ 1000000) : Runs Tryz.prog cfg 42 [.slice (some ⟨0, 0, none⟩) l.length tg] (AH.of [some (.arr e (evs l))])
    fun r H' => r = .ret (.slice (some ⟨1, 0, none⟩) l.length 1) ∧ H' = AH.of [some (.arr e (evs l)), some (.arr 84 (evs l))] := by
  refine Runs.ends ?_
  refine runs_by (tbl := []) (by simp) 0 0 (af := a42) rfl ?_
  rw [a42, b42, run_eq]
  refine ⟨by simp, ?_⟩
  have h1 : l.length * 32 ≤ 140737488355328 ∧ l.length ≤ 9223372036854775807 := by omega
  have h2 := take_evs l
  have h3 : l.length * 4 ≤ (evs l).length := by rw [evs_length]; omega
  simp (implicitDefEqProofs := false) [h1, h2, h3]
  repeat' (first | with_reducible apply And.intro | with_reducible intro _)
  all_goals first
    | (refine ends_plan [] [0, 2] ?_ ?_ ?_ <;> simp; done)
    | (have : l = [] := by assumption
       subst this
       refine ends_wk (r' := .ret (.slice (some ⟨1, 0, none⟩) 0 1)) (leR_ret (by simp)) (ends_plan [.nil 84] [0, 1] ?_ ?_ ?_) <;> simp [evs])
def st42 : CStep GD := fun args H => match args with
  | [.slice (some ⟨k, 0, none⟩) n _] => match H.get k with
    | some (.arr _ cs) => (asEvs cs).map fun l => (n = l.length ∧ l.length ≤ 1000000, .ret (.slice (some ⟨H.next, 0, none⟩) l.length 1), H.add (.arr 84 (evs l)))
    | _ => none
  | _ => none
theorem st42_ok : CStepOk Tryz.prog cfg 42 st42 := by
  intro args H p r H' h hp
  unfold st42 at h
  split at h
  case h_2 => cases h
  split at h
  · simp only [Option.map_eq_some_iff] at h
    obtain ⟨l, hl, h⟩ := h
    rename_i k n tg x e cs hk
    cases h
    rw [asEvs_inv hl] at hk
    rw [hp.1]
    exact (runs42 e l tg hp.2).atK (ro_none rfl) [k] (by simp) (by simp) (by simp [hk]) (by simp) (by simp) (by simp [upd_get hk])
  · cases h

/-! Heap, Events -/
def tblT : List (FuncId × CStep GD) := [(48, st48), (42, st42)]
theorem tblT_ok : ∀ x ∈ tblT, CStepOk Tryz.prog cfg x.1 x.2 := by simp [tblT, st48_ok, st42_ok]
theorem runs16 (s : NS) (hs : s.Ok) : Runs Tryz.prog cfg 16 [.pointer (some ⟨0, 0, none⟩)] (AH.of [some (.hi (.eng s))])
    fun r H' => r = .ret (.slice (some ⟨1, 0, none⟩) s.hp.length 1) ∧ H' = AH.of [some (.hi (.eng s)), some (.arr 49 (us s.hp))] := by
  refine Runs.ends ?_
  refine Runs.openEng (th := 0) (by omega) fun es cc hes => ?_
  have hl : s.hp.length ≤ 1000000 := by have := hs.hp.2; omega
  refine runs_by (tbl := tblT) tblT_ok 0 3 (af := a16) rfl ?_
  rw [a16, b16, run_eq]
  refine ⟨by simp, ?_⟩
  simp (implicitDefEqProofs := false) [engL, tblT, st48, hl]
  refine ends_plan [.pack (GD.eng s) 0 [1, 2, 3, 4, 5, 6, 7, 8, 9, 10]] [0, 11] ?_ ?_ ?_ <;> simp [frag_eng, o1, o2, o3] <;> exact hes
def st16 : CStep GD := fun args H => match args with
  | [.pointer (some ⟨k, 0, none⟩)] => match H.get k with
    | some (.hi (.eng s)) => some (s.Ok, .ret (.slice (some ⟨H.next, 0, none⟩) s.hp.length 1), H.add (.arr 49 (us s.hp)))
    | _ => none
  | _ => none
theorem st16_ok : CStepOk Tryz.prog cfg 16 st16 := by
  intro args H p r H' h hp
  unfold st16 at h
  split at h
  case h_2 => cases h
  split at h
  case h_2 => cases h
  rename_i k x s hk
  cases h
  exact (runs16 s hp).atK (ro_none rfl) [k] (by simp) (by simp) (by simp [hk]) (by simp) (by simp) (by simp [upd_get hk])
theorem runs11 (s : NS) (hl : s.ev.length ≤ 1000000) : Runs Tryz.prog cfg 11 [.pointer (some ⟨0, 0, none⟩)] (AH.of [some (.hi (.eng s))])
    fun r H' => r = .ret (.slice (some ⟨1, 0, none⟩) s.ev.length 1) ∧ H' = AH.of [some (.hi (.eng s)), some (.arr 84 (evs s.ev))] := by
  refine Runs.ends ?_
  refine Runs.openEng (th := 0) (by omega) fun es cc hes => ?_
  refine runs_by (tbl := tblT) tblT_ok 0 3 (af := a11) rfl ?_
  rw [a11, b11, run_eq]
  refine ⟨by simp, ?_⟩
  simp (implicitDefEqProofs := false) [engL, tblT, st42, hl]
  refine ends_plan [.pack (GD.eng s) 0 [1, 2, 3, 4, 5, 6, 7, 8, 9, 10]] [0, 11] ?_ ?_ ?_ <;> simp [frag_eng, o1, o2, o3] <;> exact hes
def st11 : CStep GD := fun args H => match args with
  | [.pointer (some ⟨k, 0, none⟩)] => match H.get k with
    | some (.hi (.eng s)) => some (s.ev.length ≤ 1000000, .ret (.slice (some ⟨H.next, 0, none⟩) s.ev.length 1), H.add (.arr 84 (evs s.ev)))
    | _ => none
  | _ => none
theorem st11_ok : CStepOk Tryz.prog cfg 11 st11 := by
  intro args H p r H' h hp
  unfold st11 at h
  split at h
  case h_2 => cases h
  split at h
  case h_2 => cases h
  rename_i k x s hk
  cases h
  exact (runs11 s hp).atK (ro_none rfl) [k] (by simp) (by simp) (by simp [hk]) (by simp) (by simp) (by simp [upd_get hk])

/-! New -/
theorem u8s_nil : u8s [] = [] := rfl
def newS (h : List Int) : NS := ⟨none, 0, h, fun _ => none, [], [], []⟩
def tblN : List (FuncId × CStep GD) := [(48, st48), (96, st96), (97, st97)]
theorem tblN_ok : ∀ x ∈ tblN, CStepOk Tryz.prog cfg x.1 x.2 := by simp [tblN, st48_ok, st96_ok, st97_ok]
set_option maxHeartbeats 4000000 in
theorem runs_new_yes (h : List Int) (tg : Nat) (h1 : 1 ≤ h.length ∧ h.length ≤ 12) (hr : ∀ v ∈ h, rightB v = true) : Runs Tryz.prog cfg 35 [.slice (some ⟨0, 0, none⟩) h.length tg] (AH.of [some (.ro (us h))])
    fun r H' => r = .ret (.pointer (some ⟨1, 0, none⟩)) ∧ H' = AH.of [some (.ro (us h)), some (.hi (.eng (newS h)))] := by
  refine Runs.ends ?_
  obtain ⟨n, hn⟩ : ∃ n, h.length = n := ⟨_, rfl⟩
  have z1 : ¬ (n : Int) < 1 := by omega
  have z2 : ¬ (12 : Int) < n := by omega
  have hl : n ≤ 1000000 := by omega
  rw [hn]
  refine runs_by (tbl := tblN) tblN_ok 13 2 (af := a35) rfl ?_
  rw [a35, b35, run_eq]
  refine ⟨by simp, ?_⟩
  simp (implicitDefEqProofs := false) [z1, z2]
  refine loop_inv (sg_mono gX_ok (tabS_ok tblN_ok) _ _ noY noY_mono) (fun m tm H => ∃ i : Nat, m + i = n ∧ tm 0 = .slice (some ⟨0, 0, none⟩) n tg ∧ tm 13 = .slice (some ⟨0, 0, none⟩) n tg ∧ tm 14 = .int .i64 n ∧ tm 15 = .int .i64 i ∧ H = AH.of [some (.ro (us h))]) (m := n) ⟨0, by simp⟩ (by omega) ?_
  rintro m tm H ⟨i, hm, t0, t13, t14, t15, rfl⟩
  by_cases hi : i < n
  · obtain ⟨x, hx⟩ : ∃ x, h[i]? = some x := ⟨h[i]'(by omega), List.getElem?_eq_getElem (by omega)⟩
    have hi' : (i : Int) < n := by omega
    have hwr := inc_i64 hi (by omega)
    have ux := us_at hx
    have hrx := hr x (List.mem_of_getElem? hx)
    simp (implicitDefEqProofs := false) [tblN, st96, t0, t13, t14, t15, hi, hi', ux, hrx, hwr]
    exact ⟨m - 1, by omega, i + 1, by omega, by omega⟩
  · have hie : i = n := by omega
    subst hie
    simp (implicitDefEqProofs := false) [tblN, st97, st48, t0, t13, t14, t15, hn, hl]
    refine ends_plan [.nil 84, .nil 38, .nil 61, .nil 100, .nil 100, .nil 100, .nil 100, .pack (GD.eng (newS h)) 4 [1, 2, 3, 5, 6, 7, 8, 9, 10, 11]] [0, 4] ?_ ?_ ?_ <;> simp [frag_eng, newS, slotO_none, evs_nil, us_nil, u8s_nil, hn, tpK, tp1, renP]
    exact AlikeM.nil 0
def st35 : CStep GD := fun args H => match args with
  | [.slice (some ⟨k, 0, none⟩) n _] => match H.get k with
    | some (.arr _ cs) => (asUs cs).map fun l => (n = l.length ∧ k < H.next ∧ 1 ≤ l.length ∧ l.length ≤ 12 ∧ (∀ v ∈ l, rightB v = true), .ret (.pointer (some ⟨H.next, 0, none⟩)), H.add (.hi (.eng (newS l))))
    | _ => none
  | _ => none
theorem st35_ok : CStepOk Tryz.prog cfg 35 st35 := by
  intro args H p r H' h hp
  unfold st35 at h
  split at h
  case h_2 => cases h
  split at h
  case h_2 => cases h
  simp only [Option.map_eq_some_iff] at h
  obtain ⟨l, hl, h⟩ := h
  rename_i k n tg x e cs hk
  cases h
  obtain ⟨h1, hkn, h2, h3, h4⟩ := hp
  rw [asUs_inv hl] at hk
  rw [h1]
  refine Runs.borrow k hk ?_
  have hk2 : (H.upd k (.ro (us l))).get k = some (.ro (us l)) := by rw [AH.get_upd, if_pos rfl]
  have hr := (runs_new_yes l tg ⟨h2, h3⟩ h4).atK (H := H.upd k (.ro (us l))) (args := [.slice (some ⟨k, 0, none⟩) l.length tg]) (r' := .ret (.pointer (some ⟨H.next, 0, none⟩))) (H' := (H.upd k (.ro (us l))).add (.hi (.eng (newS l)))) (ro_same fun i cs hi => by rcases i with _ | _ | i <;> simp at hi ⊢; exact hi) [k] (by simp) (by simp) (by simp [hk2]) (by simp) (by simp) (by simp [upd_get hk2])
  refine hr.mono ?_
  rintro r H' ⟨e1, rfl⟩
  refine ⟨by rw [AH.get_add, AH.next_upd, if_neg (by omega), AH.get_upd, if_pos rfl], fun j cs2 hj hcs hne => ⟨cs2, ?_, hne⟩, e1, ?_⟩
  · rw [AH.get_add, AH.next_upd] at hcs
    split at hcs
    · cases hcs
    · rw [AH.get_upd, if_neg hj] at hcs; exact hcs
  · refine AH.ext' (by simp) fun j => ?_
    rw [AH.get_upd, AH.get_add, AH.get_add, AH.next_upd, AH.get_upd]
    by_cases h : j = k
    · subst h; rw [if_pos rfl, if_neg (by omega), hk]
    · rw [if_neg h, if_neg h]
theorem newS_ok {h : List Int} (h1 : 1 ≤ h.length ∧ h.length ≤ 12) (h2 : ∀ v ∈ h, 0 ≤ v ∧ v < 18446744073709551616) : (newS h).Ok where
  hp := h1
  hv := h2
  c := ⟨Int.le_refl _, by simp [newS]⟩
  held' := fun x h => by cases h
  ky := by simp [newS]
  kw := rfl
  ts := fun th a h => by cases h
  own := fun x h => by cases h
  dec := fun th a h => by cases h
  th4 := fun _ _ => rfl
def firstV : List Int := [0, 4607182418800017408, 9221120237041090560, 9223372036854775808, 0]
theorem firstV_right : ∀ v ∈ firstV, rightB v = true := by
  intro v hv
  simp only [firstV, List.mem_cons, List.not_mem_nil, or_false] at hv
  rcases hv with rfl | rfl | rfl | rfl | rfl <;> decide
theorem firstV_ok : (newS firstV).Ok := newS_ok ⟨by decide, by decide⟩ (by decide)
end YtnemoimbeefngaaGreat
end Go.Proofs
/-
  NOREC: deeds by the program alone.
-/
set_option linter.unusedSimpArgs false
set_option linter.unusedVariables false
set_option linter.unnecessarySimpa false
set_option linter.unusedSectionVars false
namespace Go.Proofs
namespace YtnemoimbeefngaaGreat
open Go.Abs
set_option linter.unusedSimpArgs false

theorem ok_beginX {s : NS} (hs : s.Ok) (t : Int) : (beginX s t).Ok := by
  unfold beginX
  split
  · exact hs
  · rename_i th ht
    split
    · exact hs.begin (thOf_some ht).1 (by assumption)
    · exact hs
theorem ok_askX {s : NS} (hs : s.Ok) (t : Int) {x : Ak} (hk : 0 ≤ x.k) (hv : 0 ≤ x.v ∧ x.v < 18446744073709551616) : (askX s t x).Ok := by
  unfold askX
  split
  · exact hs
  · rename_i th ht
    split
    · exact hs.ask (thOf_some ht).1 hk hv (by assumption)
    · exact hs
theorem ok_stepX {s : NS} (hs : s.Ok) (t : Int) : (stepX s t).Ok := by
  unfold stepX
  split
  · exact hs
  · rename_i th ht
    exact hs.step (thOf_some ht).1
theorem ok_killX {s : NS} (hs : s.Ok) (t : Int) : (killX s t).Ok := by
  unfold killX
  split
  · exact hs
  · rename_i th ht
    exact hs.kill (thOf_some ht).1
theorem ev_beginX (s : NS) (t : Int) : (beginX s t).ev.length ≤ s.ev.length + 1 := by
  unfold beginX
  split
  · omega
  · split
    · simp [beginS]
    · omega
theorem ev_askX (s : NS) (t : Int) (x : Ak) : (askX s t x).ev = s.ev := by
  unfold askX
  split
  · rfl
  · split
    · unfold askS; split <;> rfl
    · rfl
theorem ev_end (s : NS) (th : Nat) (a : Att) (w : Int) : (endS s th a w).ev.length = s.ev.length + 1 := by simp [endS]
theorem ev_step (s : NS) (th : Nat) : (stepS s th).2.ev.length ≤ s.ev.length + 2 := by
  unfold stepS
  split
  · simp only; omega
  · rename_i a ha
    split
    · simp only; omega
    split
    · unfold againS
      repeat' split
      all_goals simp [endS, putA]
    split
    · simp [endS]
    split
    · unfold goOnS
      repeat' split
      all_goals simp [endS, putA, commitS]
    split
    · unfold readS
      repeat' split
      all_goals simp [endS, putA, gotS]
    · unfold turnS
      repeat' split
      all_goals simp [endS]
theorem ev_stepX (s : NS) (t : Int) : (stepX s t).ev.length ≤ s.ev.length + 2 := by
  unfold stepX
  split
  · omega
  · exact ev_step s _
theorem ev_killX (s : NS) (t : Int) : (killX s t).ev.length ≤ s.ev.length + 1 := by
  unfold killX
  split
  · omega
  · unfold killS
    split
    · omega
    · split
      · omega
      · simp [endS]

/-- What is done by a thread. -/
structure Dd where
  k : Int
  t : Int
  a : Ak
def Dd.cells (d : Dd) : List Value := [.int .i64 d.k, .int .i64 d.t, .int .u8 d.a.k, .int .i64 d.a.t, .int .u64 d.a.v]
def Dd.Ok (d : Dd) : Prop := (0 ≤ d.a.k ∧ d.a.k < 256) ∧ 0 ≤ d.a.v ∧ d.a.v < 18446744073709551616
def dds (l : List Dd) : List Value := l.flatMap Dd.cells
theorem dds_cons (d : Dd) (l : List Dd) : dds (d :: l) = .int .i64 d.k :: .int .i64 d.t :: .int .u8 d.a.k :: .int .i64 d.a.t :: .int .u64 d.a.v :: dds l := rfl
theorem dds_length (l : List Dd) : (dds l).length = l.length * 5 := by
  induction l with
  | nil => rfl
  | cons e l ih => rw [dds_cons]; simp [ih]; omega
theorem dds_ground (l : List Dd) : grounds (dds l) = true := by
  induction l with
  | nil => rfl
  | cons e l ih => rw [dds_cons]; simp [grounds, ground, ih]
theorem ren_dds (θ : Nat → Nat) (l : List Dd) : rens θ (dds l) = dds l := rens_ground θ _ (dds_ground l)
theorem many_dds {i : Nat} {x : Dd} : ∀ {l : List Dd}, l[i]? = some x → ((dds l).drop (i * 5)).take 5 = x.cells := by
  induction i with
  | zero =>
    intro l h
    cases l with
    | nil => simp at h
    | cons e l => simp at h; subst h; rfl
  | succ i ih =>
    intro l h
    cases l with
    | nil => simp at h
    | cons e l =>
      rw [dds_cons, show (i + 1) * 5 = i * 5 + 1 + 1 + 1 + 1 + 1 by omega]
      simpa using ih (l := l) (by simpa using h)
theorem dds_at {l : List Dd} {i : Nat} {x : Dd} (h : l[i]? = some x) : (dds l)[i * 5]? = some (.int .i64 x.k) ∧ (dds l)[i * 5 + 1]? = some (.int .i64 x.t) ∧ (dds l)[i * 5 + 2]? = some (.int .u8 x.a.k) ∧ (dds l)[i * 5 + 3]? = some (.int .i64 x.a.t) ∧ (dds l)[i * 5 + 4]? = some (.int .u64 x.a.v) := by
  have h3 := many_dds h
  have g : ∀ j, j < 5 → (dds l)[i * 5 + j]? = x.cells[j]? := fun j hj => by
    rw [← h3, List.getElem?_take, if_pos hj, List.getElem?_drop]
  exact ⟨g 0 (by omega), g 1 (by omega), g 2 (by omega), g 3 (by omega), g 4 (by omega)⟩
theorem many_ask {l : List Dd} {i : Nat} {x : Dd} (h : l[i]? = some x) : ((dds l).drop (i * 5 + 2)).take 3 = [.int .u8 x.a.k, .int .i64 x.a.t, .int .u64 x.a.v] := by
  have h3 := many_dds h
  have : ((dds l).drop (i * 5 + 2)).take 3 = (((dds l).drop (i * 5)).take 5).drop 2 := by
    rw [List.drop_take, List.drop_drop]
  rw [this, h3]; rfl
attribute [simp] ren_dds
def deedS (s : NS) (d : Dd) : NS :=
  if d.k = 0 then beginX s d.t else if d.k = 1 then askX s d.t d.a else if d.k = 2 then stepX s d.t else if d.k = 3 then killX s d.t else s
theorem ok_deed {s : NS} (hs : s.Ok) {d : Dd} (hd : d.Ok) : (deedS s d).Ok := by
  unfold deedS
  split
  · exact ok_beginX hs _
  split
  · exact ok_askX hs _ hd.1.1 hd.2
  split
  · exact ok_stepX hs _
  split
  · exact ok_killX hs _
  · exact hs
theorem ev_deed (s : NS) (d : Dd) : (deedS s d).ev.length ≤ s.ev.length + 2 := by
  unfold deedS
  split
  · have := ev_beginX s d.t; omega
  split
  · rw [ev_askX]; omega
  split
  · exact ev_stepX s d.t
  split
  · have := ev_killX s d.t; omega
  · omega
/-- Deeds over five values. -/
def playS (l : List Dd) : NS := l.foldl deedS (newS firstV)
theorem playS_succ {l : List Dd} {i : Nat} {x : Dd} (h : l[i]? = some x) : playS (l.take (i + 1)) = deedS (playS (l.take i)) x := by
  unfold playS
  rw [List.take_add_one, h, List.foldl_append]
  rfl
theorem playS_ok (l : List Dd) (hl : ∀ d ∈ l, d.Ok) : (playS l).Ok ∧ (playS l).ev.length ≤ 2 * l.length := by
  have key : ∀ (l : List Dd) (s : NS), (∀ d ∈ l, d.Ok) → s.Ok → (l.foldl deedS s).Ok ∧ (l.foldl deedS s).ev.length ≤ s.ev.length + 2 * l.length := by
    intro l
    induction l with
    | nil => intro s _ h; exact ⟨h, by simp⟩
    | cons d l ih =>
      intro s hd hs
      have h1 := ih (deedS s d) (fun x hx => hd x (by simp [hx])) (ok_deed hs (hd d (by simp)))
      have h2 := ev_deed s d
      refine ⟨h1.1, ?_⟩
      have h3 := h1.2
      simp only [List.foldl_cons, List.length_cons]
      omega
  have := key l (newS firstV) hl firstV_ok
  refine ⟨this.1, ?_⟩
  have h2 := this.2
  have h0 : (newS firstV).ev.length = 0 := rfl
  unfold playS
  omega

/-! live -/
theorem runs_first (H : AH GD) : Runs Tryz.prog cfg 12 [] H fun r H' => r = .ret (.slice (some ⟨H.next, 0, none⟩) 5 1) ∧ H' = H.add (.arr 49 (us firstV)) := by
  have h0 : Runs Tryz.prog cfg 12 [] (AH.of []) fun r H' => r = .ret (.slice (some ⟨0, 0, none⟩) 5 1) ∧ H' = AH.of [some (.arr 49 (us firstV))] := by
    refine Runs.ends ?_
    refine runs_by (tbl := []) (by simp) 0 0 (af := a12) rfl ?_
    rw [a12, b12, run_eq]
    refine ⟨by simp, ?_⟩
    simp (implicitDefEqProofs := false)
    refine ends_plan [] [0] ?_ ?_ ?_ <;> simp [us, firstV]
  exact h0.atK (ro_none rfl) [] (by simp) (by simp) trivial (by simp) (by simp) (by simp)
def st12 : CStep GD := fun args H => match args with
  | [] => some (True, .ret (.slice (some ⟨H.next, 0, none⟩) 5 1), H.add (.arr 49 (us firstV)))
  | _ => none
theorem st12_ok : CStepOk Tryz.prog cfg 12 st12 := by
  intro args H p r H' h hp
  unfold st12 at h
  split at h
  case h_2 => cases h
  cases h
  exact runs_first H
def tblL : List (FuncId × CStep GD) := [(12, st12), (35, st35), (24, dataSt d24), (27, dataSt d27), (28, dataSt d28), (11, st11)]
theorem tblL_ok : ∀ x ∈ tblL, CStepOk Tryz.prog cfg x.1 x.2 := by simp [tblL, st12_ok, st35_ok, st24_ok, st27_ok, st28_ok, st11_ok]
theorem firstV_len : firstV.length = 5 := rfl
def lv1 : NS := beginX (newS firstV) 1
def lv2 : NS := askX lv1 1 ⟨1, 1, 0⟩
def lv3 : NS := stepX lv2 1
def lv4 : NS := stepX lv3 1
def lv5 : NS := askX lv4 1 ⟨6, 0, 0⟩
def lv6 : NS := stepX lv5 1
theorem lv1_ok : lv1.Ok ∧ lv1.ev.length ≤ 100000 := ⟨ok_beginX firstV_ok 1, by decide +kernel⟩
theorem lv2_ok : lv2.Ok ∧ lv2.ev.length ≤ 100000 := ⟨ok_askX lv1_ok.1 1 (by decide) (by decide), by decide +kernel⟩
theorem lv3_ok : lv3.Ok ∧ lv3.ev.length ≤ 100000 := ⟨ok_stepX lv2_ok.1 1, by decide +kernel⟩
theorem lv4_ok : lv4.Ok ∧ lv4.ev.length ≤ 100000 := ⟨ok_stepX lv3_ok.1 1, by decide +kernel⟩
theorem lv5_ok : lv5.Ok ∧ lv5.ev.length ≤ 100000 := ⟨ok_askX lv4_ok.1 1 (by decide) (by decide), by decide +kernel⟩
theorem lv_b : beginR (newS firstV) 1 = .tuple #[.int .i64 0, .int .i64 0] := rfl
theorem lv_a1 : askR lv1 1 ⟨1, 1, 0⟩ = 0 := by decide +kernel
theorem lv_a2 : askR lv4 1 ⟨6, 0, 0⟩ = 0 := by decide +kernel
theorem lv_s2 : stepR lv3 1 = rpDone 4607182418800017408 := by decide +kernel
theorem lv_s3 : stepR lv5 1 = rpEnd 0 := by decide +kernel
theorem lv_e : lv6.ev.length = 4 := by decide +kernel
theorem lv_e' : lv6.ev.length ≤ 1000000 := by rw [lv_e]; decide
set_option maxRecDepth 10000 in
set_option maxHeartbeats 4000000 in
theorem runs9 : Runs Tryz.prog cfg 9 [] (AH.of []) fun r H' => r = .ret (.bool true) ∧ H' = AH.of [] := by
  refine Runs.ends ?_
  have h1 := firstV_ok
  have h1e : (newS firstV).ev.length ≤ 100000 := by decide
  have hr := firstV_right
  have e1 : beginX (newS firstV) 1 = lv1 := rfl
  have e2 : askX lv1 1 ⟨1, 1, 0⟩ = lv2 := rfl
  have e3 : stepX lv2 1 = lv3 := rfl
  have e4 : stepX lv3 1 = lv4 := rfl
  have e5 : askX lv4 1 ⟨6, 0, 0⟩ = lv5 := rfl
  have e6 : stepX lv5 1 = lv6 := rfl
  refine runs_by (tbl := tblL) tblL_ok 0 0 (af := a9) rfl ?_
  rw [a9, b9, run_eq]
  refine ⟨by simp, ?_⟩
  simp (implicitDefEqProofs := false) [tblL, st12, st35, dataSt, d24, d27, d28, st11, firstV_len, h1, h1e, hr, e1, e2, e3, e4, e5, e6, lv1_ok, lv2_ok, lv3_ok, lv4_ok, lv5_ok, lv_b, lv_a1, lv_a2, lv_s2, lv_s3, lv_e, Rp.v, Rp.cells, rpDone, rpEnd]
  refine ⟨hr, ends_plan [] [] ?_ ?_ ?_⟩ <;> simp
def st9 : CStep GD := fun args H => match args with
  | [] => some (True, .ret (.bool true), H)
  | _ => none
theorem st9_ok : CStepOk Tryz.prog cfg 9 st9 := by
  intro args H p r H' h hp
  unfold st9 at h
  split at h
  case h_2 => cases h
  cases h
  exact runs9.atK (ro_none rfl) [] (by simp) (by simp) trivial (by simp) (by simp) (by simp)
end YtnemoimbeefngaaGreat
end Go.Proofs
/-
  NOREC: a nil engine; values that may not be.
-/
set_option linter.unusedSimpArgs false
set_option linter.unusedVariables false
set_option linter.unnecessarySimpa false
set_option linter.unusedSectionVars false
namespace Go.Proofs
namespace YtnemoimbeefngaaGreat
open Go.Abs
set_option linter.unusedSimpArgs false

set_option maxHeartbeats 4000000 in
theorem runs_nil24 (t : Int) : Runs Tryz.prog cfg 24 [.pointer none, .int .i64 t] (AH.of []) fun r H' => r = .ret (.tuple #[.int .i64 0, .int .i64 1]) ∧ H' = AH.of [] := by
  refine Runs.ends ?_
  refine runs_by (tbl := []) (by simp) 0 3 (af := a24) rfl ?_
  rw [a24, b24, run_eq]
  refine ⟨by simp, ?_⟩
  simp (implicitDefEqProofs := false) [forms79, a79, b79]
  refine ends_plan [] [] ?_ ?_ ?_ <;> simp
def pn24 : PStep
  | [.pointer none, .int .i64 _] => some (True, .tuple #[.int .i64 0, .int .i64 1])
  | _ => none
theorem sn24_ok : CStepOk Tryz.prog cfg 24 (pureStep pn24) := pure_ok fun args p v h hp => by
  unfold pn24 at h
  split at h
  · cases h; exact ⟨rfl, rfl, runs_nil24 _⟩
  · cases h

set_option maxHeartbeats 4000000 in
theorem runs_nil25 (t : Int) : Runs Tryz.prog cfg 25 [.pointer none, .int .i64 t] (AH.of []) fun r H' => r = .ret (.tuple #[.int .i64 0, .bool false]) ∧ H' = AH.of [] := by
  refine Runs.ends ?_
  refine runs_by (tbl := []) (by simp) 0 3 (af := a25) rfl ?_
  rw [a25, b25, run_eq]
  refine ⟨by simp, ?_⟩
  simp (implicitDefEqProofs := false) [forms46, a46, b46]
  refine ends_plan [] [] ?_ ?_ ?_ <;> simp
def pn25 : PStep
  | [.pointer none, .int .i64 _] => some (True, .tuple #[.int .i64 0, .bool false])
  | _ => none
theorem sn25_ok : CStepOk Tryz.prog cfg 25 (pureStep pn25) := pure_ok fun args p v h hp => by
  unfold pn25 at h
  split at h
  · cases h; exact ⟨rfl, rfl, runs_nil25 _⟩
  · cases h

set_option maxHeartbeats 4000000 in
theorem runs_nil26 (t : Int) : Runs Tryz.prog cfg 26 [.pointer none, .int .i64 t] (AH.of []) fun r H' => r = .ret (.tuple #[.agg #[.int .u8 0, .int .i64 0, .int .u64 0], .bool false]) ∧ H' = AH.of [] := by
  refine Runs.ends ?_
  refine runs_by (tbl := []) (by simp) 0 3 (af := a26) rfl ?_
  rw [a26, b26, run_eq]
  refine ⟨by simp, ?_⟩
  simp (implicitDefEqProofs := false) [forms46, a46, b46]
  refine ends_plan [] [] ?_ ?_ ?_ <;> simp
def pn26 : PStep
  | [.pointer none, .int .i64 _] => some (True, .tuple #[.agg #[.int .u8 0, .int .i64 0, .int .u64 0], .bool false])
  | _ => none
theorem sn26_ok : CStepOk Tryz.prog cfg 26 (pureStep pn26) := pure_ok fun args p v h hp => by
  unfold pn26 at h
  split at h
  · cases h; exact ⟨rfl, rfl, runs_nil26 _⟩
  · cases h

set_option maxHeartbeats 4000000 in
theorem runs_nil27 (t k a v : Int) : Runs Tryz.prog cfg 27 [.pointer none, .int .i64 t, .agg #[.int .u8 k, .int .i64 a, .int .u64 v]] (AH.of []) fun r H' => r = .ret (.int .i64 1) ∧ H' = AH.of [] := by
  refine Runs.ends ?_
  refine runs_by (tbl := []) (by simp) 0 3 (af := a27) rfl ?_
  rw [a27, b27, run_eq]
  refine ⟨by simp, ?_⟩
  simp (implicitDefEqProofs := false) [forms79, a79, b79]
  refine ends_plan [] [] ?_ ?_ ?_ <;> simp
def pn27 : PStep
  | [.pointer none, .int .i64 _, .agg ⟨[.int .u8 _, .int .i64 _, .int .u64 _]⟩] => some (True, .int .i64 1)
  | _ => none
theorem sn27_ok : CStepOk Tryz.prog cfg 27 (pureStep pn27) := pure_ok fun args p v h hp => by
  unfold pn27 at h
  split at h
  · cases h; exact ⟨rfl, rfl, runs_nil27 _ _ _ _⟩
  · cases h

set_option maxHeartbeats 4000000 in
theorem runs_nil28 (t : Int) : Runs Tryz.prog cfg 28 [.pointer none, .int .i64 t] (AH.of []) fun r H' => r = .ret (.agg #[.bool false, .int .u64 0, .bool false, .int .i64 0, .bool false, .int .u8 0, .int .i64 1]) ∧ H' = AH.of [] := by
  refine Runs.ends ?_
  refine runs_by (tbl := []) (by simp) 0 3 (af := a28) rfl ?_
  rw [a28, b28, run_eq]
  refine ⟨by simp, ?_⟩
  simp (implicitDefEqProofs := false) [forms79, a79, b79]
  refine ends_plan [] [] ?_ ?_ ?_ <;> simp
def pn28 : PStep
  | [.pointer none, .int .i64 _] => some (True, .agg #[.bool false, .int .u64 0, .bool false, .int .i64 0, .bool false, .int .u8 0, .int .i64 1])
  | _ => none
theorem sn28_ok : CStepOk Tryz.prog cfg 28 (pureStep pn28) := pure_ok fun args p v h hp => by
  unfold pn28 at h
  split at h
  · cases h; exact ⟨rfl, rfl, runs_nil28 _⟩
  · cases h

set_option maxHeartbeats 4000000 in
theorem runs_nil29 (t : Int) : Runs Tryz.prog cfg 29 [.pointer none, .int .i64 t] (AH.of []) fun r H' => r = .ret (.int .i64 1) ∧ H' = AH.of [] := by
  refine Runs.ends ?_
  refine runs_by (tbl := []) (by simp) 0 3 (af := a29) rfl ?_
  rw [a29, b29, run_eq]
  refine ⟨by simp, ?_⟩
  simp (implicitDefEqProofs := false) [forms79, a79, b79]
  refine ends_plan [] [] ?_ ?_ ?_ <;> simp
def pn29 : PStep
  | [.pointer none, .int .i64 _] => some (True, .int .i64 1)
  | _ => none
theorem sn29_ok : CStepOk Tryz.prog cfg 29 (pureStep pn29) := pure_ok fun args p v h hp => by
  unfold pn29 at h
  split at h
  · cases h; exact ⟨rfl, rfl, runs_nil29 _⟩
  · cases h

set_option maxHeartbeats 4000000 in
theorem runs_nil16 : Runs Tryz.prog cfg 16 [.pointer none] (AH.of []) fun r H' => r = .ret (.slice none 0 0) ∧ H' = AH.of [] := by
  refine Runs.ends ?_
  refine runs_by (tbl := []) (by simp) 0 3 (af := a16) rfl ?_
  rw [a16, b16, run_eq]
  refine ⟨by simp, ?_⟩
  simp (implicitDefEqProofs := false) []
  refine ends_plan [] [] ?_ ?_ ?_ <;> simp
def pn16 : PStep
  | [.pointer none] => some (True, .slice none 0 0)
  | _ => none
theorem sn16_ok : CStepOk Tryz.prog cfg 16 (pureStep pn16) := pure_ok fun args p v h hp => by
  unfold pn16 at h
  split at h
  · cases h; exact ⟨rfl, rfl, runs_nil16⟩
  · cases h

set_option maxHeartbeats 4000000 in
theorem runs_nil11 : Runs Tryz.prog cfg 11 [.pointer none] (AH.of []) fun r H' => r = .ret (.slice none 0 0) ∧ H' = AH.of [] := by
  refine Runs.ends ?_
  refine runs_by (tbl := []) (by simp) 0 3 (af := a11) rfl ?_
  rw [a11, b11, run_eq]
  refine ⟨by simp, ?_⟩
  simp (implicitDefEqProofs := false) []
  refine ends_plan [] [] ?_ ?_ ?_ <;> simp
def pn11 : PStep
  | [.pointer none] => some (True, .slice none 0 0)
  | _ => none
theorem sn11_ok : CStepOk Tryz.prog cfg 11 (pureStep pn11) := pure_ok fun args p v h hp => by
  unfold pn11 at h
  split at h
  · cases h; exact ⟨rfl, rfl, runs_nil11⟩
  · cases h

set_option maxHeartbeats 4000000 in
theorem runs_nil13 : Runs Tryz.prog cfg 13 [.pointer none] (AH.of []) fun r H' => r = .ret (.slice none 0 0) ∧ H' = AH.of [] := by
  refine Runs.ends ?_
  refine runs_by (tbl := []) (by simp) 0 3 (af := a13) rfl ?_
  rw [a13, b13, run_eq]
  refine ⟨by simp, ?_⟩
  simp (implicitDefEqProofs := false) []
  refine ends_plan [] [] ?_ ?_ ?_ <;> simp
def pn13 : PStep
  | [.pointer none] => some (True, .slice none 0 0)
  | _ => none
theorem sn13_ok : CStepOk Tryz.prog cfg 13 (pureStep pn13) := pure_ok fun args p v h hp => by
  unfold pn13 at h
  split at h
  · cases h; exact ⟨rfl, rfl, runs_nil13⟩
  · cases h

set_option maxHeartbeats 4000000 in
theorem runs_nil30 (t : Int) : Runs Tryz.prog cfg 30 [.pointer none, .int .i64 t] (AH.of []) fun r H' => r = .ret (.int .u8 0) ∧ H' = AH.of [] := by
  refine Runs.ends ?_
  refine runs_by (tbl := []) (by simp) 0 3 (af := a30) rfl ?_
  rw [a30, b30, run_eq]
  refine ⟨by simp, ?_⟩
  simp (implicitDefEqProofs := false) []
  refine ends_plan [] [] ?_ ?_ ?_ <;> simp
def pn30 : PStep
  | [.pointer none, .int .i64 _] => some (True, .int .u8 0)
  | _ => none
theorem sn30_ok : CStepOk Tryz.prog cfg 30 (pureStep pn30) := pure_ok fun args p v h hp => by
  unfold pn30 at h
  split at h
  · cases h; exact ⟨rfl, rfl, runs_nil30 _⟩
  · cases h

set_option maxHeartbeats 4000000 in
theorem runs_nil31 (t : Int) : Runs Tryz.prog cfg 31 [.pointer none, .int .i64 t] (AH.of []) fun r H' => r = .ret (.slice none 0 0) ∧ H' = AH.of [] := by
  refine Runs.ends ?_
  refine runs_by (tbl := []) (by simp) 0 3 (af := a31) rfl ?_
  rw [a31, b31, run_eq]
  refine ⟨by simp, ?_⟩
  simp (implicitDefEqProofs := false) [forms46, a46, b46]
  refine ends_plan [] [] ?_ ?_ ?_ <;> simp
def pn31 : PStep
  | [.pointer none, .int .i64 _] => some (True, .slice none 0 0)
  | _ => none
theorem sn31_ok : CStepOk Tryz.prog cfg 31 (pureStep pn31) := pure_ok fun args p v h hp => by
  unfold pn31 at h
  split at h
  · cases h; exact ⟨rfl, rfl, runs_nil31 _⟩
  · cases h

set_option maxHeartbeats 4000000 in
theorem runs_nil32 (t : Int) : Runs Tryz.prog cfg 32 [.pointer none, .int .i64 t] (AH.of []) fun r H' => r = .ret (.slice none 0 0) ∧ H' = AH.of [] := by
  refine Runs.ends ?_
  refine runs_by (tbl := []) (by simp) 0 3 (af := a32) rfl ?_
  rw [a32, b32, run_eq]
  refine ⟨by simp, ?_⟩
  simp (implicitDefEqProofs := false) [forms46, a46, b46]
  refine ends_plan [] [] ?_ ?_ ?_ <;> simp
def pn32 : PStep
  | [.pointer none, .int .i64 _] => some (True, .slice none 0 0)
  | _ => none
theorem sn32_ok : CStepOk Tryz.prog cfg 32 (pureStep pn32) := pure_ok fun args p v h hp => by
  unfold pn32 at h
  split at h
  · cases h; exact ⟨rfl, rfl, runs_nil32 _⟩
  · cases h

set_option maxHeartbeats 4000000 in
theorem runs_nil33 (t : Int) : Runs Tryz.prog cfg 33 [.pointer none, .int .i64 t] (AH.of []) fun r H' => r = .ret (.bool false) ∧ H' = AH.of [] := by
  refine Runs.ends ?_
  refine runs_by (tbl := []) (by simp) 0 3 (af := a33) rfl ?_
  rw [a33, b33, run_eq]
  refine ⟨by simp, ?_⟩
  simp (implicitDefEqProofs := false) []
  refine ends_plan [] [] ?_ ?_ ?_ <;> simp
def pn33 : PStep
  | [.pointer none, .int .i64 _] => some (True, .bool false)
  | _ => none
theorem sn33_ok : CStepOk Tryz.prog cfg 33 (pureStep pn33) := pure_ok fun args p v h hp => by
  unfold pn33 at h
  split at h
  · cases h; exact ⟨rfl, rfl, runs_nil33 _⟩
  · cases h

set_option maxHeartbeats 4000000 in
theorem runs_nil34 (t : Int) : Runs Tryz.prog cfg 34 [.pointer none, .int .i64 t] (AH.of []) fun r H' => r = .ret (.bool false) ∧ H' = AH.of [] := by
  refine Runs.ends ?_
  refine runs_by (tbl := []) (by simp) 0 3 (af := a34) rfl ?_
  rw [a34, b34, run_eq]
  refine ⟨by simp, ?_⟩
  simp (implicitDefEqProofs := false) [forms46, a46, b46]
  refine ends_plan [] [] ?_ ?_ ?_ <;> simp
def pn34 : PStep
  | [.pointer none, .int .i64 _] => some (True, .bool false)
  | _ => none
theorem sn34_ok : CStepOk Tryz.prog cfg 34 (pureStep pn34) := pure_ok fun args p v h hp => by
  unfold pn34 at h
  split at h
  · cases h; exact ⟨rfl, rfl, runs_nil34 _⟩
  · cases h

set_option maxHeartbeats 4000000 in
theorem runs_nil17 : Runs Tryz.prog cfg 17 [.pointer none] (AH.of []) fun r H' => r = .ret (.int .u64 0) ∧ H' = AH.of [] := by
  refine Runs.ends ?_
  refine runs_by (tbl := []) (by simp) 0 3 (af := a17) rfl ?_
  rw [a17, b17, run_eq]
  refine ⟨by simp, ?_⟩
  simp (implicitDefEqProofs := false) []
  refine ends_plan [] [] ?_ ?_ ?_ <;> simp
def pn17 : PStep
  | [.pointer none] => some (True, .int .u64 0)
  | _ => none
theorem sn17_ok : CStepOk Tryz.prog cfg 17 (pureStep pn17) := pure_ok fun args p v h hp => by
  unfold pn17 at h
  split at h
  · cases h; exact ⟨rfl, rfl, runs_nil17⟩
  · cases h

set_option maxHeartbeats 4000000 in
theorem runs_nil21 : Runs Tryz.prog cfg 21 [.pointer none] (AH.of []) fun r H' => r = .ret (.pointer none) ∧ H' = AH.of [] := by
  refine Runs.ends ?_
  refine runs_by (tbl := []) (by simp) 0 3 (af := a21) rfl ?_
  rw [a21, b21, run_eq]
  refine ⟨by simp, ?_⟩
  simp (implicitDefEqProofs := false) []
  refine ends_plan [] [] ?_ ?_ ?_ <;> simp
def pn21 : PStep
  | [.pointer none] => some (True, .pointer none)
  | _ => none
theorem sn21_ok : CStepOk Tryz.prog cfg 21 (pureStep pn21) := pure_ok fun args p v h hp => by
  unfold pn21 at h
  split at h
  · cases h; exact ⟨rfl, rfl, runs_nil21⟩
  · cases h

/-! Decided -/
set_option maxHeartbeats 4000000 in
set_option maxRecDepth 20000 in
theorem runs_sortN : Runs Tryz.prog cfg 47 [.slice none 0 0] (AH.of []) fun r H' => r = .ret (.tuple #[]) ∧ H' = AH.of [] := by
  refine Runs.ends ?_
  refine runs_by (tbl := []) (by simp) 3 5 (af := a47) rfl ?_
  rw [a47, b47, run_eq]
  refine ⟨by simp, ?_⟩
  have w1 : IntKind.u64.wrap 0 = 0 := by decide
  have w2 : IntKind.u8.wrap 0 = 0 := by decide
  have w3 : IntKind.i64.wrap 0 = 0 := by decide
  have w4 : IntKind.i64.wrap 1 = 1 := by decide
  simp (implicitDefEqProofs := false) [forms106, a106, b106, forms107, a107, b107, forms166, a166, b166, w1, w2, w3]
  refine loop_once (sg_mono gX_ok (tabS_ok (by simp)) _ _ noY noY_mono) (by omega) ?_
  simp (implicitDefEqProofs := false) [forms156, a156, b156, w3, w4]
  refine loop_once (sg_mono gX_ok (tabS_ok (by simp)) _ _ noY noY_mono) (by omega) ?_
  simp (implicitDefEqProofs := false) [w3]
  refine ends_plan [] [] ?_ ?_ ?_ <;> simp
def pn47 : PStep
  | [.slice none 0 0] => some (True, .tuple #[])
  | _ => none
theorem sn47_ok : CStepOk Tryz.prog cfg 47 (pureStep pn47) := pure_ok fun args p v h hp => by
  unfold pn47 at h
  split at h
  · cases h; exact ⟨rfl, rfl, runs_sortN⟩
  · cases h
def tblDn : List (FuncId × CStep GD) := [(47, pureStep pn47)]
theorem tblDn_ok : ∀ x ∈ tblDn, CStepOk Tryz.prog cfg x.1 x.2 := by simp [tblDn, sn47_ok]
set_option maxHeartbeats 4000000 in
theorem runs_nil14 : Runs Tryz.prog cfg 14 [.pointer none] (AH.of []) fun r H' => r = .ret (.slice none 0 0) ∧ H' = AH.of [] := by
  refine Runs.ends ?_
  refine runs_by (tbl := tblDn) tblDn_ok 5 3 (af := a14) rfl ?_
  rw [a14, b14, run_eq]
  refine ⟨by simp, ?_⟩
  simp (implicitDefEqProofs := false)
  refine loop_inv (sg_mono gX_ok (tabS_ok tblDn_ok) _ _ noY noY_mono) (fun m tm H => ∃ i : Nat, m + i = 4 ∧ tm 0 = .pointer none ∧ tm 3 = .slice none 0 0 ∧ tm 6 = .int .i64 i ∧ H = AH.of []) (m := 4) ⟨0, by simp⟩ (by omega) ?_
  rintro m tm H ⟨i, hm, t0, t3, t6, rfl⟩
  by_cases hi : i < 4
  · have hi' : (i : Int) < 4 := by omega
    have hwr := inc_i64 hi (by omega)
    simp (implicitDefEqProofs := false) [forms46, a46, b46, t0, t3, t6, hi', hwr]
    exact ⟨m - 1, by omega, i + 1, by omega, by omega⟩
  · have hi' : ¬ (i : Int) < 4 := by omega
    simp (implicitDefEqProofs := false) [tblDn, pureStep, pn47, t0, t3, t6, hi']
    refine ends_plan [] [] ?_ ?_ ?_ <;> simp
def pn14 : PStep
  | [.pointer none] => some (True, .slice none 0 0)
  | _ => none
theorem sn14_ok : CStepOk Tryz.prog cfg 14 (pureStep pn14) := pure_ok fun args p v h hp => by
  unfold pn14 at h
  split at h
  · cases h; exact ⟨rfl, rfl, runs_nil14⟩
  · cases h

/-! New, Heaped -/
def heapedB (h : List Int) : Bool := decide (1 ≤ h.length) && decide (h.length ≤ 12) && h.all rightB
def tblHp : List (FuncId × CStep GD) := [(98, st98)]
theorem tblHp_ok : ∀ x ∈ tblHp, CStepOk Tryz.prog cfg x.1 x.2 := by simp [tblHp, st98_ok]
set_option maxHeartbeats 4000000 in
theorem runs36 (h : List Int) (tg : Nat) (hv : ∀ v ∈ h, 0 ≤ v ∧ v < 18446744073709551616) : Runs Tryz.prog cfg 36 [.slice (some ⟨0, 0, none⟩) h.length tg] (AH.of [some (.ro (us h))])
    fun r H' => r = .ret (.bool (heapedB h)) ∧ H' = AH.of [some (.ro (us h))] := by
  refine Runs.ends ?_
  obtain ⟨n, hn⟩ : ∃ n, h.length = n := ⟨_, rfl⟩
  rw [hn]
  refine runs_by (tbl := tblHp) tblHp_ok 13 0 (af := a36) rfl ?_
  rw [a36, b36, run_eq]
  refine ⟨by simp, ?_⟩
  by_cases h1 : n < 1
  · have hb : heapedB h = false := by simp [heapedB, hn]; omega
    have h1' : (n : Int) < 1 := by omega
    simp (implicitDefEqProofs := false) [h1', hb]
    refine ends_plan [] [0] ?_ ?_ ?_ <;> simp
  by_cases h2 : 12 < n
  · have hb : heapedB h = false := by simp [heapedB, hn]; omega
    have h1' : ¬ (n : Int) < 1 := by omega
    have h2' : (12 : Int) < n := by omega
    simp (implicitDefEqProofs := false) [h1', h2', hb]
    refine ends_plan [] [0] ?_ ?_ ?_ <;> simp
  have h1' : ¬ (n : Int) < 1 := by omega
  have h2' : ¬ (12 : Int) < n := by omega
  simp (implicitDefEqProofs := false) [h1', h2']
  refine loop_inv (sg_mono gX_ok (tabS_ok tblHp_ok) _ _ noY noY_mono) (fun m tm H => ∃ i : Nat, m + i = n ∧ (∀ j v, j < i → h[j]? = some v → rightB v = true) ∧ tm 0 = .slice (some ⟨0, 0, none⟩) n tg ∧ tm 3 = .int .i64 i ∧ H = AH.of [some (.ro (us h))]) (m := n) ⟨0, by simp⟩ (by omega) ?_
  rintro m tm H ⟨i, hm, hall, t0, t3, rfl⟩
  by_cases hi : i < n
  · obtain ⟨x, hx⟩ : ∃ x, h[i]? = some x := ⟨h[i]'(by omega), List.getElem?_eq_getElem (by omega)⟩
    have hi' : (i : Int) < n := by omega
    have hwr := inc_i64 hi (by omega)
    have ux := us_at hx
    have hxv := hv x (List.mem_of_getElem? hx)
    cases hr : rightB x with
    | true =>
      have hall2 : ∀ j v, j < i + 1 → h[j]? = some v → rightB v = true := fun j v hj hv => by
        by_cases e : j = i
        · subst e; rw [hx] at hv; cases hv; exact hr
        · exact hall j v (by omega) hv
      simp (implicitDefEqProofs := false) [tblHp, st98, t0, t3, hi, hi', hwr, ux, hxv, hr]
      exact ⟨m - 1, by omega, i + 1, by omega, hall2, by simp [t0]⟩
    | false =>
      have hb : heapedB h = false := by
        have : h.all rightB = false := by
          rw [List.all_eq_false]
          exact ⟨x, List.mem_of_getElem? hx, by simp [hr]⟩
        simp [heapedB, this]
      simp (implicitDefEqProofs := false) [tblHp, st98, t0, t3, hi, hi', hwr, ux, hxv, hr, hb]
      refine ends_plan [] [0] ?_ ?_ ?_ <;> simp
  · have hi' : ¬ (i : Int) < n := by omega
    have hb : heapedB h = true := by
      have : h.all rightB = true := by
        rw [List.all_eq_true]
        intro v hv
        obtain ⟨j, hj⟩ := List.getElem?_of_mem hv
        have := (List.getElem?_eq_some_iff.1 hj).1
        exact hall j v (by omega) hj
      simp [heapedB, this, hn]; omega
    simp (implicitDefEqProofs := false) [t0, t3, hi', hb]
    refine ends_plan [] [0] ?_ ?_ ?_ <;> simp
set_option maxHeartbeats 4000000 in
theorem runs_new_no (h : List Int) (tg : Nat) (hb : heapedB h = false) : Runs Tryz.prog cfg 35 [.slice (some ⟨0, 0, none⟩) h.length tg] (AH.of [some (.ro (us h))])
    fun r H' => r = .ret (.pointer none) ∧ H' = AH.of [some (.ro (us h))] := by
  refine Runs.ends ?_
  obtain ⟨n, hn⟩ : ∃ n, h.length = n := ⟨_, rfl⟩
  rw [hn]
  refine runs_by (tbl := tblN) tblN_ok 13 2 (af := a35) rfl ?_
  rw [a35, b35, run_eq]
  refine ⟨by simp, ?_⟩
  by_cases h1 : n < 1
  · have h1' : (n : Int) < 1 := by omega
    simp (implicitDefEqProofs := false) [h1']
    refine ends_plan [] [0] ?_ ?_ ?_ <;> simp
  by_cases h2 : 12 < n
  · have h1' : ¬ (n : Int) < 1 := by omega
    have h2' : (12 : Int) < n := by omega
    simp (implicitDefEqProofs := false) [h1', h2']
    refine ends_plan [] [0] ?_ ?_ ?_ <;> simp
  have h1' : ¬ (n : Int) < 1 := by omega
  have h2' : ¬ (12 : Int) < n := by omega
  simp (implicitDefEqProofs := false) [h1', h2']
  refine loop_inv (sg_mono gX_ok (tabS_ok tblN_ok) _ _ noY noY_mono) (fun m tm H => ∃ i : Nat, m + i = n ∧ (∀ j v, j < i → h[j]? = some v → rightB v = true) ∧ tm 0 = .slice (some ⟨0, 0, none⟩) n tg ∧ tm 13 = .slice (some ⟨0, 0, none⟩) n tg ∧ tm 14 = .int .i64 n ∧ tm 15 = .int .i64 i ∧ H = AH.of [some (.ro (us h))]) (m := n) ⟨0, by simp⟩ (by omega) ?_
  rintro m tm H ⟨i, hm, hall, t0, t13, t14, t15, rfl⟩
  by_cases hi : i < n
  · obtain ⟨x, hx⟩ : ∃ x, h[i]? = some x := ⟨h[i]'(by omega), List.getElem?_eq_getElem (by omega)⟩
    have hi' : (i : Int) < n := by omega
    have hwr := inc_i64 hi (by omega)
    have ux := us_at hx
    cases hr : rightB x with
    | true =>
      have hall2 : ∀ j v, j < i + 1 → h[j]? = some v → rightB v = true := fun j v hj hv => by
        by_cases e : j = i
        · subst e; rw [hx] at hv; cases hv; exact hr
        · exact hall j v (by omega) hv
      simp (implicitDefEqProofs := false) [tblN, st96, t0, t13, t14, t15, hi, hi', ux, hr, hwr]
      exact ⟨m - 1, by omega, i + 1, by omega, hall2, by simp [t0, t13, t14]⟩
    | false =>
      simp (implicitDefEqProofs := false) [tblN, st96, t0, t13, t14, t15, hi, hi', ux, hr, hwr]
      refine ends_plan [] [0] ?_ ?_ ?_ <;> simp
  · exfalso
    have : h.all rightB = true := by
      rw [List.all_eq_true]
      intro v hv
      obtain ⟨j, hj⟩ := List.getElem?_of_mem hv
      have := (List.getElem?_eq_some_iff.1 hj).1
      exact hall j v (by omega) hj
    have : heapedB h = true := by simp [heapedB, this, hn]; omega
    rw [hb] at this; cases this
theorem heaped_parts {h : List Int} (hb : heapedB h = true) : (1 ≤ h.length ∧ h.length ≤ 12) ∧ ∀ v ∈ h, rightB v = true := by
  unfold heapedB at hb
  simp only [Bool.and_eq_true, decide_eq_true_eq, List.all_eq_true] at hb
  exact ⟨hb.1, hb.2⟩
def stW35 : CStep GD := fun args H => match args with
  | [.slice (some ⟨k, 0, none⟩) n _] => match H.get k with
    | some (.ro cs) => (asUs cs).map fun l => (n = l.length, .ret (if heapedB l = true then .pointer (some ⟨H.next, 0, none⟩) else .pointer none), if heapedB l = true then H.add (.hi (.eng (newS l))) else H)
    | _ => none
  | _ => none
theorem stW35_ok : CStepOk Tryz.prog cfg 35 stW35 := by
  intro args H p r H' h hp
  unfold stW35 at h
  split at h
  case h_2 => cases h
  split at h
  case h_2 => cases h
  simp only [Option.map_eq_some_iff] at h
  obtain ⟨l, hl, h⟩ := h
  rename_i k n tg x cs hk
  cases h
  rw [asUs_inv hl] at hk
  rw [hp]
  by_cases hb : heapedB l = true
  · obtain ⟨h1, h2⟩ := heaped_parts hb
    rw [if_pos hb, if_pos hb]
    exact (runs_new_yes l tg h1 h2).atK (ro_same fun i cs hi => by rcases i with _ | _ | i <;> simp at hi ⊢; exact hi) [k] (by simp) (by simp) (by simp [hk]) (by simp) (by simp) (by simp [upd_get hk])
  · have hb' : heapedB l = false := by simpa using hb
    rw [if_neg hb, if_neg hb]
    exact (runs_new_no l tg hb').atK (ro_same fun i cs hi => by rcases i with _ | i <;> simp at hi ⊢; exact hi) [k] (by simp) (by simp) (by simp [hk]) (by simp) (by simp) (by simp [upd_get hk])
def st36 : CStep GD := fun args H => match args with
  | [.slice (some ⟨k, 0, none⟩) n _] => match H.get k with
    | some (.ro cs) => (asUs cs).map fun l => (n = l.length ∧ ∀ v ∈ l, 0 ≤ v ∧ v < 18446744073709551616, .ret (.bool (heapedB l)), H)
    | _ => none
  | _ => none
theorem st36_ok : CStepOk Tryz.prog cfg 36 st36 := by
  intro args H p r H' h hp
  unfold st36 at h
  split at h
  case h_2 => cases h
  split at h
  case h_2 => cases h
  simp only [Option.map_eq_some_iff] at h
  obtain ⟨l, hl, h⟩ := h
  rename_i k n tg x cs hk
  cases h
  rw [asUs_inv hl] at hk
  rw [hp.1]
  exact (runs36 l tg hp.2).atK (ro_same fun i cs hi => by rcases i with _ | i <;> simp at hi ⊢; exact hi) [k] (by simp) (by simp) (by simp [hk]) (by simp) (by simp) (by simp [upd_get hk])

/-! The law -/
def tblNn : List (FuncId × CStep GD) := [(24, pureStep pn24), (25, pureStep pn25), (26, pureStep pn26), (27, pureStep pn27), (28, pureStep pn28), (29, pureStep pn29), (16, pureStep pn16), (11, pureStep pn11), (13, pureStep pn13), (30, pureStep pn30), (31, pureStep pn31), (32, pureStep pn32), (33, pureStep pn33), (34, pureStep pn34), (17, pureStep pn17), (21, pureStep pn21), (14, pureStep pn14), (9, st9), (35, stW35), (36, st36)]
theorem tblNn_ok : ∀ x ∈ tblNn, CStepOk Tryz.prog cfg x.1 x.2 := by simp [tblNn, sn24_ok, sn25_ok, sn26_ok, sn27_ok, sn28_ok, sn29_ok, sn16_ok, sn11_ok, sn13_ok, sn30_ok, sn31_ok, sn32_ok, sn33_ok, sn34_ok, sn17_ok, sn21_ok, sn14_ok, st9_ok, stW35_ok, st36_ok]
set_option maxRecDepth 20000 in
set_option maxHeartbeats 16000000 in
theorem runs7 (d : Dd) (h : List Int) (tg : Nat) (n : Int) (hv : ∀ v ∈ h, 0 ≤ v ∧ v < 18446744073709551616) : Runs Tryz.prog cfg 7 [.agg d.cells.toArray, .slice (some ⟨0, 0, none⟩) h.length tg, .int .i64 n] (AH.of [some (.ro (us h))])
    fun r H' => r = .ret (.bool true) ∧ H' = AH.of [some (.ro (us h))] := by
  refine Runs.ends ?_
  have hd : d.cells.toArray = #[.int .i64 d.k, .int .i64 d.t, .int .u8 d.a.k, .int .i64 d.a.t, .int .u64 d.a.v] := rfl
  rw [hd]
  refine runs_by (tbl := tblNn) tblNn_ok 0 0 (af := a7) rfl ?_
  rw [a7, b7, run_eq]
  refine ⟨by simp, ?_⟩
  cases hb : heapedB h with
  | true =>
    simp (implicitDefEqProofs := false) [tblNn, pureStep, pn24, pn25, pn26, pn27, pn28, pn29, pn16, pn11, pn13, pn30, pn31, pn32, pn33, pn34, pn17, pn21, pn14, st9, stW35, st36, hb, aggOf2, aeqF, partOf, eqInt]
    exact ⟨hv, by refine ends_plan [] [0] ?_ ?_ ?_ <;> simp⟩
  | false =>
    simp (implicitDefEqProofs := false) [tblNn, pureStep, pn24, pn25, pn26, pn27, pn28, pn29, pn16, pn11, pn13, pn30, pn31, pn32, pn33, pn34, pn17, pn21, pn14, st9, stW35, st36, hb, aggOf2, aeqF, partOf, eqInt]
    exact ⟨hv, by refine ends_plan [] [0] ?_ ?_ ?_ <;> simp⟩
end YtnemoimbeefngaaGreat
end Go.Proofs
/-
  What the arguments of NorecNone read as.
-/
set_option linter.unusedSimpArgs false
set_option linter.unusedVariables false
set_option linter.unnecessarySimpa false
set_option linter.unusedSectionVars false
namespace Go.Proofs
namespace YtnemoimbeefngaaGreat
open Go.Abs Go.ChangeShapes Go.WideShapes Go.ChangeAt Go.RowKit
set_option linter.unusedSimpArgs false
set_option linter.unusedVariables false
set_option maxRecDepth 100000

theorem cells53 : Tryz.prog.cellsOf 53 = 5 := by kernel_rfl
theorem cells51 : Tryz.prog.cellsOf 51 = 3 := by kernel_rfl
theorem cells3 : Tryz.prog.cellsOf 3 = 1 := by kernel_rfl
def ltypes : List TypeId := [31, 53, 51, 48, 49, 3, 38, 5]
theorem cells49 : Tryz.prog.cellsOf 49 = 1 := by kernel_rfl
theorem lclosed : closedB Tryz.prog ltypes = true := by kernel_rfl
section
variable {H : Type} {enc : TypeId × Value → H} {w : World}
theorem ask_cellsA {fuel : Nat} {cs : List Value} {y : DataW H × List MemPlace} (h : DataW.trod enc Tryz.prog w 0 (fun _ => true) true fuel 51 cs = some y) : ∃ e : Ak, cs = [.int .u8 e.k, .int .i64 e.t, .int .u64 e.v] ∧ (0 ≤ e.k ∧ e.k < 256) ∧ 0 ≤ e.v ∧ e.v < 18446744073709551616 := by
  obtain ⟨h1, h2⟩ := struct_cells Tryz.underlying51 (by kernel_rfl) h cells51
  obtain ⟨v0, n0, y0, g0, t0⟩ := h2 0 _ rfl
  obtain ⟨v1, n1, y1, g1, t1⟩ := h2 1 _ rfl
  obtain ⟨v2, n2, y2, g2, t2⟩ := h2 2 _ rfl
  obtain ⟨a, ha, _, hwa⟩ := DataW.trod_int Tryz.underlying48 t0
  obtain ⟨b, hb, _, _⟩ := DataW.trod_int Tryz.underlying3 t1
  obtain ⟨c, hc, _, hw⟩ := DataW.trod_int Tryz.underlying49 t2
  have h3 : cs.length = 3 := h1
  match cs, h3 with
  | [c0, c1, c2], _ =>
    simp only [List.getElem?_cons_zero, List.getElem?_cons_succ, Option.some.injEq] at g0 g1 g2
    cases g0; cases g1; cases g2
    cases ha; cases hb; cases hc
    exact ⟨⟨a, b, c⟩, rfl, wf_u8 hwa, wf_u64 hw⟩
theorem dd_cells {fuel : Nat} {cs : List Value} {y : DataW H × List MemPlace} (h : DataW.trod enc Tryz.prog w 0 (fun _ => true) true fuel 53 cs = some y) : ∃ e : Dd, cs = e.cells ∧ e.Ok := by
  obtain ⟨xs, n, _, _, h1, h2, h3⟩ := DataW.trod_struct Tryz.underlying53 h
  have hl : cs.length = 5 := by rw [h1, cells53]
  obtain ⟨c0, c1, c2, c3, c4, rfl⟩ : ∃ c0 c1 c2 c3 c4, cs = [c0, c1, c2, c3, c4] := by
    match cs, hl with
    | [c0, c1, c2, c3, c4], _ => exact ⟨c0, c1, c2, c3, c4, rfl⟩
  have f0 := h3 0 _ rfl
  have f1 := h3 1 _ rfl
  have f2 := h3 2 _ rfl
  have hx : xs.length = 3 := h2
  have e0 : xs[0]? = some xs[0] := List.getElem?_eq_getElem (by omega)
  have e1 : xs[1]? = some xs[1] := List.getElem?_eq_getElem (by omega)
  have e2 : xs[2]? = some xs[2] := List.getElem?_eq_getElem (by omega)
  change DataW.trod enc Tryz.prog w 0 (fun _ => true) true n 3 (([c0, c1, c2, c3, c4].drop 0).take (Tryz.prog.cellsOf 3)) = xs[0]? at f0
  change DataW.trod enc Tryz.prog w 0 (fun _ => true) true n 3 (([c0, c1, c2, c3, c4].drop 1).take (Tryz.prog.cellsOf 3)) = xs[1]? at f1
  change DataW.trod enc Tryz.prog w 0 (fun _ => true) true n 51 (([c0, c1, c2, c3, c4].drop 2).take (Tryz.prog.cellsOf 51)) = xs[2]? at f2
  rw [cells3, e0] at f0
  rw [cells3, e1] at f1
  rw [cells51, e2] at f2
  obtain ⟨a, ha, _, _⟩ := DataW.trod_int Tryz.underlying3 f0
  obtain ⟨b, hb, _, _⟩ := DataW.trod_int Tryz.underlying3 f1
  obtain ⟨x, hx, hxo⟩ := ask_cellsA f2
  have ha' : [c0] = [.int .i64 a] := ha
  have hb' : [c1] = [.int .i64 b] := hb
  have hx' : [c2, c3, c4] = [.int .u8 x.k, .int .i64 x.t, .int .u64 x.v] := hx
  cases ha'; cases hb'; cases hx'
  exact ⟨⟨a, b, x⟩, rfl, hxo⟩
theorem open_ndeed {r : Reach} {b0 : Nat} {v : Value} {d : DataW H} {ps : List MemPlace} (hok : Value.okWide Tryz.prog w r b0 53 v) (hd : DataW.Trod enc Tryz.prog w 0 (fun _ => true) true 53 v d ps) : ∃ e : Dd, v = .agg e.cells.toArray ∧ e.Ok := by
  obtain ⟨cs, rfl, _⟩ := okWide_struct Tryz.underlying53 hok
  obtain ⟨fuel, hf⟩ := hd
  obtain ⟨e, h1, h2⟩ := dd_cells hf
  refine ⟨e, ?_, h2⟩
  have : cs.toList = e.cells := h1
  show Value.agg cs = .agg e.cells.toArray
  rw [← this]
theorem open_int {r : Reach} {b0 : Nat} {v : Value} {d : DataW H} {ps : List MemPlace} (hok : Value.okWide Tryz.prog w r b0 3 v) (hd : DataW.Trod enc Tryz.prog w 0 (fun _ => true) true 3 v d ps) : ∃ n : Int, v = .int .i64 n ∧ (-9223372036854775808 ≤ n ∧ n ≤ 9223372036854775807) := by
  obtain ⟨n, h1, h2⟩ := open_num Tryz.underlying3 hok hd
  exact ⟨n, h1, wf_i64 h2⟩
theorem word_cell {fuel : Nat} {cs : List Value} {y : DataW H × List MemPlace} (h : DataW.trod enc Tryz.prog w 0 (fun _ => true) true fuel 49 cs = some y) : ∃ v : Int, cs = [.int .u64 v] ∧ (0 ≤ v ∧ v < 18446744073709551616) := by
  obtain ⟨n, rfl, _, hw⟩ := DataW.trod_int Tryz.underlying49 h
  exact ⟨n, rfl, wf_u64 hw⟩
theorem open_words {r : Reach} {b0 : Nat} {v : Value} {d : DataW H} {ps : List MemPlace} (hok : Value.okWide Tryz.prog w r b0 31 v) (hd : DataW.Trod enc Tryz.prog w 0 (fun _ => true) true 31 v d ps) :
    ∃ l : List Int, (∀ v ∈ l, 0 ≤ v ∧ v < 18446744073709551616) ∧ l.length ≤ maxLen ∧ ArgRow w v l.length (us l) := by
  obtain ⟨l, h1, h2, h3⟩ := open_rows (ea := fun v => [Value.int .u64 v]) (Ok := fun v => 0 ≤ v ∧ v < 18446744073709551616) Tryz.underlying31 (by rw [cells49]; omega) (fun x => cells49.symm) (fun _ _ _ h => word_cell h) hok hd
  rw [us_flat] at h3
  exact ⟨l, h1, h2, h3⟩
end
end YtnemoimbeefngaaGreat
end Go.Proofs
