/-
  TL2: New, deeds, live, alone. (Printed by tools/genue.py.)
-/
import Derived.Test.YtapbabkndhaemaaGreatPR2
import Derived.Test.YtapbabkndhaemaaGreatPR1
set_option linter.unusedSimpArgs false
set_option linter.unusedVariables false
set_option linter.unnecessarySimpa false
set_option linter.unusedSectionVars false
namespace Go.Proofs
namespace YtapbabkndhaemaaGreat
open Go.Abs
def newTS (h : List Int) (m : Nat) : TS := ⟨newL m, 0, h, fun _ => none, [], []⟩
def tblNt : List (FuncId × CStep GD) := [(45, st45), (43, st43), (41, st41)]
theorem tblNt_ok : ∀ x ∈ tblNt, CStepOk Tryz.prog cfg x.1 x.2 := by simp [tblNt, st45_ok, st43_ok, st41_ok]
theorem fates_nil : fates [] = [] := rfl
set_option maxHeartbeats 4000000 in
theorem truns_new_yes (h : List Int) (tg m : Nat) (hm : 1 ≤ m ∧ m ≤ 8) (h1 : 1 ≤ h.length ∧ h.length ≤ 12) (hr : ∀ v ∈ h, rightB v = true) : Runs Tryz.prog cfg 10 [.slice (some ⟨0, 0, none⟩) h.length tg, .int .i64 m] (AH.of [some (.ro (us h))])
    fun r H' => r = .ret (.pointer (some ⟨1, 0, none⟩)) ∧ H' = AH.of [some (.ro (us h)), some (.hi (.teng (newTS h m)))] := by
  refine Runs.ends ?_
  obtain ⟨n, hn⟩ : ∃ n, h.length = n := ⟨_, rfl⟩
  have z1 : ¬ (n : Int) < 1 := by omega
  have z2 : ¬ (12 : Int) < n := by omega
  have hl : n ≤ 1000000 := by omega
  have hm1 : (1 : Int) ≤ m := by omega
  have hm2 : (m : Int) ≤ 8 := by omega
  rw [hn]
  refine runs_by (tbl := tblNt) tblNt_ok 13 4 (af := a10) rfl ?_
  rw [a10, b10, run_eq]
  refine ⟨by simp, ?_⟩
  simp (implicitDefEqProofs := false) [tblNt, st41, forms44, a44, b44, forms105, a105, b105, z1, z2, hm1, hm2]
  refine loop_inv (sg_mono gX_ok (tabS_ok tblNt_ok) _ _ noY noY_mono) (fun mm tm H => ∃ i : Nat, mm + i = n ∧ tm 0 = .slice (some ⟨0, 0, none⟩) n tg ∧ tm 1 = .func (.func 42) #[] #[] ∧ tm 7 = .int .i64 n ∧ tm 8 = .int .i64 i ∧ H = AH.of [some (.ro (us h)), some (.hi (.tab (newL m) 0))]) (m := n) ⟨0, by simp⟩ (by omega) ?_
  rintro mm tm H ⟨i, hmm, t0, t1, t7, t8, rfl⟩
  by_cases hi : i < n
  · obtain ⟨x, hx⟩ : ∃ x, h[i]? = some x := ⟨h[i]'(by omega), List.getElem?_eq_getElem (by omega)⟩
    have hi' : (i : Int) < n := by omega
    have hwr := inc_i64 hi (by omega)
    have ux := us_at hx
    have hrx := hr x (List.mem_of_getElem? hx)
    simp (implicitDefEqProofs := false) [tblNt, st43, forms42, a42, b42, t0, t1, t7, t8, hi, hi', ux, hrx, hwr]
    exact ⟨mm - 1, by omega, i + 1, by omega, by omega⟩
  · have hie : i = n := by omega
    subst hie
    simp (implicitDefEqProofs := false) [tblNt, st45, t0, t1, t7, t8, hn, hl]
    refine ends_plan [.nil 121, .nil 100, .nil 98, .nil 98, .nil 98, .nil 98, .pack (GD.teng (newTS h m)) 3 [1, 2, 4, 5, 6, 7, 8, 9]] [0, 3] ?_ ?_ ?_ <;> simp [frag_teng, newTS, tslotO_none, teptr_none, evs_nil, fates_nil, us_nil, hn]
def st10 : CStep GD := fun args H => match args with
  | [.slice (some ⟨k, 0, none⟩) n _, .int .i64 m] => match H.get k with
    | some (.arr _ cs) => (asUs cs).map fun l => (n = l.length ∧ k < H.next ∧ 1 ≤ l.length ∧ l.length ≤ 12 ∧ (∀ v ∈ l, rightB v = true) ∧ 1 ≤ m ∧ m ≤ 8, .ret (.pointer (some ⟨H.next, 0, none⟩)), H.add (.hi (.teng (newTS l m.toNat))))
    | _ => none
  | _ => none
theorem st10_ok : CStepOk Tryz.prog cfg 10 st10 := by
  intro args H p r H' h hp
  unfold st10 at h
  split at h
  case h_2 => cases h
  split at h
  case h_2 => cases h
  simp only [Option.map_eq_some_iff] at h
  obtain ⟨l, hl, h⟩ := h
  rename_i k n tg m x e cs hk
  cases h
  obtain ⟨h1, hkn, h2, h3, h4, h5, h6⟩ := hp
  obtain ⟨m, rfl⟩ := Int.eq_ofNat_of_zero_le (show 0 ≤ m by omega)
  rw [Int.toNat_natCast]
  rw [asUs_inv hl] at hk
  rw [h1]
  refine Runs.borrow k hk ?_
  have hk2 : (H.upd k (.ro (us l))).get k = some (.ro (us l)) := by rw [AH.get_upd, if_pos rfl]
  have hr := (truns_new_yes l tg m ⟨by omega, by omega⟩ ⟨h2, h3⟩ h4).atK (H := H.upd k (.ro (us l))) (args := [.slice (some ⟨k, 0, none⟩) l.length tg, .int .i64 m]) (r' := .ret (.pointer (some ⟨H.next, 0, none⟩))) (H' := (H.upd k (.ro (us l))).add (.hi (.teng (newTS l m)))) (ro_same fun i cs hi => by rcases i with _ | _ | i <;> simp at hi ⊢; exact hi) [k] (by simp) (by simp) (by simp [hk2]) (by simp) (by simp) (by simp [upd_get hk2])
  refine hr.mono ?_
  rintro r H' ⟨e1, rfl⟩
  refine ⟨by rw [AH.get_add, AH.next_upd, if_neg (by omega), AH.get_upd, if_pos rfl], fun j cs2 hj hcs hne => ⟨cs2, ?_, hne⟩, e1, ?_⟩
  · rw [AH.get_add, AH.next_upd] at hcs
    split at hcs
    · cases hcs
    · rw [AH.get_upd, if_neg hj] at hcs; exact hcs
  · refine AH.ext' (by simp) fun j => ?_
    rw [AH.get_upd, AH.get_add, AH.get_add, AH.next_upd, AH.get_upd]
    by_cases h : j = k
    · subst h; rw [if_pos rfl, if_neg (by omega), hk]
    · rw [if_neg h, if_neg h]
theorem newTS_ok {h : List Int} {m : Nat} (hm : 1 ≤ m ∧ m ≤ 8) (h1 : 1 ≤ h.length ∧ h.length ≤ 12) (h2 : ∀ v ∈ h, 0 ≤ v ∧ v < 18446744073709551616) : (newTS h m).Ok where
  hp := h1
  hv := h2
  tab := GoodT.new hm.1 hm.2
  ft := by simp [newTS]
  ts := fun th a h => by cases h
  lk := fun th a h => by cases h
  no := fun th _ => by
    rw [held_nil (by omega)]
    intro i hi
    unfold ownN newTS newL at hi
    simp only at hi
    split at hi
    · rename_i w hw
      have := List.mem_of_getElem? hw
      rw [List.mem_replicate] at this
      rw [this.2] at hi
      unfold wOwn at hi
      simp at hi <;> omega
    · omega
  th4 := fun _ _ => rfl
theorem tfirstV_ok : (newTS firstV 3).Ok := newTS_ok ⟨by decide, by decide⟩ ⟨by decide, by decide⟩ (by decide)
theorem tok_beginX {s : TS} (hs : s.Ok) (t : Int) : (tbeginX s t).Ok := by
  unfold tbeginX
  split
  · exact hs
  · rename_i th ht
    split
    · exact hs.begin (uthOf_some ht).1 (by assumption)
    · exact hs
theorem tok_askX {s : TS} (hs : s.Ok) (t : Int) {x : Ak} (hk : 0 ≤ x.k) (hv : 0 ≤ x.v ∧ x.v < 18446744073709551616) : (taskX s t x).Ok := by
  unfold taskX
  split
  · exact hs
  · rename_i th ht
    split
    · exact hs.ask (uthOf_some ht).1 hk hv (by assumption)
    · exact hs
theorem tok_stepX {s : TS} (hs : s.Ok) (t : Int) : (tstepX s t).Ok := by
  unfold tstepX
  split
  · exact hs
  · rename_i th ht
    exact hs.step (uthOf_some ht).1
theorem tev_beginX (s : TS) (t : Int) : (tbeginX s t).ev.length ≤ s.ev.length + 1 := by
  unfold tbeginX
  split
  · omega
  · split
    · simp [tbeginS]
    · omega
theorem tev_askX (s : TS) (t : Int) (x : Ak) : (taskX s t x).ev = s.ev := by
  unfold taskX
  split
  · rfl
  · split
    · unfold taskS; split <;> rfl
    · rfl
theorem tev_step (s : TS) (th : Nat) : (tstepS s th).2.ev.length ≤ s.ev.length + 2 := by
  unfold tstepS
  split
  · simp only; omega
  · rename_i a ha
    split
    · simp only; omega
    split
    · unfold treadS
      repeat' split
      all_goals simp [tendS, tputA, tgotS]
    split
    · unfold tgoOnS tlockS tcheckS
      repeat' split
      all_goals simp [tendS, tputA, tcommitS]
    split
    · simp [tendS]
    · unfold tturnS
      repeat' split
      all_goals simp [tendS]
theorem tev_stepX (s : TS) (t : Int) : (tstepX s t).ev.length ≤ s.ev.length + 2 := by
  unfold tstepX
  split
  · omega
  · exact tev_step s _
theorem truns_first (H : AH GD) : Runs Tryz.prog cfg 11 [] H fun r H' => r = .ret (.slice (some ⟨H.next, 0, none⟩) 5 1) ∧ H' = H.add (.arr 30 (us firstV)) := by
  have h0 : Runs Tryz.prog cfg 11 [] (AH.of []) fun r H' => r = .ret (.slice (some ⟨0, 0, none⟩) 5 1) ∧ H' = AH.of [some (.arr 30 (us firstV))] := by
    refine Runs.ends ?_
    refine runs_by (tbl := []) (by simp) 0 0 (af := a11) rfl ?_
    rw [a11, b11, run_eq]
    refine ⟨by simp, ?_⟩
    simp (implicitDefEqProofs := false)
    refine ends_plan [] [0] ?_ ?_ ?_ <;> simp [us, firstV]
  exact h0.atK (ro_none rfl) [] (by simp) (by simp) trivial (by simp) (by simp) (by simp)
def st11 : CStep GD := fun args H => match args with
  | [] => some (True, .ret (.slice (some ⟨H.next, 0, none⟩) 5 1), H.add (.arr 30 (us firstV)))
  | _ => none
theorem st11_ok : CStepOk Tryz.prog cfg 11 st11 := by
  intro args H p r H' h hp
  unfold st11 at h
  split at h
  case h_2 => cases h
  cases h
  exact truns_first H
def ttblL : List (FuncId × CStep GD) := [(11, st11), (10, st10), (13, dataSt d13), (14, dataSt d14), (15, dataSt d15), (29, st29)]
theorem ttblL_ok : ∀ x ∈ ttblL, CStepOk Tryz.prog cfg x.1 x.2 := by simp [ttblL, st11_ok, st10_ok, st13_ok, st14_ok, st15_ok, st29_ok]
def tlv1 : TS := tbeginX (newTS firstV 3) 1
def tlv2 : TS := taskX tlv1 1 ⟨1, 1, 0⟩
def tlv3 : TS := tstepX tlv2 1
def tlv4 : TS := tstepX tlv3 1
def tlv5 : TS := tstepX tlv4 1
def tlv6 : TS := taskX tlv5 1 ⟨6, 0, 0⟩
def tlv7 : TS := tstepX tlv6 1
theorem tlv1_ok : tlv1.Ok ∧ tlv1.ev.length ≤ 100000 := ⟨tok_beginX tfirstV_ok 1, by decide +kernel⟩
theorem tlv2_ok : tlv2.Ok ∧ tlv2.ev.length ≤ 100000 := ⟨tok_askX tlv1_ok.1 1 (by decide) (by decide), by decide +kernel⟩
theorem tlv3_ok : tlv3.Ok ∧ tlv3.ev.length ≤ 100000 := ⟨tok_stepX tlv2_ok.1 1, by decide +kernel⟩
theorem tlv4_ok : tlv4.Ok ∧ tlv4.ev.length ≤ 100000 := ⟨tok_stepX tlv3_ok.1 1, by decide +kernel⟩
theorem tlv5_ok : tlv5.Ok ∧ tlv5.ev.length ≤ 100000 := ⟨tok_stepX tlv4_ok.1 1, by decide +kernel⟩
theorem tlv6_ok : tlv6.Ok ∧ tlv6.ev.length ≤ 100000 := ⟨tok_askX tlv5_ok.1 1 (by decide) (by decide), by decide +kernel⟩
theorem tlv_b : tbeginR (newTS firstV 3) 1 = .tuple #[.int .i64 0, .int .i64 0] := rfl
theorem tlv_a1 : taskR tlv1 1 ⟨1, 1, 0⟩ = 0 := by decide +kernel
theorem tlv_a2 : taskR tlv5 1 ⟨6, 0, 0⟩ = 0 := by decide +kernel
theorem tlv_s2 : tstepR tlv4 1 = rpDone 4607182418800017408 := by decide +kernel
theorem tlv_s3 : tstepR tlv6 1 = rpEnd 0 := by decide +kernel
theorem tlv_e : tlv7.ev.length = 4 := by decide +kernel
theorem tlv_e' : tlv7.ev.length ≤ 1000000 := by rw [tlv_e]; decide
set_option maxRecDepth 10000 in
set_option maxHeartbeats 4000000 in
theorem runs12 : Runs Tryz.prog cfg 12 [] (AH.of []) fun r H' => r = .ret (.bool true) ∧ H' = AH.of [] := by
  refine Runs.ends ?_
  have h1 := tfirstV_ok
  have h1e : (newTS firstV 3).ev.length ≤ 100000 := by decide
  have hr := firstV_right
  have e1 : tbeginX (newTS firstV 3) 1 = tlv1 := rfl
  have e2 : taskX tlv1 1 ⟨1, 1, 0⟩ = tlv2 := rfl
  have e3 : tstepX tlv2 1 = tlv3 := rfl
  have e4 : tstepX tlv3 1 = tlv4 := rfl
  have e5 : tstepX tlv4 1 = tlv5 := rfl
  have e6 : taskX tlv5 1 ⟨6, 0, 0⟩ = tlv6 := rfl
  have e7 : tstepX tlv6 1 = tlv7 := rfl
  refine runs_by (tbl := ttblL) ttblL_ok 0 0 (af := a12) rfl ?_
  rw [a12, b12, run_eq]
  refine ⟨by simp, ?_⟩
  simp (implicitDefEqProofs := false) [ttblL, st11, st10, dataSt, d13, d14, d15, st29, firstV_len, h1, h1e, hr, e1, e2, e3, e4, e5, e6, e7, tlv1_ok, tlv2_ok, tlv3_ok, tlv4_ok, tlv5_ok, tlv6_ok, tlv_e', tlv_b, tlv_a1, tlv_a2, tlv_s2, tlv_s3, tlv_e, Rp.v, Rp.cells, rpDone, rpEnd]
  refine ⟨hr, ends_plan [] [] ?_ ?_ ?_⟩ <;> simp
def st12 : CStep GD := fun args H => match args with
  | [] => some (True, .ret (.bool true), H)
  | _ => none
theorem st12_ok : CStepOk Tryz.prog cfg 12 st12 := by
  intro args H p r H' h hp
  unfold st12 at h
  split at h
  case h_2 => cases h
  cases h
  exact runs12.atK (ro_none rfl) [] (by simp) (by simp) trivial (by simp) (by simp) (by simp)
end YtapbabkndhaemaaGreat
end Go.Proofs
/-
  TL2: one thread alone.
-/
namespace Go.Proofs
namespace YtapbabkndhaemaaGreat
open Go.Abs
structure TSole (s : TS) (th : Nat) : Prop where
  ts : ∀ i, i ≠ th → s.ts i = none
  ver : ∀ a, s.ts th = some a → a.ph ≤ 2 → ∀ i : Nat, verT s.ws i ≤ a.rv
  sw : ∀ a, s.ts th = some a → a.ra.k = 1 → a.ss ≠ 0 → a.sw = wordTV s.ws (ofT s.ws a.ra.t)
theorem tsole_set {s s' : TS} {th : Nat} (h : TSole s th) {x : Option TA} (hts : s'.ts = setU s.ts th x) (hx : ∀ b, x = some b → (b.ph ≤ 2 → ∀ i : Nat, verT s'.ws i ≤ b.rv) ∧ (b.ra.k = 1 → b.ss ≠ 0 → b.sw = wordTV s'.ws (ofT s'.ws b.ra.t))) : TSole s' th where
  ts := fun i hi => by rw [hts, setU_other _ _ hi]; exact h.ts i hi
  ver := fun a ha => by rw [hts, setU_self] at ha; exact (hx a ha).1
  sw := fun a ha => by rw [hts, setU_self] at ha; exact (hx a ha).2
theorem tsole_own {s : TS} (hs : s.Ok) {th : Nat} (h : TSole s th) (i : Nat) : ownN s.ws i = th ∨ ownN s.ws i = -1 := by
  have hr := ownN_range hs.tab i
  by_cases h0 : 0 ≤ ownN s.ws i
  · left
    obtain ⟨j, hj⟩ : ∃ j : Nat, ownN s.ws i = j := ⟨(ownN s.ws i).toNat, by omega⟩
    by_cases he : j = th
    · rw [hj, he]
    · exfalso
      have := (held_nil (o := (j : Int)) (by omega)).1 (hs.no j (h.ts j he)) i
      exact this hj
  · right; omega
theorem tsole_other {s : TS} (hs : s.Ok) {th : Nat} (h : TSole s th) {x : Int} (hx : 0 ≤ x ∧ x < s.ws.length) : otherB s.ws th x = false := by
  obtain ⟨i, rfl⟩ := Int.eq_ofNat_of_zero_le hx.1
  obtain ⟨h1, h2⟩ := ownTB_own (ws := s.ws) (i := i) (by omega)
  unfold otherB
  rcases tsole_own hs h i with ho | ho
  · have := h2 (by omega)
    rw [this, ho]; simp
  · rw [h1, ho]; simp
theorem tsole_end {s : TS} {th : Nat} (h : TSole s th) (a : TA) (w : Int) : TSole (tendS s th a w) th := tsole_set h (s' := tendS s th a w) rfl fun b hb => by cases hb
theorem tsole_begin {s : TS} (hs : s.Ok) {th : Nat} (h : TSole s th) : TSole (if tbeginC s th = 0 then tbeginS s th else s) th := by
  split
  · refine tsole_set h (s' := tbeginS s th) rfl fun b hb => ?_
    cases hb
    exact ⟨fun _ i => (verT_out (s := i) hs.tab).2, fun h => by simp [newTA] at h⟩
  · exact h
theorem tsole_ask {s : TS} {th : Nat} (h : TSole s th) (hs : s.Ok) (x : Ak) : TSole (if taskC s th x = 0 then taskS s th x else s) th := by
  split
  · rename_i hc
    unfold taskS
    unfold taskC at hc
    split
    · exact h
    · rename_i a ha
      rw [ha] at hc
      simp only at hc
      split at hc
      · cases hc
      · rename_i hk
        have hp0 := ph_zero (hs.ts th a ha) (by have : a.ra.k = 0 := by simpa using hk
                                                omega)
        refine tsole_set h (s' := { s with ts := setU s.ts th (some { a with ra := x, ph := 0, nx := 0, sw := 0, sv := 0, ss := 0 }) }) rfl fun b hb => ?_
        cases hb
        exact ⟨fun _ => h.ver a ha (by omega), fun _ h => by simp at h⟩
  · exact h
theorem verT_of {ws : List Int} {c t : Int} (h : GoodT ws c) (ht : 0 ≤ t ∧ t < 12) {v : Int} (hv : ∀ i : Nat, verT ws i ≤ v) : verT ws (ofT ws t) ≤ v := by
  have h0 := (ofT_lt h ht).1
  have := hv (ofT ws t).toNat
  rwa [show (((ofT ws t).toNat : Nat) : Int) = ofT ws t by omega] at this
theorem word_own {ws : List Int} {c t : Int} (h : GoodT ws c) (ht : 0 ≤ t ∧ t < 12) : wOwn (wordTV ws (ofT ws t)) = ownN ws (ofT ws t).toNat ∧ wVer (wordTV ws (ofT ws t)) = verT ws (ofT ws t) := by
  obtain ⟨h0, h1⟩ := ofT_lt h ht
  obtain ⟨w, hw⟩ : ∃ w, ws[(ofT ws t).toNat]? = some w := ⟨ws[(ofT ws t).toNat]'(by omega), List.getElem?_eq_getElem (by omega)⟩
  have hi : inR ws (ofT ws t) := ⟨h0, h1⟩
  have e : (((ofT ws t).toNat : Nat) : Int) = ofT ws t := by omega
  have hg := getW_at hw
  rw [e] at hg
  unfold wordTV
  rw [if_pos hi, hg]
  refine ⟨by unfold ownN; rw [hw], ?_⟩
  have := verT_eq ws (ofT ws t).toNat
  rw [e, hw] at this
  exact this.symm
set_option maxHeartbeats 1000000 in
theorem tsole_step {s : TS} (hs : s.Ok) {th : Nat} (hth : th < 4) (h : TSole s th) : (tstepS s th).1.busy = false ∧ (tstepS s th).1.why ≠ 1 ∧ TSole (tstepS s th).2 th := by
  have hg := hs.tab
  unfold tstepS
  cases ha : s.ts th with
  | none => exact ⟨rfl, by simp [rpErr], h⟩
  | some a =>
    simp only
    have hok := hs.ts th a ha
    have hver := h.ver a ha
    have hl12 := hs.hp.2
    split
    · exact ⟨rfl, by simp [rpErr], h⟩
    split
    · rename_i k1
      have hp0 := ph_zero hok (by omega)
      have hra := hok.ask.2.2.1 (.inl k1)
      have ht12 : 0 ≤ a.ra.t ∧ a.ra.t < 12 := by omega
      have hof := ofT_lt hg ht12
      unfold treadS
      split
      · refine ⟨rfl, by simp [rpDone], tsole_set h (s' := tgotS s th a _) rfl fun b hb => ?_⟩
        cases hb; exact ⟨fun _ => hver (by omega), fun h => by simp at h⟩
      · split
        · rename_i hss
          have hO := tsole_other hs h hof
          rw [hO]
          simp only [Bool.false_eq_true, if_false]
          have hV : ¬ a.rv < verT s.ws (ofT s.ws a.ra.t) := by have := verT_of hg ht12 (hver (by omega)); omega
          rw [if_neg hV]
          refine ⟨rfl, by simp [rpNone], tsole_set h (s' := tputA s th _) rfl fun b hb => ?_⟩
          cases hb; exact ⟨fun _ => hver (by omega), fun _ _ => rfl⟩
        · rename_i hss
          split
          · refine ⟨rfl, by simp [rpNone], tsole_set h (s' := tputA s th _) rfl fun b hb => ?_⟩
            cases hb; exact ⟨fun _ => hver (by omega), fun _ _ => h.sw a ha k1 hss⟩
          · rw [if_pos (h.sw a ha k1 hss).symm]
            split
            · refine ⟨rfl, by simp [rpDone], tsole_set h (s' := tgotS s th _ _) rfl fun b hb => ?_⟩
              cases hb; exact ⟨fun _ => hver (by omega), fun h => by simp at h⟩
            · exact ⟨rfl, by simp [rpEnd], tsole_end h a 2⟩
    split
    · rename_i k1 k6
      unfold tgoOnS
      split
      · rename_i h0
        split
        · exact ⟨rfl, by simp [rpEnd], tsole_set h (s' := tcommitS { s with ev := s.ev ++ [⟨7, a.n, 0, 0⟩] } th a) rfl fun b hb => by cases hb⟩
        · refine ⟨rfl, by simp [rpNone], tsole_set h (s' := { s with ts := setU s.ts th (some { a with ph := 1 }), ev := s.ev ++ [⟨7, a.n, 0, 0⟩] }) rfl fun b hb => ?_⟩
          cases hb; exact ⟨fun _ => hver (by omega), fun h => absurd h k1⟩
      split
      · rename_i h1
        unfold tlockS
        split
        · rename_i st hst
          have hr := needs_range hg a.fs (firstN_mem hst).1
          rw [tsole_other hs h hr]
          simp only [Bool.false_eq_true, if_false]
          refine ⟨rfl, by simp [rpNone], tsole_set h (s' := { s with ws := lockTL s.ws th st }) (x := some a) (setU_id ha) fun b hb => ?_⟩
          cases hb
          refine ⟨fun _ i => ?_, fun h => absurd h k1⟩
          simp only
          rw [lock_ver hg]; exact hver (by omega) i
        · split
          · refine ⟨rfl, by simp [rpNone], tsole_set h (s' := { s with c := nextV s.c, ts := setU s.ts th (some { a with wv := nextV s.c, ph := 2, nx := 0 }) }) rfl fun b hb => ?_⟩
            cases hb; exact ⟨fun _ => hver (by omega), fun h => absurd h k1⟩
          · exact ⟨rfl, by simp [rpEnd], tsole_end h a 2⟩
      split
      · rename_i h2
        unfold tcheckS
        split
        · refine ⟨rfl, by simp [rpNone], tsole_set h (s' := { s with ts := setU s.ts th (some { a with dec := true, ph := 3, nx := 0 }), ft := keyF s.ft a.n (2 * a.wv) }) rfl fun b hb => ?_⟩
          cases hb; exact ⟨fun h => by simp at h, fun h => absurd h k1⟩
        · rename_i e hx
          have her := hok.es.range e (List.mem_of_getElem? hx)
          have hP : passB (wordTV s.ws (ofT s.ws e.t)) th a.rv = true := by
            obtain ⟨w1, w2⟩ := word_own hg her
            have w3 := verT_of hg her (hver (by omega))
            unfold passB
            rw [w1, w2]
            rcases tsole_own hs h (ofT s.ws e.t).toNat with ho | ho <;> simp [ho, w3]
          rw [if_pos hP]
          refine ⟨rfl, by simp [rpNone], tsole_set h (s' := tputA s th { a with nx := a.nx + 1 }) rfl fun b hb => ?_⟩
          cases hb; exact ⟨fun _ => hver (by omega), fun h => absurd h k1⟩
      split
      · split
        · refine ⟨rfl, by simp [rpNone], tsole_set h (s' := { s with hp := s.hp.set _ _, ts := setU s.ts th (some { a with nx := a.nx + 1, ph := if a.nx + 1 = (allL a.fs).length then 4 else 3 }) }) rfl fun b hb => ?_⟩
          cases hb
          refine ⟨fun h => ?_, fun h => absurd h k1⟩
          simp only at h
          split at h <;> omega
        · exact ⟨rfl, by simp [rpNone], h⟩
      · rename_i h0 h1 h2 h3
        have h4 : a.ph = 4 := by have := hok.ph; omega
        split
        · exact ⟨rfl, by simp [rpNone], h⟩
        · exact ⟨rfl, by simp [rpEnd], tsole_set h (s' := tcommitS { s with ws := _ } th a) rfl fun b hb => by cases hb⟩
        · refine ⟨rfl, by simp [rpNone], tsole_set h (s' := { s with ws := _ }) (x := some a) (setU_id ha) fun b hb => ?_⟩
          cases hb
          exact ⟨fun h => by omega, fun h => absurd h k1⟩
    split
    · exact ⟨rfl, by simp [rpEnd], tsole_end h a 4⟩
    · rename_i k0 k1 k6 k7
      have hp0 := ph_zero hok k6
      have hlow := hver (by omega)
      unfold tturnS
      split
      · refine ⟨rfl, by simp [rpDone], tsole_set h (s' := { s with ts := setU s.ts th (some { a with ra := ⟨0, 0, 0⟩, fs := pushF a.fs }), ev := s.ev ++ [⟨4, a.n, 0, 0⟩] }) rfl fun b hb => ?_⟩
        cases hb; exact ⟨fun _ => hlow, fun h => by simp at h⟩
      split
      · refine ⟨rfl, by simp [rpDone], tsole_set h (s' := { s with ts := setU s.ts th (some { a with ra := ⟨0, 0, 0⟩, fs := dropF a.fs }), ev := s.ev ++ [⟨5, a.n, 0, 0⟩] }) rfl fun b hb => ?_⟩
        cases hb; exact ⟨fun _ => hlow, fun h => by simp at h⟩
      split
      · refine ⟨rfl, by simp [rpDone], tsole_set h (s' := { s with ts := setU s.ts th (some { a with ra := ⟨0, 0, 0⟩, fs := mergeFs a.fs }), ev := s.ev ++ [⟨6, a.n, 0, 0⟩] }) rfl fun b hb => ?_⟩
        cases hb; exact ⟨fun _ => hlow, fun h => by simp at h⟩
      split
      · refine ⟨rfl, by simp [rpDone], tsole_set h (s' := { s with ts := setU s.ts th (some { a with ra := ⟨0, 0, 0⟩, fs := putFs a.fs a.ra.t a.ra.v }), ev := s.ev ++ [⟨3, a.n, a.ra.t, a.ra.v⟩] }) rfl fun b hb => ?_⟩
        cases hb; exact ⟨fun _ => hlow, fun h => by simp at h⟩
      · exact ⟨rfl, by simp [rpEnd], tsole_end h a 2⟩
theorem tsole_new (h : List Int) (m th : Nat) : TSole (newTS h m) th := ⟨fun _ _ => rfl, (fun a h => by cases h), (fun a h => by cases h)⟩
def tsoleS (s : TS) (d : Dd) : TS := if d.k = 0 then tbeginX s 2 else if d.k = 1 then taskX s 2 d.a else if d.k = 2 then tstepX s 2 else s
def tsoleP (l : List Dd) : TS := l.foldl tsoleS (newTS firstV 3)
theorem tsoleP_succ {l : List Dd} {i : Nat} {x : Dd} (h : l[i]? = some x) : tsoleP (l.take (i + 1)) = tsoleS (tsoleP (l.take i)) x := by
  unfold tsoleP
  rw [List.take_add_one, h, List.foldl_append]
  rfl
theorem tthOf2 : uthOf 2 = some 2 := rfl
theorem tsoleS_ok {s : TS} (hs : s.Ok) (h : TSole s 2) {d : Dd} (hd : d.Ok) : (tsoleS s d).Ok ∧ TSole (tsoleS s d) 2 ∧ (tsoleS s d).ev.length ≤ s.ev.length + 2 := by
  unfold tsoleS
  split
  · exact ⟨tok_beginX hs _, by simpa [tbeginX, tthOf2] using tsole_begin hs h, by have := tev_beginX s 2; omega⟩
  split
  · exact ⟨tok_askX hs _ hd.1.1 hd.2, by simpa [taskX, tthOf2] using tsole_ask h hs d.a, by rw [tev_askX]; omega⟩
  split
  · exact ⟨tok_stepX hs _, by simpa [tstepX, tthOf2] using (tsole_step hs (by omega) h).2.2, tev_stepX s 2⟩
  · exact ⟨hs, h, by omega⟩
theorem tsoleP_ok (l : List Dd) (hl : ∀ d ∈ l, d.Ok) : (tsoleP l).Ok ∧ TSole (tsoleP l) 2 ∧ (tsoleP l).ev.length ≤ 2 * l.length := by
  have key : ∀ (l : List Dd) (s : TS), (∀ d ∈ l, d.Ok) → s.Ok → TSole s 2 → (l.foldl tsoleS s).Ok ∧ TSole (l.foldl tsoleS s) 2 ∧ (l.foldl tsoleS s).ev.length ≤ s.ev.length + 2 * l.length := by
    intro l
    induction l with
    | nil => intro s _ h h2; exact ⟨h, h2, by simp⟩
    | cons d l ih =>
      intro s hd hs h2
      have h0 := tsoleS_ok hs h2 (hd d (by simp))
      have h1 := ih (tsoleS s d) (fun x hx => hd x (by simp [hx])) h0.1 h0.2.1
      refine ⟨h1.1, h1.2.1, ?_⟩
      have h3 := h1.2.2
      have h4 := h0.2.2
      simp only [List.foldl_cons, List.length_cons]
      omega
  have := key l (newTS firstV 3) hl tfirstV_ok (tsole_new _ _ _)
  refine ⟨this.1, this.2.1, ?_⟩
  have h2 := this.2.2
  have h0 : (newTS firstV 3).ev.length = 0 := rfl
  unfold tsoleP
  omega
def ttblAl : List (FuncId × CStep GD) := [(11, st11), (12, st12), (10, st10), (13, dataSt d13), (14, dataSt d14), (15, dataSt d15)]
theorem ttblAl_ok : ∀ x ∈ ttblAl, CStepOk Tryz.prog cfg x.1 x.2 := by simp [ttblAl, st11_ok, st12_ok, st10_ok, st13_ok, st14_ok, st15_ok]
set_option maxRecDepth 10000 in
set_option maxHeartbeats 8000000 in
theorem runs3 (l : List Dd) (tg : Nat) (hl : ∀ d ∈ l, d.Ok) : Runs Tryz.prog cfg 3 [.slice (some ⟨0, 0, none⟩) l.length tg] (AH.of [some (.ro (dds l))])
    fun r H' => r = .ret (.bool true) ∧ H' = AH.of [some (.ro (dds l))] := by
  refine Runs.ends ?_
  have hr := firstV_right
  refine runs_by (tbl := ttblAl) ttblAl_ok 121 0 (af := a3) rfl ?_
  rw [a3, b3, run_eq]
  refine ⟨by simp, ?_⟩
  simp (implicitDefEqProofs := false) [ttblAl, st11, st12, st10, firstV_len, hr]
  refine ⟨hr, ?_⟩
  refine loop_view (sg_mono gX_ok (tabS_ok ttblAl_ok) _ _ noY noY_mono) (fun m tm H => ∃ i : Nat, m + i = 120 ∧ i ≤ l.length ∧ tm 0 = .slice (some ⟨0, 0, none⟩) l.length tg ∧ tm 3 = .pointer (some ⟨2, 0, none⟩) ∧ tm 4 = .int .i64 i ∧
    H = AH.of [some (.ro (dds l)), none, some (.hi (.teng (tsoleP (l.take i))))]) (m := 120) ?_ (by omega) ?_
  · refine round_plan [] [0, 1, 2] [some (.ro (dds l)), none, some (.hi (.teng (tsoleP (l.take 0))))] 120 (by omega) ?_ ?_ ⟨0, by omega, by omega, ?_, ?_, ?_, rfl⟩ <;> simp [tsoleP]
  rintro m tm H ⟨i, hm, hil, t0, t3, t4, rfl⟩
  obtain ⟨s, hsd⟩ : ∃ s, tsoleP (l.take i) = s := ⟨_, rfl⟩
  have hok := tsoleP_ok (l.take i) fun d hd => hl d (List.mem_of_mem_take hd)
  rw [hsd] at hok ⊢
  have hs := hok.1
  have hev : s.ev.length ≤ 100000 := by
    have := hok.2.2; rw [List.length_take] at this; omega
  by_cases hi : i < l.length
  · have hi' : (i : Int) < l.length := by omega
    by_cases h120 : i < 120
    · have h120' : (i : Int) < 120 := by omega
      obtain ⟨x, hx⟩ : ∃ x, l[i]? = some x := ⟨l[i]'(by omega), List.getElem?_eq_getElem (by omega)⟩
      have hxo := hl x (List.mem_of_getElem? hx)
      have hsuc := tsoleP_succ hx
      rw [hsd] at hsuc
      obtain ⟨c0, c1, c2, c3, c4⟩ := dds_at hx
      have cm := many_ask hx
      have hle : i * 5 + 2 + 3 ≤ (dds l).length := by rw [dds_length]; omega
      have hwr := inc_i64 h120 (by omega)
      have hak := hxo.1.1
      by_cases k0 : x.k = 0
      · have hS : tsoleS s x = tbeginX s 2 := by simp [tsoleS, k0]
        simp (implicitDefEqProofs := false) [ttblAl, dataSt, d13, t0, t3, t4, hi, hi', h120, h120', c0, k0, hwr]
        refine ⟨⟨hs, hev⟩, round_plan [] [0, 1, 2] [some (.ro (dds l)), none, some (.hi (.teng (tsoleP (l.take (i + 1)))))] (m - 1) (by omega) ?_ ?_ ⟨i + 1, by omega, by omega, ?_, ?_, ?_, rfl⟩⟩ <;> simp [t0, t3, hsuc, hS]
      · by_cases k1 : x.k = 1
        · have hS : tsoleS s x = taskX s 2 x.a := by simp [tsoleS, k1]
          have hS2 : taskX s 2 ⟨x.a.k, x.a.t, x.a.v⟩ = taskX s 2 x.a := rfl
          simp (implicitDefEqProofs := false) [ttblAl, dataSt, d14, t0, t3, t4, hi, hi', h120, h120', c0, k0, k1, cm, hle, hwr, hS2]
          refine ⟨⟨hs, hak⟩, round_plan [] [0, 1, 2] [some (.ro (dds l)), none, some (.hi (.teng (tsoleP (l.take (i + 1)))))] (m - 1) (by omega) ?_ ?_ ⟨i + 1, by omega, by omega, ?_, ?_, ?_, rfl⟩⟩ <;> simp [t0, t3, hsuc, hS]
        · by_cases k2 : x.k = 2
          · have hS : tsoleS s x = tstepX s 2 := by simp [tsoleS, k2]
            have hb := tsole_step hs (by omega) hok.2.1
            obtain ⟨rp, hR, hb1, hb2⟩ : ∃ rp, tstepR s 2 = rp ∧ rp.busy = false ∧ rp.why ≠ 1 := ⟨_, rfl, hb.1, hb.2.1⟩
            simp (implicitDefEqProofs := false) [ttblAl, dataSt, d15, t0, t3, t4, hi, hi', h120, h120', c0, k0, k1, k2, hR, hb1, hb2, hwr, Rp.v, Rp.cells]
            refine ⟨⟨hs, hev⟩, round_plan [] [0, 1, 2] [some (.ro (dds l)), none, some (.hi (.teng (tsoleP (l.take (i + 1)))))] (m - 1) (by omega) ?_ ?_ ⟨i + 1, by omega, by omega, ?_, ?_, ?_, rfl⟩⟩ <;> simp [t0, t3, hsuc, hS]
          · have hS : tsoleS s x = s := by simp [tsoleS, k0, k1, k2]
            simp (implicitDefEqProofs := false) [t0, t3, t4, hi, hi', h120, h120', c0, k0, k1, k2, hwr]
            refine round_plan [] [0, 1, 2] [some (.ro (dds l)), none, some (.hi (.teng (tsoleP (l.take (i + 1)))))] (m - 1) (by omega) ?_ ?_ ⟨i + 1, by omega, by omega, ?_, ?_, ?_, rfl⟩ <;> simp [t0, t3, hsuc, hS]
    · have h120' : ¬ (i : Int) < 120 := by omega
      simp (implicitDefEqProofs := false) [t0, t3, t4, hi, hi', h120, h120']
      refine ends_plan [] [0] ?_ ?_ ?_ <;> simp
  · have hi' : ¬ (i : Int) < l.length := by omega
    simp (implicitDefEqProofs := false) [t0, t3, t4, hi, hi']
    refine ends_plan [] [0] ?_ ?_ ?_ <;> simp
end YtapbabkndhaemaaGreat
end Go.Proofs
/-
  TL2: Decided; who ended leaves nothing; the clock. (Printed by tools/genug.py.)
-/
namespace Go.Proofs
namespace YtapbabkndhaemaaGreat
open Go.Abs
end YtapbabkndhaemaaGreat
end Go.Proofs
/-
  What the arguments of tl2's laws read as.
-/
namespace Go.Proofs
namespace YtapbabkndhaemaaGreat
open Go.Abs Go.ChangeShapes Go.WideShapes Go.ChangeAt Go.RowKit
set_option maxRecDepth 100000
theorem cells34 : Tryz.prog.cellsOf 34 = 5 := by kernel_rfl
theorem cells32 : Tryz.prog.cellsOf 32 = 3 := by kernel_rfl
theorem cells3 : Tryz.prog.cellsOf 3 = 1 := by kernel_rfl
def ltypes : List TypeId := [25, 22, 34, 32, 28, 30, 3, 29, 5]
theorem lclosed : closedB Tryz.prog ltypes = true := by kernel_rfl
section
variable {H : Type} {enc : TypeId × Value → H} {w : World}
theorem ask_cellsA {fuel : Nat} {cs : List Value} {y : DataW H × List MemPlace} (h : DataW.trod enc Tryz.prog w 0 (fun _ => true) true fuel 32 cs = some y) : ∃ e : Ak, cs = [.int .u8 e.k, .int .i64 e.t, .int .u64 e.v] ∧ (0 ≤ e.k ∧ e.k < 256) ∧ 0 ≤ e.v ∧ e.v < 18446744073709551616 := by
  obtain ⟨h1, h2⟩ := struct_cells Tryz.underlying32 (by kernel_rfl) h cells32
  obtain ⟨v0, n0, y0, g0, t0⟩ := h2 0 _ rfl
  obtain ⟨v1, n1, y1, g1, t1⟩ := h2 1 _ rfl
  obtain ⟨v2, n2, y2, g2, t2⟩ := h2 2 _ rfl
  obtain ⟨a, ha, _, hwa⟩ := DataW.trod_int Tryz.underlying28 t0
  obtain ⟨b, hb, _, _⟩ := DataW.trod_int Tryz.underlying3 t1
  obtain ⟨c, hc, _, hw⟩ := DataW.trod_int Tryz.underlying30 t2
  have h3 : cs.length = 3 := h1
  match cs, h3 with
  | [c0, c1, c2], _ =>
    simp only [List.getElem?_cons_zero, List.getElem?_cons_succ, Option.some.injEq] at g0 g1 g2
    cases g0; cases g1; cases g2
    cases ha; cases hb; cases hc
    exact ⟨⟨a, b, c⟩, rfl, wf_u8 hwa, wf_u64 hw⟩
theorem dd_cells {fuel : Nat} {cs : List Value} {y : DataW H × List MemPlace} (h : DataW.trod enc Tryz.prog w 0 (fun _ => true) true fuel 34 cs = some y) : ∃ e : Dd, cs = e.cells ∧ e.Ok := by
  obtain ⟨xs, n, _, _, h1, h2, h3⟩ := DataW.trod_struct Tryz.underlying34 h
  have hl : cs.length = 5 := by rw [h1, cells34]
  obtain ⟨c0, c1, c2, c3, c4, rfl⟩ : ∃ c0 c1 c2 c3 c4, cs = [c0, c1, c2, c3, c4] := by
    match cs, hl with
    | [c0, c1, c2, c3, c4], _ => exact ⟨c0, c1, c2, c3, c4, rfl⟩
  have f0 := h3 0 _ rfl
  have f1 := h3 1 _ rfl
  have f2 := h3 2 _ rfl
  have hx : xs.length = 3 := h2
  have e0 : xs[0]? = some xs[0] := List.getElem?_eq_getElem (by omega)
  have e1 : xs[1]? = some xs[1] := List.getElem?_eq_getElem (by omega)
  have e2 : xs[2]? = some xs[2] := List.getElem?_eq_getElem (by omega)
  change DataW.trod enc Tryz.prog w 0 (fun _ => true) true n 3 (([c0, c1, c2, c3, c4].drop 0).take (Tryz.prog.cellsOf 3)) = xs[0]? at f0
  change DataW.trod enc Tryz.prog w 0 (fun _ => true) true n 3 (([c0, c1, c2, c3, c4].drop 1).take (Tryz.prog.cellsOf 3)) = xs[1]? at f1
  change DataW.trod enc Tryz.prog w 0 (fun _ => true) true n 32 (([c0, c1, c2, c3, c4].drop 2).take (Tryz.prog.cellsOf 32)) = xs[2]? at f2
  rw [cells3, e0] at f0
  rw [cells3, e1] at f1
  rw [cells32, e2] at f2
  obtain ⟨a, ha, _, _⟩ := DataW.trod_int Tryz.underlying3 f0
  obtain ⟨b, hb, _, _⟩ := DataW.trod_int Tryz.underlying3 f1
  obtain ⟨x, hx, hxo⟩ := ask_cellsA f2
  have ha' : [c0] = [.int .i64 a] := ha
  have hb' : [c1] = [.int .i64 b] := hb
  have hx' : [c2, c3, c4] = [.int .u8 x.k, .int .i64 x.t, .int .u64 x.v] := hx
  cases ha'; cases hb'; cases hx'
  exact ⟨⟨a, b, x⟩, rfl, hxo⟩
theorem dds_one (l : List Dd) : (dds l).all (·.oneCell') = true := by
  induction l with
  | nil => rfl
  | cons e l ih => rw [dds_cons]; simpa [Value.oneCell'] using ih
theorem open_ndeeds {r : Reach} {b0 : Nat} {v : Value} {d : DataW H} {ps : List MemPlace} (hok : Value.okWide Tryz.prog w r b0 22 v) (hd : DataW.Trod enc Tryz.prog w 0 (fun _ => true) true 22 v d ps) :
    ∃ l : List Dd, (∀ e ∈ l, e.Ok) ∧ l.length ≤ maxLen ∧ ArgRow w v l.length (dds l) :=
  open_rows (ea := Dd.cells) Tryz.underlying22 (by rw [cells34]; omega) (fun x => cells34.symm) (fun _ _ _ h => dd_cells h) hok hd
end
end YtapbabkndhaemaaGreat
end Go.Proofs
