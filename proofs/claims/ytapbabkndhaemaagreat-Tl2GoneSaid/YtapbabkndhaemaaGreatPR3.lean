/-
  What laws of engines have in common: clones, deeds, values at first, values held against values.
-/
import Derived.Test.YtapbabkndhaemaaGreatPR1
import Derived.Test.YtapbabkndhaemaaGreatPR2
set_option linter.unusedSimpArgs false
set_option linter.unusedVariables false
set_option linter.unnecessarySimpa false
set_option linter.unusedSectionVars false
namespace Go.Proofs
namespace YtapbabkndhaemaaGreat
open Go.Abs
theorem runs45 (e : TypeId) (l : List Int) (tg : Nat) (hl : l.length ≤ 1000000) : Runs Tryz.prog cfg 45 [.slice (some ⟨0, 0, none⟩) l.length tg] (AH.of [some (.arr e (us l))])
    fun r H' => r = .ret (.slice (some ⟨1, 0, none⟩) l.length 1) ∧ H' = AH.of [some (.arr e (us l)), some (.arr 30 (us l))] := by
  refine Runs.ends ?_
  refine runs_by (tbl := []) (by simp) 0 0 (af := a45) rfl ?_
  rw [a45, b45, run_eq]
  refine ⟨by simp, ?_⟩
  have h1 : l.length * 8 ≤ 140737488355328 ∧ l.length ≤ 9223372036854775807 := by omega
  have h2 := take_us l
  simp (implicitDefEqProofs := false) [h1, h2, us_length]
  repeat' (first | with_reducible apply And.intro | with_reducible intro _)
  all_goals first
    | (refine ends_plan [] [0, 2] ?_ ?_ ?_ <;> simp; done)
    | (have : l = [] := by assumption
       subst this
       refine ends_wk (r' := .ret (.slice (some ⟨1, 0, none⟩) 0 1)) (leR_ret (by simp)) (ends_plan [.nil 30] [0, 1] ?_ ?_ ?_) <;> simp [us])
theorem runs_cloneV_ro (l : List Int) (n tg : Nat) (hn : n = l.length) (hl : l.length ≤ 1000000) : Runs Tryz.prog cfg 45 [.slice (some ⟨0, 0, none⟩) n tg] (AH.of [some (.ro (us l))])
    fun r H' => r = .ret (.slice (some ⟨1, 0, none⟩) l.length 1) ∧ H' = AH.of [some (.ro (us l)), some (.arr 30 (us l))] := by
  subst hn
  refine Runs.ends ?_
  refine runs_by (tbl := []) (by simp) 0 0 (af := a45) rfl ?_
  rw [a45, b45, run_eq]
  refine ⟨by simp, ?_⟩
  have h1 : l.length * 8 ≤ 140737488355328 ∧ l.length ≤ 9223372036854775807 := by omega
  have h2 := take_us l
  simp (implicitDefEqProofs := false) [h1, h2, us_length]
  repeat' (first | with_reducible apply And.intro | with_reducible intro _)
  all_goals first
    | (refine ends_plan [] [0, 2] ?_ ?_ ?_ <;> simp; done)
    | (have : l = [] := by assumption
       subst this
       refine ends_wk (r' := .ret (.slice (some ⟨1, 0, none⟩) 0 1)) (leR_ret (by simp)) (ends_plan [.nil 30] [0, 1] ?_ ?_ ?_) <;> simp [us])
def st45 : CStep GD := fun args H => match args with
  | [.slice (some ⟨k, 0, none⟩) n _] => match H.get k with
    | some (.arr _ cs) => (asUs cs).map fun l => (n = l.length ∧ l.length ≤ 1000000, .ret (.slice (some ⟨H.next, 0, none⟩) l.length 1), H.add (.arr 30 (us l)))
    | some (.ro cs) => (asUs cs).map fun l => (n = l.length ∧ l.length ≤ 1000000, .ret (.slice (some ⟨H.next, 0, none⟩) l.length 1), H.add (.arr 30 (us l)))
    | _ => none
  | _ => none
theorem st45_ok : CStepOk Tryz.prog cfg 45 st45 := by
  intro args H p r H' h hp
  unfold st45 at h
  split at h
  case h_2 => cases h
  split at h
  · simp only [Option.map_eq_some_iff] at h
    obtain ⟨l, hl, h⟩ := h
    rename_i k n tg x e cs hk
    cases h
    rw [asUs_inv hl] at hk
    rw [hp.1]
    exact (runs45 e l tg hp.2).atK (ro_none rfl) [k] (by simp) (by simp) (by simp [hk]) (by simp) (by simp) (by simp [upd_get hk])
  · simp only [Option.map_eq_some_iff] at h
    obtain ⟨l, hl, h⟩ := h
    rename_i k n tg x cs hk
    cases h
    rw [asUs_inv hl] at hk
    exact (runs_cloneV_ro l n tg hp.1 hp.2).atK (ro_same fun i cs hi => by rcases i with _ | _ | i <;> simp at hi ⊢; exact hi) [k] (by simp) (by simp) (by simp [hk]) (by simp) (by simp) (by simp [upd_get hk])
  · cases h
theorem runs64 (e : TypeId) (l : List Ev) (tg : Nat) (hl : l.length ≤ 1000000) : Runs Tryz.prog cfg 64 [.slice (some ⟨0, 0, none⟩) l.length tg] (AH.of [some (.arr e (evs l))])
    fun r H' => r = .ret (.slice (some ⟨1, 0, none⟩) l.length 1) ∧ H' = AH.of [some (.arr e (evs l)), some (.arr 121 (evs l))] := by
  refine Runs.ends ?_
  refine runs_by (tbl := []) (by simp) 0 0 (af := a64) rfl ?_
  rw [a64, b64, run_eq]
  refine ⟨by simp, ?_⟩
  have h1 : l.length * 32 ≤ 140737488355328 ∧ l.length ≤ 9223372036854775807 := by omega
  have h2 := take_evs l
  have h3 : l.length * 4 ≤ (evs l).length := by rw [evs_length]; omega
  simp (implicitDefEqProofs := false) [h1, h2, h3]
  repeat' (first | with_reducible apply And.intro | with_reducible intro _)
  all_goals first
    | (refine ends_plan [] [0, 2] ?_ ?_ ?_ <;> simp; done)
    | (have : l = [] := by assumption
       subst this
       refine ends_wk (r' := .ret (.slice (some ⟨1, 0, none⟩) 0 1)) (leR_ret (by simp)) (ends_plan [.nil 121] [0, 1] ?_ ?_ ?_) <;> simp [evs])
def st64 : CStep GD := fun args H => match args with
  | [.slice (some ⟨k, 0, none⟩) n _] => match H.get k with
    | some (.arr _ cs) => (asEvs cs).map fun l => (n = l.length ∧ l.length ≤ 1000000, .ret (.slice (some ⟨H.next, 0, none⟩) l.length 1), H.add (.arr 121 (evs l)))
    | _ => none
  | _ => none
theorem st64_ok : CStepOk Tryz.prog cfg 64 st64 := by
  intro args H p r H' h hp
  unfold st64 at h
  split at h
  case h_2 => cases h
  split at h
  · simp only [Option.map_eq_some_iff] at h
    obtain ⟨l, hl, h⟩ := h
    rename_i k n tg x e cs hk
    cases h
    rw [asEvs_inv hl] at hk
    rw [hp.1]
    exact (runs64 e l tg hp.2).atK (ro_none rfl) [k] (by simp) (by simp) (by simp [hk]) (by simp) (by simp) (by simp [upd_get hk])
  · cases h
def firstV : List Int := [0, 4607182418800017408, 9221120237041090560, 9223372036854775808, 0]
theorem firstV_right : ∀ v ∈ firstV, rightB v = true := by
  intro v hv
  simp only [firstV, List.mem_cons, List.not_mem_nil, or_false] at hv
  rcases hv with rfl | rfl | rfl | rfl | rfl <;> decide
theorem firstV_len : firstV.length = 5 := rfl
structure Dd where
  k : Int
  t : Int
  a : Ak
def Dd.cells (d : Dd) : List Value := [.int .i64 d.k, .int .i64 d.t, .int .u8 d.a.k, .int .i64 d.a.t, .int .u64 d.a.v]
def Dd.Ok (d : Dd) : Prop := (0 ≤ d.a.k ∧ d.a.k < 256) ∧ 0 ≤ d.a.v ∧ d.a.v < 18446744073709551616
def dds (l : List Dd) : List Value := l.flatMap Dd.cells
theorem dds_cons (d : Dd) (l : List Dd) : dds (d :: l) = .int .i64 d.k :: .int .i64 d.t :: .int .u8 d.a.k :: .int .i64 d.a.t :: .int .u64 d.a.v :: dds l := rfl
theorem dds_length (l : List Dd) : (dds l).length = l.length * 5 := by
  induction l with
  | nil => rfl
  | cons e l ih => rw [dds_cons]; simp [ih]; omega
theorem dds_ground (l : List Dd) : grounds (dds l) = true := by
  induction l with
  | nil => rfl
  | cons e l ih => rw [dds_cons]; simp [grounds, ground, ih]
theorem ren_dds (θ : Nat → Nat) (l : List Dd) : rens θ (dds l) = dds l := rens_ground θ _ (dds_ground l)
theorem many_dds {i : Nat} {x : Dd} : ∀ {l : List Dd}, l[i]? = some x → ((dds l).drop (i * 5)).take 5 = x.cells := by
  induction i with
  | zero =>
    intro l h
    cases l with
    | nil => simp at h
    | cons e l => simp at h; subst h; rfl
  | succ i ih =>
    intro l h
    cases l with
    | nil => simp at h
    | cons e l =>
      rw [dds_cons, show (i + 1) * 5 = i * 5 + 1 + 1 + 1 + 1 + 1 by omega]
      simpa using ih (l := l) (by simpa using h)
attribute [simp] ren_dds
def asDds : List Value → Option (List Dd)
  | [] => some []
  | .int .i64 k :: .int .i64 t :: .int .u8 a :: .int .i64 b :: .int .u64 c :: l => (asDds l).map (⟨k, t, ⟨a, b, c⟩⟩ :: ·)
  | _ => none
theorem asDds_dds : ∀ l : List Dd, asDds (dds l) = some l
  | [] => rfl
  | e :: l => by rw [dds_cons, asDds, asDds_dds l]; rfl
theorem asDds_inv : ∀ {cs : List Value} {l : List Dd}, asDds cs = some l → cs = dds l
  | cs, l, e => by
    unfold asDds at e
    split at e
    · cases e; rfl
    · simp only [Option.map_eq_some_iff] at e
      obtain ⟨l', e1, rfl⟩ := e
      rw [asDds_inv e1]; rfl
    · cases e
attribute [simp] asDds_dds
set_option maxHeartbeats 2000000 in
theorem runs26 (e e' : TypeId) (a b : List Int) (ta tb : Nat) (hl : a.length ≤ 1000) : Runs Tryz.prog cfg 26 [.slice (some ⟨0, 0, none⟩) a.length ta, .slice (some ⟨1, 0, none⟩) b.length tb] (AH.of [some (.arr e (us a)), some (.arr e' (us b))])
    fun r H' => r = .ret (.bool (decide (a = b))) ∧ H' = AH.of [some (.arr e (us a)), some (.arr e' (us b))] := by
  refine Runs.ends ?_
  obtain ⟨n, hn⟩ : ∃ n, a.length = n := ⟨_, rfl⟩
  by_cases hnm : b.length = n
  · rw [hn, hnm]
    refine runs_by (tbl := []) (by simp) 1001 0 (af := a26) rfl ?_
    rw [a26, b26, run_eq]
    refine ⟨by simp, ?_⟩
    simp (implicitDefEqProofs := false)
    refine loop_inv (sg_mono gX_ok (tabS_ok (by simp)) _ _ noY noY_mono) (fun mm tm H => ∃ i : Nat, mm + i = n ∧ (∀ j, j < i → a[j]? = b[j]?) ∧ tm 0 = .slice (some ⟨0, 0, none⟩) n ta ∧ tm 1 = .slice (some ⟨1, 0, none⟩) n tb ∧ tm 5 = .int .i64 i ∧ H = AH.of [some (.arr e (us a)), some (.arr e' (us b))]) (m := n) ⟨0, by simp⟩ (by omega) ?_
    rintro mm tm H ⟨i, hmm, hpre, t0, t1, t5, rfl⟩
    by_cases hi : i < n
    · obtain ⟨x, hx⟩ : ∃ x, a[i]? = some x := ⟨a[i]'(by omega), List.getElem?_eq_getElem (by omega)⟩
      obtain ⟨y, hy⟩ : ∃ y, b[i]? = some y := ⟨b[i]'(by omega), List.getElem?_eq_getElem (by omega)⟩
      have hi' : (i : Int) < n := by omega
      have hwr := inc_i64 hi (by omega)
      have ux := us_at hx
      have uy := us_at hy
      by_cases hxy : x = y
      · subst hxy
        have hpre2 : ∀ j, j < i + 1 → a[j]? = b[j]? := fun j hj => by
          by_cases h : j = i
          · subst h; rw [hx, hy]
          · exact hpre j (by omega)
        simp (implicitDefEqProofs := false) [t0, t1, t5, hi, hi', ux, uy, hwr]
        exact ⟨mm - 1, by omega, i + 1, by omega, hpre2, by omega⟩
      · have hne : ¬ a = b := fun h => by subst h; rw [hx] at hy; exact hxy (Option.some.inj hy)
        simp (implicitDefEqProofs := false) [t0, t1, t5, hi, hi', ux, uy, hxy, hne]
        refine ends_plan [] [0, 1] ?_ ?_ ?_ <;> simp
    · have hab : a = b := same_none (by omega) fun j hj => hpre j (by omega)
      have hi' : ¬ (i : Int) < n := by omega
      simp (implicitDefEqProofs := false) [t0, t1, t5, hi', hab]
      refine ends_plan [] [0, 1] ?_ ?_ ?_ <;> simp
  · have hne : ¬ a = b := fun h => hnm (by rw [← h]; exact hn)
    have hnm' : ¬ (n : Int) = b.length := by omega
    have hnm2 : ¬ n = b.length := by omega
    rw [hn]
    refine runs_by (tbl := []) (by simp) 1001 0 (af := a26) rfl ?_
    rw [a26, b26, run_eq]
    refine ⟨by simp, ?_⟩
    simp (implicitDefEqProofs := false) [hnm', hnm2, hne]
    refine ends_plan [] [0, 1] ?_ ?_ ?_ <;> simp
def st26 : CStep GD := fun args H => match args with
  | [.slice (some ⟨k, 0, none⟩) n _, .slice (some ⟨j, 0, none⟩) m _] => match getArr H k, getArr H j with
    | some a, some b => some (k ≠ j ∧ n = a.2.length ∧ m = b.2.length ∧ n ≤ 1000, .ret (.bool (decide (a.2 = b.2))), H)
    | _, _ => none
  | _ => none
theorem st26_ok : CStepOk Tryz.prog cfg 26 st26 := by
  intro args H p r H' h hp
  unfold st26 at h
  split at h
  case h_2 => cases h
  split at h
  case h_2 => cases h
  rename_i k n ta j m tb _ _ a b h1 h2
  cases h
  obtain ⟨p1, p2, p3, p4⟩ := hp
  subst p2 p3
  exact (runs26 a.1 b.1 a.2 b.2 ta tb p4).atK (ro_none rfl) [k, j] (by simp [p1]) (by simp) (by simp [getArr_inv h1, getArr_inv h2]) (by simp) (by simp) (by simp [upd_get (getArr_inv h1), upd_get (getArr_inv h2)])
end YtapbabkndhaemaaGreat
end Go.Proofs
/-
  TL2: what is told, New.
-/
namespace Go.Proofs
namespace YtapbabkndhaemaaGreat
open Go.Abs
def tblUo : List (FuncId × CStep GD) := [(58, st58), (49, st49), (45, st45), (64, st64), (55, st55), (57, st57)]
theorem tblUo_ok : ∀ x ∈ tblUo, CStepOk Tryz.prog cfg x.1 x.2 := by simp [tblUo, st58_ok, st49_ok, st45_ok, st64_ok, st55_ok, st57_ok]
theorem runs25 (s : TS) (hs : s.Ok) (t : Int) : Runs Tryz.prog cfg 25 [.pointer (some ⟨0, 0, none⟩), .int .i64 t] (AH.of [some (.hi (.teng s))])
    fun r H' => r = .ret (.bool (decide (heldL s.ws t ≠ []))) ∧ H' = AH.of [some (.hi (.teng s))] := by
  refine Runs.ends ?_
  refine Runs.openTEng (th := 0) (by omega) ?_
  have hg := hs.tab
  cases hh : heldL s.ws t with
  | nil =>
    refine runs_by (tbl := tblUo) tblUo_ok 0 3 (af := a25) rfl ?_
    rw [a25, b25, run_eq]
    refine ⟨by simp, ?_⟩
    simp (implicitDefEqProofs := false) [tengL, tengC_0, tengC_1, tengC_6, tengC_7, tengC_g0, tengC_g1, tengC_g6, tengC_g7, tengC_len, tblUo, st58, hg, hh]
    refine ends_plan [.pack (GD.teng s) 0 [1, 2, 3, 4, 5, 6, 7, 8]] [0] ?_ ?_ ?_ <;> simp [frag_teng, tengC, tps, u1, u2, u3]
  | cons h rest =>
    have hl : (0 : Int) < (rest.length : Int) + 1 := by omega
    refine runs_by (tbl := tblUo) tblUo_ok 0 3 (af := a25) rfl ?_
    rw [a25, b25, run_eq]
    refine ⟨by simp, ?_⟩
    simp (implicitDefEqProofs := false) [tengL, tengC_0, tengC_1, tengC_6, tengC_7, tengC_g0, tengC_g1, tengC_g6, tengC_g7, tengC_len, tblUo, st58, hg, hh, hl]
    refine ends_plan [.pack (GD.teng s) 0 [1, 2, 3, 4, 5, 6, 7, 8]] [0] ?_ ?_ ?_ <;> simp [frag_teng, tengC, tps, u1, u2, u3]
def d25 : DStep
  | .teng s, [.int .i64 t] => some (s.Ok, .bool (decide (heldL s.ws t ≠ [])), .teng s)
  | _, _ => none
theorem st25_ok : CStepOk Tryz.prog cfg 25 (dataSt d25) := data_ok fun d rest p v d' h hp => by
  unfold d25 at h
  split at h
  · cases h; exact ⟨rfl, rfl, runs25 _ hp _⟩
  · cases h
def twhyV (s : TS) (n : Int) : Int := if n < 0 then 0 else ((s.ft[n.toNat]?).map (·.why)).getD 0
theorem fates_at {l : List Fate} {i : Nat} {f : Fate} : l[i]? = some f → (fates l)[i * 3]? = some (.int .i64 f.n) ∧ (fates l)[i * 3 + 1]? = some (.int .u64 f.key) ∧ (fates l)[i * 3 + 2]? = some (.int .u8 f.why) := by
  induction l generalizing i with
  | nil => intro h; simp at h
  | cons e l ih =>
    intro h
    cases i with
    | zero => simp at h; subst h; simp [fates_cons]
    | succ i =>
      have := ih (i := i) (by simpa using h)
      rw [fates_cons, show (i + 1) * 3 = i * 3 + 1 + 1 + 1 by omega]
      exact this
theorem runs27 (s : TS) (n : Int) : Runs Tryz.prog cfg 27 [.pointer (some ⟨0, 0, none⟩), .int .i64 n] (AH.of [some (.hi (.teng s))])
    fun r H' => r = .ret (.int .u8 (twhyV s n)) ∧ H' = AH.of [some (.hi (.teng s))] := by
  refine Runs.ends ?_
  refine Runs.openTEng (th := 0) (by omega) ?_
  by_cases h1 : n < 0
  · refine runs_by (tbl := []) (by simp) 0 3 (af := a27) rfl ?_
    rw [a27, b27, run_eq]
    refine ⟨by simp, ?_⟩
    simp (implicitDefEqProofs := false) [tengL, tengC_0, tengC_1, tengC_6, tengC_7, tengC_g0, tengC_g1, tengC_g6, tengC_g7, tengC_len, h1]
    refine ends_plan [.pack (GD.teng s) 0 [1, 2, 3, 4, 5, 6, 7, 8]] [0] ?_ ?_ ?_ <;> simp [frag_teng, tengC, tps, u1, u2, u3, twhyV, h1]
  · by_cases h2 : (s.ft.length : Int) ≤ n
    · have hg : s.ft[n.toNat]? = none := List.getElem?_eq_none (by omega)
      refine runs_by (tbl := []) (by simp) 0 3 (af := a27) rfl ?_
      rw [a27, b27, run_eq]
      refine ⟨by simp, ?_⟩
      simp (implicitDefEqProofs := false) [tengL, tengC_0, tengC_1, tengC_6, tengC_7, tengC_g0, tengC_g1, tengC_g6, tengC_g7, tengC_len, h1, h2]
      refine ends_plan [.pack (GD.teng s) 0 [1, 2, 3, 4, 5, 6, 7, 8]] [0] ?_ ?_ ?_ <;> simp [frag_teng, tengC, tps, u1, u2, u3, twhyV, h1, hg]
    · obtain ⟨f, hf⟩ : ∃ f, s.ft[n.toNat]? = some f := ⟨s.ft[n.toNat]'(by omega), List.getElem?_eq_getElem (by omega)⟩
      have hu := (fates_at hf).2.2
      have h3 : 0 ≤ n := by omega
      have h4 : n < s.ft.length := by omega
      refine runs_by (tbl := []) (by simp) 0 3 (af := a27) rfl ?_
      rw [a27, b27, run_eq]
      refine ⟨by simp, ?_⟩
      simp (implicitDefEqProofs := false) [tengL, tengC_0, tengC_1, tengC_6, tengC_7, tengC_g0, tengC_g1, tengC_g6, tengC_g7, tengC_len, h1, h2, h3, h4, hu]
      refine ends_plan [.pack (GD.teng s) 0 [1, 2, 3, 4, 5, 6, 7, 8]] [0] ?_ ?_ ?_ <;> simp [frag_teng, tengC, tps, u1, u2, u3, twhyV, h1, hf]
def d27 : DStep
  | .teng s, [.int .i64 n] => some (True, .int .u8 (twhyV s n), .teng s)
  | _, _ => none
theorem st27_ok : CStepOk Tryz.prog cfg 27 (dataSt d27) := data_ok fun d rest p v d' h hp => by
  unfold d27 at h
  split at h
  · cases h; exact ⟨rfl, rfl, runs27 _ _⟩
  · cases h
def tattR (s : TS) (t : Int) : Value := match (uthOf t).bind s.ts with
  | some a => .tuple #[.int .i64 a.n, .bool true]
  | none => .tuple #[.int .i64 0, .bool false]
set_option maxHeartbeats 1000000 in
theorem runs20 (s : TS) (t : Int) : Runs Tryz.prog cfg 20 [.pointer (some ⟨0, 0, none⟩), .int .i64 t] (AH.of [some (.hi (.teng s))])
    fun r H' => r = .ret (tattR s t) ∧ H' = AH.of [some (.hi (.teng s))] := by
  refine Runs.ends ?_
  cases ht : uthOf t with
  | none =>
    have hr : tattR s t = .tuple #[.int .i64 0, .bool false] := by simp [tattR, ht]
    rw [hr]
    have ht1 := uthOf_none ht
    have ht' : ¬ t < 0 → 4 ≤ t := fun h => by omega
    refine runs_by (tbl := []) (by simp) 0 3 (af := a20) rfl ?_
    rw [a20, b20, run_eq]
    refine ⟨by simp, ?_⟩
    by_cases h1 : t < 0
    · simp (implicitDefEqProofs := false) [forms54, a54, b54, forms46, a46, b46, h1]
      refine ends_plan [] [0] ?_ ?_ ?_ <;> simp
    · simp (implicitDefEqProofs := false) [forms54, a54, b54, forms46, a46, b46, h1, ht' h1]
      refine ends_plan [] [0] ?_ ?_ ?_ <;> simp
  | some th =>
    obtain ⟨hth, rfl⟩ := uthOf_some ht
    have hr : tattR s th = (match s.ts th with | some a => .tuple #[.int .i64 a.n, .bool true] | none => .tuple #[.int .i64 0, .bool false]) := by simp only [tattR, ht]; rfl
    rw [hr]
    refine Runs.openTEng hth ?_
    have z1 : ¬ (th : Int) < 0 := by omega
    have z2 : ¬ 4 ≤ (th : Int) := by omega
    have z3 : (th : Int) < 4 := by omega
    have gt : ∀ a b q ts x y, (tengC a b th q ts x y)[2 + th]? = some q := fun a b q ts x y => tengC_t a b hth q ts x y
    have gg : ∀ a b q ts x y (h : 2 + th < (tengC a b th q ts x y).length), (tengC a b th q ts x y)[2 + th]'h = q := fun a b q ts x y h => tengC_gt a b hth q ts x y h
    cases ha : s.ts th with
    | none =>
      simp only
      refine runs_by (tbl := []) (by simp) 0 3 (af := a20) rfl ?_
      rw [a20, b20, run_eq]
      refine ⟨by simp, ?_⟩
      simp (implicitDefEqProofs := false) [tengL, forms54, a54, b54, forms46, a46, b46, z1, z2, z3, gt, gg, ha, teptr_some, teptr_none]
      rcases tth_cases hth with rfl | rfl | rfl | rfl
      · refine ends_plan [.pack (GD.teng s) 0 [1, 2, 3, 4, 5, 6, 7, 8]] [0] ?_ ?_ ?_ <;> simp [frag_teng, ha, tengC, tps, teptr_some, teptr_none, u1, u2, u3]
      · refine ends_plan [.pack (GD.teng s) 0 [1, 2, 3, 4, 6, 5, 7, 8]] [0] ?_ ?_ ?_ <;> simp [frag_teng, ha, tengC, tps, teptr_some, teptr_none, u1, u2, u3]
      · refine ends_plan [.pack (GD.teng s) 0 [1, 2, 3, 4, 6, 7, 5, 8]] [0] ?_ ?_ ?_ <;> simp [frag_teng, ha, tengC, tps, teptr_some, teptr_none, u1, u2, u3]
      · refine ends_plan [.pack (GD.teng s) 0 [1, 2, 3, 4, 6, 7, 8, 5]] [0] ?_ ?_ ?_ <;> simp [frag_teng, ha, tengC, tps, teptr_some, teptr_none, u1, u2, u3]
    | some a =>
      simp only
      refine runs_by (tbl := []) (by simp) 0 3 (af := a20) rfl ?_
      rw [a20, b20, run_eq]
      refine ⟨by simp, ?_⟩
      simp (implicitDefEqProofs := false) [tengL, forms54, a54, b54, forms46, a46, b46, forms51, a51, b51, z1, z2, z3, gt, gg, ha, teptr_some, teptr_none, tslotO_some, frag_tatt]
      rcases tth_cases hth with rfl | rfl | rfl | rfl
      · refine ends_plan [.pack (GD.tatt a) 5 [9, 10], .pack (GD.teng s) 0 [1, 2, 3, 4, 5, 6, 7, 8]] [0] ?_ ?_ ?_ <;> simp [frag_tatt, frag_teng, ha, tslotO_some, tengC, tps, teptr_some, teptr_none, u1, u2, u3]
      · refine ends_plan [.pack (GD.tatt a) 5 [9, 10], .pack (GD.teng s) 0 [1, 2, 3, 4, 6, 5, 7, 8]] [0] ?_ ?_ ?_ <;> simp [frag_tatt, frag_teng, ha, tslotO_some, tengC, tps, teptr_some, teptr_none, u1, u2, u3]
      · refine ends_plan [.pack (GD.tatt a) 5 [9, 10], .pack (GD.teng s) 0 [1, 2, 3, 4, 6, 7, 5, 8]] [0] ?_ ?_ ?_ <;> simp [frag_tatt, frag_teng, ha, tslotO_some, tengC, tps, teptr_some, teptr_none, u1, u2, u3]
      · refine ends_plan [.pack (GD.tatt a) 5 [9, 10], .pack (GD.teng s) 0 [1, 2, 3, 4, 6, 7, 8, 5]] [0] ?_ ?_ ?_ <;> simp [frag_tatt, frag_teng, ha, tslotO_some, tengC, tps, teptr_some, teptr_none, u1, u2, u3]
def d20 : DStep
  | .teng s, [.int .i64 t] => some (True, tattR s t, .teng s)
  | _, _ => none
theorem st20_ok : CStepOk Tryz.prog cfg 20 (dataSt d20) := data_ok fun d rest p v d' h hp => by
  unfold d20 at h
  split at h
  · cases h; exact ⟨rfl, by unfold tattR; split <;> rfl, runs20 _ _⟩
  · cases h
theorem runs21 (s : TS) (hs : s.Ok) : Runs Tryz.prog cfg 21 [.pointer (some ⟨0, 0, none⟩)] (AH.of [some (.hi (.teng s))])
    fun r H' => r = .ret (.slice (some ⟨1, 0, none⟩) s.hp.length 1) ∧ H' = AH.of [some (.hi (.teng s)), some (.arr 30 (us s.hp))] := by
  refine Runs.ends ?_
  refine Runs.openTEng (th := 0) (by omega) ?_
  have hl : s.hp.length ≤ 1000000 := by have := hs.hp.2; omega
  refine runs_by (tbl := tblUo) tblUo_ok 0 3 (af := a21) rfl ?_
  rw [a21, b21, run_eq]
  refine ⟨by simp, ?_⟩
  simp (implicitDefEqProofs := false) [tengL, tengC_0, tengC_1, tengC_6, tengC_7, tengC_g0, tengC_g1, tengC_g6, tengC_g7, tengC_len, tblUo, st45, hl]
  refine ends_plan [.pack (GD.teng s) 0 [1, 2, 3, 4, 5, 6, 7, 8]] [0, 9] ?_ ?_ ?_ <;> simp [frag_teng, tengC, tps, u1, u2, u3]
def st21 : CStep GD := fun args H => match args with
  | [.pointer (some ⟨k, 0, none⟩)] => match H.get k with
    | some (.hi (.teng s)) => some (s.Ok, .ret (.slice (some ⟨H.next, 0, none⟩) s.hp.length 1), H.add (.arr 30 (us s.hp)))
    | _ => none
  | _ => none
theorem st21_ok : CStepOk Tryz.prog cfg 21 st21 := by
  intro args H p r H' h hp
  unfold st21 at h
  split at h
  case h_2 => cases h
  split at h
  case h_2 => cases h
  rename_i k x s hk
  cases h
  exact (runs21 s hp).atK (ro_none rfl) [k] (by simp) (by simp) (by simp [hk]) (by simp) (by simp) (by simp [upd_get hk])
theorem runs29 (s : TS) (hl : s.ev.length ≤ 1000000) : Runs Tryz.prog cfg 29 [.pointer (some ⟨0, 0, none⟩)] (AH.of [some (.hi (.teng s))])
    fun r H' => r = .ret (.slice (some ⟨1, 0, none⟩) s.ev.length 1) ∧ H' = AH.of [some (.hi (.teng s)), some (.arr 121 (evs s.ev))] := by
  refine Runs.ends ?_
  refine Runs.openTEng (th := 0) (by omega) ?_
  refine runs_by (tbl := tblUo) tblUo_ok 0 3 (af := a29) rfl ?_
  rw [a29, b29, run_eq]
  refine ⟨by simp, ?_⟩
  simp (implicitDefEqProofs := false) [tengL, tengC_0, tengC_1, tengC_6, tengC_7, tengC_g0, tengC_g1, tengC_g6, tengC_g7, tengC_len, tblUo, st64, hl]
  refine ends_plan [.pack (GD.teng s) 0 [1, 2, 3, 4, 5, 6, 7, 8]] [0, 9] ?_ ?_ ?_ <;> simp [frag_teng, tengC, tps, u1, u2, u3]
def st29 : CStep GD := fun args H => match args with
  | [.pointer (some ⟨k, 0, none⟩)] => match H.get k with
    | some (.hi (.teng s)) => some (s.ev.length ≤ 1000000, .ret (.slice (some ⟨H.next, 0, none⟩) s.ev.length 1), H.add (.arr 121 (evs s.ev)))
    | _ => none
  | _ => none
theorem st29_ok : CStepOk Tryz.prog cfg 29 st29 := by
  intro args H p r H' h hp
  unfold st29 at h
  split at h
  case h_2 => cases h
  split at h
  case h_2 => cases h
  rename_i k x s hk
  cases h
  exact (runs29 s hp).atK (ro_none rfl) [k] (by simp) (by simp) (by simp [hk]) (by simp) (by simp) (by simp [upd_get hk])
end YtapbabkndhaemaaGreat
end Go.Proofs
/-
  TL2: New, deeds, live, alone. (Printed by tools/genue.py.)
-/
namespace Go.Proofs
namespace YtapbabkndhaemaaGreat
open Go.Abs
def newTS (h : List Int) (m : Nat) : TS := ⟨newL m, 0, h, fun _ => none, [], []⟩
def tblNt : List (FuncId × CStep GD) := [(45, st45), (43, st43), (41, st41)]
theorem tblNt_ok : ∀ x ∈ tblNt, CStepOk Tryz.prog cfg x.1 x.2 := by simp [tblNt, st45_ok, st43_ok, st41_ok]
theorem fates_nil : fates [] = [] := rfl
set_option maxHeartbeats 4000000 in
theorem truns_new_yes (h : List Int) (tg m : Nat) (hm : 1 ≤ m ∧ m ≤ 8) (h1 : 1 ≤ h.length ∧ h.length ≤ 12) (hr : ∀ v ∈ h, rightB v = true) : Runs Tryz.prog cfg 10 [.slice (some ⟨0, 0, none⟩) h.length tg, .int .i64 m] (AH.of [some (.ro (us h))])
    fun r H' => r = .ret (.pointer (some ⟨1, 0, none⟩)) ∧ H' = AH.of [some (.ro (us h)), some (.hi (.teng (newTS h m)))] := by
  refine Runs.ends ?_
  obtain ⟨n, hn⟩ : ∃ n, h.length = n := ⟨_, rfl⟩
  have z1 : ¬ (n : Int) < 1 := by omega
  have z2 : ¬ (12 : Int) < n := by omega
  have hl : n ≤ 1000000 := by omega
  have hm1 : (1 : Int) ≤ m := by omega
  have hm2 : (m : Int) ≤ 8 := by omega
  rw [hn]
  refine runs_by (tbl := tblNt) tblNt_ok 13 4 (af := a10) rfl ?_
  rw [a10, b10, run_eq]
  refine ⟨by simp, ?_⟩
  simp (implicitDefEqProofs := false) [tblNt, st41, forms44, a44, b44, forms105, a105, b105, z1, z2, hm1, hm2]
  refine loop_inv (sg_mono gX_ok (tabS_ok tblNt_ok) _ _ noY noY_mono) (fun mm tm H => ∃ i : Nat, mm + i = n ∧ tm 0 = .slice (some ⟨0, 0, none⟩) n tg ∧ tm 1 = .func (.func 42) #[] #[] ∧ tm 7 = .int .i64 n ∧ tm 8 = .int .i64 i ∧ H = AH.of [some (.ro (us h)), some (.hi (.tab (newL m) 0))]) (m := n) ⟨0, by simp⟩ (by omega) ?_
  rintro mm tm H ⟨i, hmm, t0, t1, t7, t8, rfl⟩
  by_cases hi : i < n
  · obtain ⟨x, hx⟩ : ∃ x, h[i]? = some x := ⟨h[i]'(by omega), List.getElem?_eq_getElem (by omega)⟩
    have hi' : (i : Int) < n := by omega
    have hwr := inc_i64 hi (by omega)
    have ux := us_at hx
    have hrx := hr x (List.mem_of_getElem? hx)
    simp (implicitDefEqProofs := false) [tblNt, st43, forms42, a42, b42, t0, t1, t7, t8, hi, hi', ux, hrx, hwr]
    exact ⟨mm - 1, by omega, i + 1, by omega, by omega⟩
  · have hie : i = n := by omega
    subst hie
    simp (implicitDefEqProofs := false) [tblNt, st45, t0, t1, t7, t8, hn, hl]
    refine ends_plan [.nil 121, .nil 100, .nil 98, .nil 98, .nil 98, .nil 98, .pack (GD.teng (newTS h m)) 3 [1, 2, 4, 5, 6, 7, 8, 9]] [0, 3] ?_ ?_ ?_ <;> simp [frag_teng, newTS, tslotO_none, teptr_none, evs_nil, fates_nil, us_nil, hn]
def st10 : CStep GD := fun args H => match args with
  | [.slice (some ⟨k, 0, none⟩) n _, .int .i64 m] => match H.get k with
    | some (.arr _ cs) => (asUs cs).map fun l => (n = l.length ∧ k < H.next ∧ 1 ≤ l.length ∧ l.length ≤ 12 ∧ (∀ v ∈ l, rightB v = true) ∧ 1 ≤ m ∧ m ≤ 8, .ret (.pointer (some ⟨H.next, 0, none⟩)), H.add (.hi (.teng (newTS l m.toNat))))
    | _ => none
  | _ => none
theorem st10_ok : CStepOk Tryz.prog cfg 10 st10 := by
  intro args H p r H' h hp
  unfold st10 at h
  split at h
  case h_2 => cases h
  split at h
  case h_2 => cases h
  simp only [Option.map_eq_some_iff] at h
  obtain ⟨l, hl, h⟩ := h
  rename_i k n tg m x e cs hk
  cases h
  obtain ⟨h1, hkn, h2, h3, h4, h5, h6⟩ := hp
  obtain ⟨m, rfl⟩ := Int.eq_ofNat_of_zero_le (show 0 ≤ m by omega)
  rw [Int.toNat_natCast]
  rw [asUs_inv hl] at hk
  rw [h1]
  refine Runs.borrow k hk ?_
  have hk2 : (H.upd k (.ro (us l))).get k = some (.ro (us l)) := by rw [AH.get_upd, if_pos rfl]
  have hr := (truns_new_yes l tg m ⟨by omega, by omega⟩ ⟨h2, h3⟩ h4).atK (H := H.upd k (.ro (us l))) (args := [.slice (some ⟨k, 0, none⟩) l.length tg, .int .i64 m]) (r' := .ret (.pointer (some ⟨H.next, 0, none⟩))) (H' := (H.upd k (.ro (us l))).add (.hi (.teng (newTS l m)))) (ro_same fun i cs hi => by rcases i with _ | _ | i <;> simp at hi ⊢; exact hi) [k] (by simp) (by simp) (by simp [hk2]) (by simp) (by simp) (by simp [upd_get hk2])
  refine hr.mono ?_
  rintro r H' ⟨e1, rfl⟩
  refine ⟨by rw [AH.get_add, AH.next_upd, if_neg (by omega), AH.get_upd, if_pos rfl], fun j cs2 hj hcs hne => ⟨cs2, ?_, hne⟩, e1, ?_⟩
  · rw [AH.get_add, AH.next_upd] at hcs
    split at hcs
    · cases hcs
    · rw [AH.get_upd, if_neg hj] at hcs; exact hcs
  · refine AH.ext' (by simp) fun j => ?_
    rw [AH.get_upd, AH.get_add, AH.get_add, AH.next_upd, AH.get_upd]
    by_cases h : j = k
    · subst h; rw [if_pos rfl, if_neg (by omega), hk]
    · rw [if_neg h, if_neg h]
theorem newTS_ok {h : List Int} {m : Nat} (hm : 1 ≤ m ∧ m ≤ 8) (h1 : 1 ≤ h.length ∧ h.length ≤ 12) (h2 : ∀ v ∈ h, 0 ≤ v ∧ v < 18446744073709551616) : (newTS h m).Ok where
  hp := h1
  hv := h2
  tab := GoodT.new hm.1 hm.2
  ft := by simp [newTS]
  ts := fun th a h => by cases h
  lk := fun th a h => by cases h
  no := fun th _ => by
    rw [held_nil (by omega)]
    intro i hi
    unfold ownN newTS newL at hi
    simp only at hi
    split at hi
    · rename_i w hw
      have := List.mem_of_getElem? hw
      rw [List.mem_replicate] at this
      rw [this.2] at hi
      unfold wOwn at hi
      simp at hi <;> omega
    · omega
  th4 := fun _ _ => rfl
theorem tfirstV_ok : (newTS firstV 3).Ok := newTS_ok ⟨by decide, by decide⟩ ⟨by decide, by decide⟩ (by decide)
theorem tok_beginX {s : TS} (hs : s.Ok) (t : Int) : (tbeginX s t).Ok := by
  unfold tbeginX
  split
  · exact hs
  · rename_i th ht
    split
    · exact hs.begin (uthOf_some ht).1 (by assumption)
    · exact hs
theorem tok_askX {s : TS} (hs : s.Ok) (t : Int) {x : Ak} (hk : 0 ≤ x.k) (hv : 0 ≤ x.v ∧ x.v < 18446744073709551616) : (taskX s t x).Ok := by
  unfold taskX
  split
  · exact hs
  · rename_i th ht
    split
    · exact hs.ask (uthOf_some ht).1 hk hv (by assumption)
    · exact hs
theorem tok_stepX {s : TS} (hs : s.Ok) (t : Int) : (tstepX s t).Ok := by
  unfold tstepX
  split
  · exact hs
  · rename_i th ht
    exact hs.step (uthOf_some ht).1
theorem tok_killX {s : TS} (hs : s.Ok) (t : Int) : (tkillX s t).Ok := by
  unfold tkillX
  split
  · exact hs
  · rename_i th ht
    exact hs.kill (uthOf_some ht).1
theorem tev_beginX (s : TS) (t : Int) : (tbeginX s t).ev.length ≤ s.ev.length + 1 := by
  unfold tbeginX
  split
  · omega
  · split
    · simp [tbeginS]
    · omega
theorem tev_askX (s : TS) (t : Int) (x : Ak) : (taskX s t x).ev = s.ev := by
  unfold taskX
  split
  · rfl
  · split
    · unfold taskS; split <;> rfl
    · rfl
theorem tev_step (s : TS) (th : Nat) : (tstepS s th).2.ev.length ≤ s.ev.length + 2 := by
  unfold tstepS
  split
  · simp only; omega
  · rename_i a ha
    split
    · simp only; omega
    split
    · unfold treadS
      repeat' split
      all_goals simp [tendS, tputA, tgotS]
    split
    · unfold tgoOnS tlockS tcheckS
      repeat' split
      all_goals simp [tendS, tputA, tcommitS]
    split
    · simp [tendS]
    · unfold tturnS
      repeat' split
      all_goals simp [tendS]
theorem tev_stepX (s : TS) (t : Int) : (tstepX s t).ev.length ≤ s.ev.length + 2 := by
  unfold tstepX
  split
  · omega
  · exact tev_step s _
theorem tev_killX (s : TS) (t : Int) : (tkillX s t).ev.length ≤ s.ev.length + 1 := by
  unfold tkillX
  split
  · omega
  · unfold tkillS
    split
    · omega
    · split
      · omega
      · simp [tendS]
def tdeedS (s : TS) (d : Dd) : TS :=
  if d.k = 0 then tbeginX s d.t else if d.k = 1 then taskX s d.t d.a else if d.k = 2 then tstepX s d.t else if d.k = 3 then tkillX s d.t else s
theorem tok_deed {s : TS} (hs : s.Ok) {d : Dd} (hd : d.Ok) : (tdeedS s d).Ok := by
  unfold tdeedS
  split
  · exact tok_beginX hs _
  split
  · exact tok_askX hs _ hd.1.1 hd.2
  split
  · exact tok_stepX hs _
  split
  · exact tok_killX hs _
  · exact hs
theorem tev_deed (s : TS) (d : Dd) : (tdeedS s d).ev.length ≤ s.ev.length + 2 := by
  unfold tdeedS
  split
  · have := tev_beginX s d.t; omega
  split
  · rw [tev_askX]; omega
  split
  · exact tev_stepX s d.t
  split
  · have := tev_killX s d.t; omega
  · omega
def tplayS (l : List Dd) : TS := l.foldl tdeedS (newTS firstV 3)
theorem tplayS_succ {l : List Dd} {i : Nat} {x : Dd} (h : l[i]? = some x) : tplayS (l.take (i + 1)) = tdeedS (tplayS (l.take i)) x := by
  unfold tplayS
  rw [List.take_add_one, h, List.foldl_append]
  rfl
theorem tplayS_ok (l : List Dd) (hl : ∀ d ∈ l, d.Ok) : (tplayS l).Ok ∧ (tplayS l).ev.length ≤ 2 * l.length := by
  have key : ∀ (l : List Dd) (s : TS), (∀ d ∈ l, d.Ok) → s.Ok → (l.foldl tdeedS s).Ok ∧ (l.foldl tdeedS s).ev.length ≤ s.ev.length + 2 * l.length := by
    intro l
    induction l with
    | nil => intro s _ h; exact ⟨h, by simp⟩
    | cons d l ih =>
      intro s hd hs
      have h1 := ih (tdeedS s d) (fun x hx => hd x (by simp [hx])) (tok_deed hs (hd d (by simp)))
      have h2 := tev_deed s d
      refine ⟨h1.1, ?_⟩
      have h3 := h1.2
      simp only [List.foldl_cons, List.length_cons]
      omega
  have := key l (newTS firstV 3) hl tfirstV_ok
  refine ⟨this.1, ?_⟩
  have h2 := this.2
  have h0 : (newTS firstV 3).ev.length = 0 := rfl
  unfold tplayS
  omega
theorem truns_first (H : AH GD) : Runs Tryz.prog cfg 11 [] H fun r H' => r = .ret (.slice (some ⟨H.next, 0, none⟩) 5 1) ∧ H' = H.add (.arr 30 (us firstV)) := by
  have h0 : Runs Tryz.prog cfg 11 [] (AH.of []) fun r H' => r = .ret (.slice (some ⟨0, 0, none⟩) 5 1) ∧ H' = AH.of [some (.arr 30 (us firstV))] := by
    refine Runs.ends ?_
    refine runs_by (tbl := []) (by simp) 0 0 (af := a11) rfl ?_
    rw [a11, b11, run_eq]
    refine ⟨by simp, ?_⟩
    simp (implicitDefEqProofs := false)
    refine ends_plan [] [0] ?_ ?_ ?_ <;> simp [us, firstV]
  exact h0.atK (ro_none rfl) [] (by simp) (by simp) trivial (by simp) (by simp) (by simp)
def st11 : CStep GD := fun args H => match args with
  | [] => some (True, .ret (.slice (some ⟨H.next, 0, none⟩) 5 1), H.add (.arr 30 (us firstV)))
  | _ => none
theorem st11_ok : CStepOk Tryz.prog cfg 11 st11 := by
  intro args H p r H' h hp
  unfold st11 at h
  split at h
  case h_2 => cases h
  cases h
  exact truns_first H
def ttblL : List (FuncId × CStep GD) := [(11, st11), (10, st10), (13, dataSt d13), (14, dataSt d14), (15, dataSt d15), (29, st29)]
theorem ttblL_ok : ∀ x ∈ ttblL, CStepOk Tryz.prog cfg x.1 x.2 := by simp [ttblL, st11_ok, st10_ok, st13_ok, st14_ok, st15_ok, st29_ok]
def tlv1 : TS := tbeginX (newTS firstV 3) 1
def tlv2 : TS := taskX tlv1 1 ⟨1, 1, 0⟩
def tlv3 : TS := tstepX tlv2 1
def tlv4 : TS := tstepX tlv3 1
def tlv5 : TS := tstepX tlv4 1
def tlv6 : TS := taskX tlv5 1 ⟨6, 0, 0⟩
def tlv7 : TS := tstepX tlv6 1
theorem tlv1_ok : tlv1.Ok ∧ tlv1.ev.length ≤ 100000 := ⟨tok_beginX tfirstV_ok 1, by decide +kernel⟩
theorem tlv2_ok : tlv2.Ok ∧ tlv2.ev.length ≤ 100000 := ⟨tok_askX tlv1_ok.1 1 (by decide) (by decide), by decide +kernel⟩
theorem tlv3_ok : tlv3.Ok ∧ tlv3.ev.length ≤ 100000 := ⟨tok_stepX tlv2_ok.1 1, by decide +kernel⟩
theorem tlv4_ok : tlv4.Ok ∧ tlv4.ev.length ≤ 100000 := ⟨tok_stepX tlv3_ok.1 1, by decide +kernel⟩
theorem tlv5_ok : tlv5.Ok ∧ tlv5.ev.length ≤ 100000 := ⟨tok_stepX tlv4_ok.1 1, by decide +kernel⟩
theorem tlv6_ok : tlv6.Ok ∧ tlv6.ev.length ≤ 100000 := ⟨tok_askX tlv5_ok.1 1 (by decide) (by decide), by decide +kernel⟩
theorem tlv_b : tbeginR (newTS firstV 3) 1 = .tuple #[.int .i64 0, .int .i64 0] := rfl
theorem tlv_a1 : taskR tlv1 1 ⟨1, 1, 0⟩ = 0 := by decide +kernel
theorem tlv_a2 : taskR tlv5 1 ⟨6, 0, 0⟩ = 0 := by decide +kernel
theorem tlv_s2 : tstepR tlv4 1 = rpDone 4607182418800017408 := by decide +kernel
theorem tlv_s3 : tstepR tlv6 1 = rpEnd 0 := by decide +kernel
theorem tlv_e : tlv7.ev.length = 4 := by decide +kernel
theorem tlv_e' : tlv7.ev.length ≤ 1000000 := by rw [tlv_e]; decide
set_option maxRecDepth 10000 in
set_option maxHeartbeats 4000000 in
theorem runs12 : Runs Tryz.prog cfg 12 [] (AH.of []) fun r H' => r = .ret (.bool true) ∧ H' = AH.of [] := by
  refine Runs.ends ?_
  have h1 := tfirstV_ok
  have h1e : (newTS firstV 3).ev.length ≤ 100000 := by decide
  have hr := firstV_right
  have e1 : tbeginX (newTS firstV 3) 1 = tlv1 := rfl
  have e2 : taskX tlv1 1 ⟨1, 1, 0⟩ = tlv2 := rfl
  have e3 : tstepX tlv2 1 = tlv3 := rfl
  have e4 : tstepX tlv3 1 = tlv4 := rfl
  have e5 : tstepX tlv4 1 = tlv5 := rfl
  have e6 : taskX tlv5 1 ⟨6, 0, 0⟩ = tlv6 := rfl
  have e7 : tstepX tlv6 1 = tlv7 := rfl
  refine runs_by (tbl := ttblL) ttblL_ok 0 0 (af := a12) rfl ?_
  rw [a12, b12, run_eq]
  refine ⟨by simp, ?_⟩
  simp (implicitDefEqProofs := false) [ttblL, st11, st10, dataSt, d13, d14, d15, st29, firstV_len, h1, h1e, hr, e1, e2, e3, e4, e5, e6, e7, tlv1_ok, tlv2_ok, tlv3_ok, tlv4_ok, tlv5_ok, tlv6_ok, tlv_e', tlv_b, tlv_a1, tlv_a2, tlv_s2, tlv_s3, tlv_e, Rp.v, Rp.cells, rpDone, rpEnd]
  refine ⟨hr, ends_plan [] [] ?_ ?_ ?_⟩ <;> simp
def st12 : CStep GD := fun args H => match args with
  | [] => some (True, .ret (.bool true), H)
  | _ => none
theorem st12_ok : CStepOk Tryz.prog cfg 12 st12 := by
  intro args H p r H' h hp
  unfold st12 at h
  split at h
  case h_2 => cases h
  cases h
  exact runs12.atK (ro_none rfl) [] (by simp) (by simp) trivial (by simp) (by simp) (by simp)
def ttblPl : List (FuncId × CStep GD) := [(11, st11), (10, st10), (13, dataSt d13), (14, dataSt d14), (15, dataSt d15), (22, dataSt d22)]
theorem ttblPl_ok : ∀ x ∈ ttblPl, CStepOk Tryz.prog cfg x.1 x.2 := by simp [ttblPl, st11_ok, st10_ok, st13_ok, st14_ok, st15_ok, st22_ok]
set_option maxRecDepth 10000 in
set_option maxHeartbeats 8000000 in
theorem runs16 (l : List Dd) (tg : Nat) (hl : ∀ d ∈ l, d.Ok) : Runs Tryz.prog cfg 16 [.slice (some ⟨0, 0, none⟩) l.length tg] (AH.of [some (.ro (dds l))])
    fun r H' => r = .ret (.pointer (some ⟨1, 0, none⟩)) ∧ H' = AH.of [some (.ro (dds l)), some (.hi (.teng (tplayS (l.take 120))))] := by
  refine Runs.ends ?_
  have hr := firstV_right
  refine runs_by (tbl := ttblPl) ttblPl_ok 121 0 (af := a16) rfl ?_
  rw [a16, b16, run_eq]
  refine ⟨by simp, ?_⟩
  simp (implicitDefEqProofs := false) [ttblPl, st11, st10, firstV_len, hr]
  refine ⟨hr, ?_⟩
  refine loop_view (sg_mono gX_ok (tabS_ok ttblPl_ok) _ _ noY noY_mono) (fun m tm H => ∃ i : Nat, m + i = 120 ∧ i ≤ l.length ∧ tm 0 = .slice (some ⟨0, 0, none⟩) l.length tg ∧ tm 3 = .pointer (some ⟨2, 0, none⟩) ∧ tm 4 = .int .i64 i ∧
    H = AH.of [some (.ro (dds l)), none, some (.hi (.teng (tplayS (l.take i))))]) (m := 120) ?_ (by omega) ?_
  · refine round_plan [] [0, 1, 2] [some (.ro (dds l)), none, some (.hi (.teng (tplayS (l.take 0))))] 120 (by omega) ?_ ?_ ⟨0, by omega, by omega, ?_, ?_, ?_, rfl⟩ <;> simp [tplayS]
  rintro m tm H ⟨i, hm, hil, t0, t3, t4, rfl⟩
  obtain ⟨s, hsd⟩ : ∃ s, tplayS (l.take i) = s := ⟨_, rfl⟩
  have hok := tplayS_ok (l.take i) fun d hd => hl d (List.mem_of_mem_take hd)
  rw [hsd] at hok ⊢
  have hs := hok.1
  have hev : s.ev.length ≤ 100000 := by
    have := hok.2; rw [List.length_take] at this; omega
  by_cases hi : i < l.length
  · have hi' : (i : Int) < l.length := by omega
    by_cases h120 : i < 120
    · have h120' : (i : Int) < 120 := by omega
      obtain ⟨x, hx⟩ : ∃ x, l[i]? = some x := ⟨l[i]'(by omega), List.getElem?_eq_getElem (by omega)⟩
      have hxo := hl x (List.mem_of_getElem? hx)
      have hsuc := tplayS_succ hx
      rw [hsd] at hsuc
      have cm := many_dds hx
      have hle : i * 5 + 5 ≤ (dds l).length := by rw [dds_length]; omega
      have hwr := inc_i64 h120 (by omega)
      have hak := hxo.1.1
      by_cases k0 : x.k = 0
      · have hS : tdeedS s x = tbeginX s x.t := by simp [tdeedS, k0]
        simp (implicitDefEqProofs := false) [ttblPl, dataSt, d13, t0, t3, t4, hi, hi', h120, h120', cm, hle, Dd.cells, k0, hwr]
        refine ⟨⟨hs, hev⟩, round_plan [] [0, 1, 2] [some (.ro (dds l)), none, some (.hi (.teng (tplayS (l.take (i + 1)))))] (m - 1) (by omega) ?_ ?_ ⟨i + 1, by omega, by omega, ?_, ?_, ?_, rfl⟩⟩ <;> simp [t0, t3, hsuc, hS]
      · by_cases k1 : x.k = 1
        · have hS : tdeedS s x = taskX s x.t x.a := by simp [tdeedS, k1]
          have hS2 : taskX s x.t ⟨x.a.k, x.a.t, x.a.v⟩ = taskX s x.t x.a := rfl
          simp (implicitDefEqProofs := false) [ttblPl, dataSt, d14, t0, t3, t4, hi, hi', h120, h120', cm, hle, Dd.cells, k0, k1, hwr, hS2]
          refine ⟨⟨hs, hak⟩, round_plan [] [0, 1, 2] [some (.ro (dds l)), none, some (.hi (.teng (tplayS (l.take (i + 1)))))] (m - 1) (by omega) ?_ ?_ ⟨i + 1, by omega, by omega, ?_, ?_, ?_, rfl⟩⟩ <;> simp [t0, t3, hsuc, hS]
        · by_cases k2 : x.k = 2
          · have hS : tdeedS s x = tstepX s x.t := by simp [tdeedS, k2]
            simp (implicitDefEqProofs := false) [ttblPl, dataSt, d15, t0, t3, t4, hi, hi', h120, h120', cm, hle, Dd.cells, k0, k1, k2, hwr]
            refine ⟨⟨hs, hev⟩, round_plan [] [0, 1, 2] [some (.ro (dds l)), none, some (.hi (.teng (tplayS (l.take (i + 1)))))] (m - 1) (by omega) ?_ ?_ ⟨i + 1, by omega, by omega, ?_, ?_, ?_, rfl⟩⟩ <;> simp [t0, t3, hsuc, hS]
          · by_cases k3 : x.k = 3
            · have hS : tdeedS s x = tkillX s x.t := by simp [tdeedS, k3]
              simp (implicitDefEqProofs := false) [ttblPl, dataSt, d22, t0, t3, t4, hi, hi', h120, h120', cm, hle, Dd.cells, k0, k1, k2, k3, hwr]
              refine ⟨⟨hs, hev⟩, round_plan [] [0, 1, 2] [some (.ro (dds l)), none, some (.hi (.teng (tplayS (l.take (i + 1)))))] (m - 1) (by omega) ?_ ?_ ⟨i + 1, by omega, by omega, ?_, ?_, ?_, rfl⟩⟩ <;> simp [t0, t3, hsuc, hS]
            · have hS : tdeedS s x = s := by simp [tdeedS, k0, k1, k2, k3]
              simp (implicitDefEqProofs := false) [t0, t3, t4, hi, hi', h120, h120', cm, hle, Dd.cells, k0, k1, k2, k3, hwr]
              refine round_plan [] [0, 1, 2] [some (.ro (dds l)), none, some (.hi (.teng (tplayS (l.take (i + 1)))))] (m - 1) (by omega) ?_ ?_ ⟨i + 1, by omega, by omega, ?_, ?_, ?_, rfl⟩ <;> simp [t0, t3, hsuc, hS]
    · have h120' : ¬ (i : Int) < 120 := by omega
      have he : i = 120 := by omega
      have hs2 : tplayS (l.take 120) = s := by rw [← he]; exact hsd
      simp (implicitDefEqProofs := false) [t0, t3, t4, hi, hi', h120, h120']
      refine ends_plan [] [0, 2] ?_ ?_ ?_ <;> simp [hs2]
  · have hi' : ¬ (i : Int) < l.length := by omega
    have hs2 : tplayS (l.take 120) = s := by
      rw [← hsd, List.take_of_length_le (by omega), List.take_of_length_le (by omega)]
    simp (implicitDefEqProofs := false) [t0, t3, t4, hi, hi']
    refine ends_plan [] [0, 2] ?_ ?_ ?_ <;> simp [hs2]
def st16 : CStep GD := fun args H => match args with
  | [.slice (some ⟨k, 0, none⟩) n _] => match H.get k with
    | some (.ro cs) => (asDds cs).map fun l => (n = l.length ∧ ∀ d ∈ l, d.Ok, .ret (.pointer (some ⟨H.next, 0, none⟩)), H.add (.hi (.teng (tplayS (l.take 120)))))
    | _ => none
  | _ => none
theorem st16_ok : CStepOk Tryz.prog cfg 16 st16 := by
  intro args H p r H' h hp
  unfold st16 at h
  split at h
  case h_2 => cases h
  split at h
  case h_2 => cases h
  simp only [Option.map_eq_some_iff] at h
  obtain ⟨l, hl, h⟩ := h
  rename_i k n tg x cs hk
  cases h
  rw [asDds_inv hl] at hk
  rw [hp.1]
  exact (runs16 l tg hp.2).atK (ro_same fun i cs hi => by rcases i with _ | _ | i <;> simp at hi ⊢; exact hi) [k] (by simp) (by simp) (by simp [hk]) (by simp) (by simp) (by simp [upd_get hk])
end YtapbabkndhaemaaGreat
end Go.Proofs
/-
  TL2: one thread alone.
-/
namespace Go.Proofs
namespace YtapbabkndhaemaaGreat
open Go.Abs
structure TSole (s : TS) (th : Nat) : Prop where
  ts : ∀ i, i ≠ th → s.ts i = none
  ver : ∀ a, s.ts th = some a → a.ph ≤ 2 → ∀ i : Nat, verT s.ws i ≤ a.rv
  sw : ∀ a, s.ts th = some a → a.ra.k = 1 → a.ss ≠ 0 → a.sw = wordTV s.ws (ofT s.ws a.ra.t)
end YtapbabkndhaemaaGreat
end Go.Proofs
/-
  TL2: Decided; who ended leaves nothing; the clock. (Printed by tools/genug.py.)
-/
namespace Go.Proofs
namespace YtapbabkndhaemaaGreat
open Go.Abs
def backT (k : Nat) (o : Option TA) : Option Nat → Value
  | some j => teptr j o
  | none => back (fun _ => none) (teptr k o)
theorem back_teptr (κ : Nat → Option Nat) (k : Nat) (o : Option TA) : back κ (teptr k o) = backT k o (κ k) := by
  cases o with
  | none => cases κ k <;> rfl
  | some a =>
    show backP 0 (κ k) = _
    cases κ k <;> rfl
def decO (s : TS) (i : Nat) : List Int := match s.ts i with
  | some a => if a.dec = true then [(a.n : Int)] else []
  | none => []
def decN (s : TS) : Nat → List Int
  | 0 => []
  | i + 1 => decN s i ++ decO s i
theorem decN_le (s : TS) : ∀ i, (decN s i).length ≤ i
  | 0 => by simp [decN]
  | i + 1 => by
    have := decN_le s i
    rw [decN, List.length_append]
    have : (decO s i).length ≤ 1 := by
      unfold decO
      split
      · split <;> simp
      · simp
    omega
theorem decN_mem {s : TS} {n : Int} : ∀ {i}, n ∈ decN s i ↔ ∃ th a, th < i ∧ s.ts th = some a ∧ a.dec = true ∧ n = (a.n : Int)
  | 0 => by simp [decN]
  | i + 1 => by
    rw [decN, List.mem_append, decN_mem]
    constructor
    · rintro (⟨th, a, h1, h2, h3, h4⟩ | h)
      · exact ⟨th, a, by omega, h2, h3, h4⟩
      · unfold decO at h
        split at h
        · rename_i a ha
          split at h
          · rename_i hd
            exact ⟨i, a, by omega, ha, hd, by simpa using h⟩
          · cases h
        · cases h
    · rintro ⟨th, a, h1, h2, h3, h4⟩
      by_cases e : th = i
      · subst e
        right
        unfold decO
        rw [h2]
        simp [h3, h4]
      · exact .inl ⟨th, a, by omega, h2, h3, h4⟩
set_option maxRecDepth 10000 in
set_option maxHeartbeats 8000000 in
theorem runs24 (s : TS) : Runs Tryz.prog cfg 24 [.pointer (some ⟨0, 0, none⟩)] (AH.of [some (.hi (.teng s))])
    fun r H' => r = .ret (.slice (some ⟨1, 0, none⟩) (decN s 4).length 1) ∧ H' = AH.of [some (.hi (.teng s)), some (.arr 3 (ints (sorted (decN s 4))))] := by
  refine Runs.ends ?_
  refine Runs.openTEng (th := 0) (by omega) ?_
  refine runs_by (tbl := tblUo) tblUo_ok 5 3 (af := a24) rfl ?_
  rw [a24, b24, run_eq]
  refine ⟨by simp, ?_⟩
  simp (implicitDefEqProofs := false) [tengL, tengC, tps, u1, u2, u3]
  refine loop_view (sg_mono gX_ok (tabS_ok tblUo_ok) _ _ noY noY_mono) (fun m tm H => ∃ i : Nat, m + i = 4 ∧ tm 0 = .pointer (some ⟨0, 0, none⟩) ∧ tm 11 = .agg #[teptr 5 (s.ts 0), teptr 6 (s.ts 1), teptr 7 (s.ts 2), teptr 8 (s.ts 3)] ∧ tm 12 = .int .i64 i ∧ tm 3 = .slice (some ⟨9, 0, none⟩) (decN s i).length 1 ∧ H = AH.of (tengL s 0 ++ [some (.arr 3 (ints (decN s i)))])) (m := 4) ?_ (by omega) ?_
  · refine round_wk [.nil 3] [0, 1, 2, 3, 4, 5, 6, 7, 8, 9] (tengL s 0 ++ [some (.arr 3 (ints []))]) [(3, .slice (some ⟨9, 0, none⟩) 0 1)] 4 (by omega) ?_ ?_ ?_ ⟨0, ?_⟩ <;> simp [tengL, tengC, tps, u1, u2, u3, decN, back_teptr, backT, show ints [] = [] from rfl]
  rintro m tm H ⟨i, hm, t0, t11, t12, t3, rfl⟩
  have hle := decN_le s i
  by_cases hi : i < 4
  · have hr3 : ((decN s i).length + 1) * 8 ≤ 140737488355328 ∧ (decN s i).length ≤ 9223372036854775806 := by omega
    have htk := take_ints (decN s i)
    have hil : (decN s i).length ≤ (ints (decN s i)).length := by rw [ints_length]; omega
    have hsuc : decN s (i + 1) = decN s i ++ decO s i := rfl
    have hi4 : i = 0 ∨ i = 1 ∨ i = 2 ∨ i = 3 := by omega
    rcases hi4 with rfl | rfl | rfl | rfl
    · have hwr : IntKind.i64.wrap (0 + 1) = 1 := by decide
      have hwr2 : IntKind.i64.wrap 1 = 1 := by decide
      generalize decN s 0 = out at *
      cases ha : s.ts 0 with
      | none =>
        have hd : decO s 0 = [] := by simp [decO, ha]
        rw [hd, List.append_nil] at hsuc
        simp (implicitDefEqProofs := false) [tengL, tengC, tps, u1, u2, u3, hwr, hwr2, t0, t11, t12, t3, ha, teptr_none]
        refine round_plan [] [0, 1, 2, 3, 4, 5, 6, 7, 8, 9] (tengL s 0 ++ [some (.arr 3 (ints (decN s 1)))]) (m - 1) (by omega) ?_ ?_ ⟨1, by omega, ?_⟩ <;> simp [tengL, tengC, tps, u1, u2, u3, back_teptr, backT, ha, teptr_none, t0, t11, t3, hsuc]
      | some a =>
        cases hdec : a.dec with
        | false =>
          have hd : decO s 0 = [] := by simp [decO, ha, hdec]
          rw [hd, List.append_nil] at hsuc
          simp (implicitDefEqProofs := false) [tengL, tengC, tps, u1, u2, u3, hwr, hwr2, t0, t11, t12, t3, ha, teptr_some, tslotO_some, frag_tatt, hdec]
          refine round_plan [.pack (GD.tatt a) 5 [10, 11]] [0, 1, 2, 3, 4, 5, 6, 7, 8, 9] (tengL s 0 ++ [some (.arr 3 (ints (decN s 1)))]) (m - 1) (by omega) ?_ ?_ ⟨1, by omega, ?_⟩ <;> simp [tengL, tengC, tps, u1, u2, u3, back_teptr, backT, ha, teptr_some, tslotO_some, frag_tatt, hdec, t0, t11, t3, hsuc]
        | true =>
          have hd : decO s 0 = [(a.n : Int)] := by simp [decO, ha, hdec]
          rw [hd] at hsuc
          simp (implicitDefEqProofs := false) [tengL, tengC, tps, u1, u2, u3, hwr, hwr2, t0, t11, t12, t3, ha, teptr_some, tslotO_some, frag_tatt, hdec, hr3, htk, hil]
          refine round_plan [.pack (GD.tatt a) 5 [10, 11]] [0, 1, 2, 3, 4, 5, 6, 7, 8, 13] (tengL s 0 ++ [some (.arr 3 (ints (decN s 1)))]) (m - 1) (by omega) ?_ ?_ ⟨1, by omega, ?_⟩ <;> simp [tengL, tengC, tps, u1, u2, u3, back_teptr, backT, ha, teptr_some, tslotO_some, frag_tatt, hdec, t0, t11, t3, hsuc, ints_append, ints_single]
    · have hwr : IntKind.i64.wrap (1 + 1) = 2 := by decide
      have hwr2 : IntKind.i64.wrap 2 = 2 := by decide
      generalize decN s 1 = out at *
      cases ha : s.ts 1 with
      | none =>
        have hd : decO s 1 = [] := by simp [decO, ha]
        rw [hd, List.append_nil] at hsuc
        simp (implicitDefEqProofs := false) [tengL, tengC, tps, u1, u2, u3, hwr, hwr2, t0, t11, t12, t3, ha, teptr_none]
        refine round_plan [] [0, 1, 2, 3, 4, 5, 6, 7, 8, 9] (tengL s 0 ++ [some (.arr 3 (ints (decN s 2)))]) (m - 1) (by omega) ?_ ?_ ⟨2, by omega, ?_⟩ <;> simp [tengL, tengC, tps, u1, u2, u3, back_teptr, backT, ha, teptr_none, t0, t11, t3, hsuc]
      | some a =>
        cases hdec : a.dec with
        | false =>
          have hd : decO s 1 = [] := by simp [decO, ha, hdec]
          rw [hd, List.append_nil] at hsuc
          simp (implicitDefEqProofs := false) [tengL, tengC, tps, u1, u2, u3, hwr, hwr2, t0, t11, t12, t3, ha, teptr_some, tslotO_some, frag_tatt, hdec]
          refine round_plan [.pack (GD.tatt a) 6 [10, 11]] [0, 1, 2, 3, 4, 5, 6, 7, 8, 9] (tengL s 0 ++ [some (.arr 3 (ints (decN s 2)))]) (m - 1) (by omega) ?_ ?_ ⟨2, by omega, ?_⟩ <;> simp [tengL, tengC, tps, u1, u2, u3, back_teptr, backT, ha, teptr_some, tslotO_some, frag_tatt, hdec, t0, t11, t3, hsuc]
        | true =>
          have hd : decO s 1 = [(a.n : Int)] := by simp [decO, ha, hdec]
          rw [hd] at hsuc
          simp (implicitDefEqProofs := false) [tengL, tengC, tps, u1, u2, u3, hwr, hwr2, t0, t11, t12, t3, ha, teptr_some, tslotO_some, frag_tatt, hdec, hr3, htk, hil]
          refine round_plan [.pack (GD.tatt a) 6 [10, 11]] [0, 1, 2, 3, 4, 5, 6, 7, 8, 13] (tengL s 0 ++ [some (.arr 3 (ints (decN s 2)))]) (m - 1) (by omega) ?_ ?_ ⟨2, by omega, ?_⟩ <;> simp [tengL, tengC, tps, u1, u2, u3, back_teptr, backT, ha, teptr_some, tslotO_some, frag_tatt, hdec, t0, t11, t3, hsuc, ints_append, ints_single]
    · have hwr : IntKind.i64.wrap (2 + 1) = 3 := by decide
      have hwr2 : IntKind.i64.wrap 3 = 3 := by decide
      generalize decN s 2 = out at *
      cases ha : s.ts 2 with
      | none =>
        have hd : decO s 2 = [] := by simp [decO, ha]
        rw [hd, List.append_nil] at hsuc
        simp (implicitDefEqProofs := false) [tengL, tengC, tps, u1, u2, u3, hwr, hwr2, t0, t11, t12, t3, ha, teptr_none]
        refine round_plan [] [0, 1, 2, 3, 4, 5, 6, 7, 8, 9] (tengL s 0 ++ [some (.arr 3 (ints (decN s 3)))]) (m - 1) (by omega) ?_ ?_ ⟨3, by omega, ?_⟩ <;> simp [tengL, tengC, tps, u1, u2, u3, back_teptr, backT, ha, teptr_none, t0, t11, t3, hsuc]
      | some a =>
        cases hdec : a.dec with
        | false =>
          have hd : decO s 2 = [] := by simp [decO, ha, hdec]
          rw [hd, List.append_nil] at hsuc
          simp (implicitDefEqProofs := false) [tengL, tengC, tps, u1, u2, u3, hwr, hwr2, t0, t11, t12, t3, ha, teptr_some, tslotO_some, frag_tatt, hdec]
          refine round_plan [.pack (GD.tatt a) 7 [10, 11]] [0, 1, 2, 3, 4, 5, 6, 7, 8, 9] (tengL s 0 ++ [some (.arr 3 (ints (decN s 3)))]) (m - 1) (by omega) ?_ ?_ ⟨3, by omega, ?_⟩ <;> simp [tengL, tengC, tps, u1, u2, u3, back_teptr, backT, ha, teptr_some, tslotO_some, frag_tatt, hdec, t0, t11, t3, hsuc]
        | true =>
          have hd : decO s 2 = [(a.n : Int)] := by simp [decO, ha, hdec]
          rw [hd] at hsuc
          simp (implicitDefEqProofs := false) [tengL, tengC, tps, u1, u2, u3, hwr, hwr2, t0, t11, t12, t3, ha, teptr_some, tslotO_some, frag_tatt, hdec, hr3, htk, hil]
          refine round_plan [.pack (GD.tatt a) 7 [10, 11]] [0, 1, 2, 3, 4, 5, 6, 7, 8, 13] (tengL s 0 ++ [some (.arr 3 (ints (decN s 3)))]) (m - 1) (by omega) ?_ ?_ ⟨3, by omega, ?_⟩ <;> simp [tengL, tengC, tps, u1, u2, u3, back_teptr, backT, ha, teptr_some, tslotO_some, frag_tatt, hdec, t0, t11, t3, hsuc, ints_append, ints_single]
    · have hwr : IntKind.i64.wrap (3 + 1) = 4 := by decide
      have hwr2 : IntKind.i64.wrap 4 = 4 := by decide
      generalize decN s 3 = out at *
      cases ha : s.ts 3 with
      | none =>
        have hd : decO s 3 = [] := by simp [decO, ha]
        rw [hd, List.append_nil] at hsuc
        simp (implicitDefEqProofs := false) [tengL, tengC, tps, u1, u2, u3, hwr, hwr2, t0, t11, t12, t3, ha, teptr_none]
        refine round_plan [] [0, 1, 2, 3, 4, 5, 6, 7, 8, 9] (tengL s 0 ++ [some (.arr 3 (ints (decN s 4)))]) (m - 1) (by omega) ?_ ?_ ⟨4, by omega, ?_⟩ <;> simp [tengL, tengC, tps, u1, u2, u3, back_teptr, backT, ha, teptr_none, t0, t11, t3, hsuc]
      | some a =>
        cases hdec : a.dec with
        | false =>
          have hd : decO s 3 = [] := by simp [decO, ha, hdec]
          rw [hd, List.append_nil] at hsuc
          simp (implicitDefEqProofs := false) [tengL, tengC, tps, u1, u2, u3, hwr, hwr2, t0, t11, t12, t3, ha, teptr_some, tslotO_some, frag_tatt, hdec]
          refine round_plan [.pack (GD.tatt a) 8 [10, 11]] [0, 1, 2, 3, 4, 5, 6, 7, 8, 9] (tengL s 0 ++ [some (.arr 3 (ints (decN s 4)))]) (m - 1) (by omega) ?_ ?_ ⟨4, by omega, ?_⟩ <;> simp [tengL, tengC, tps, u1, u2, u3, back_teptr, backT, ha, teptr_some, tslotO_some, frag_tatt, hdec, t0, t11, t3, hsuc]
        | true =>
          have hd : decO s 3 = [(a.n : Int)] := by simp [decO, ha, hdec]
          rw [hd] at hsuc
          simp (implicitDefEqProofs := false) [tengL, tengC, tps, u1, u2, u3, hwr, hwr2, t0, t11, t12, t3, ha, teptr_some, tslotO_some, frag_tatt, hdec, hr3, htk, hil]
          refine round_plan [.pack (GD.tatt a) 8 [10, 11]] [0, 1, 2, 3, 4, 5, 6, 7, 8, 13] (tengL s 0 ++ [some (.arr 3 (ints (decN s 4)))]) (m - 1) (by omega) ?_ ?_ ⟨4, by omega, ?_⟩ <;> simp [tengL, tengC, tps, u1, u2, u3, back_teptr, backT, ha, teptr_some, tslotO_some, frag_tatt, hdec, t0, t11, t3, hsuc, ints_append, ints_single]
  · have hie : i = 4 := by omega
    subst hie
    have hb : (decN s 4).length ≤ 1000000 := by omega
    simp (implicitDefEqProofs := false) [tengL, tengC, tps, u1, u2, u3, tblUo, st57, sl0, getInts, t0, t11, t12, t3, hb]
    refine ends_plan [.pack (GD.teng s) 0 [1, 2, 3, 4, 5, 6, 7, 8]] [0, 9] ?_ ?_ ?_ <;> simp [frag_teng]
def st24 : CStep GD := fun args H => match args with
  | [.pointer (some ⟨k, 0, none⟩)] => match H.get k with
    | some (.hi (.teng s)) => some (True, .ret (.slice (some ⟨H.next, 0, none⟩) (decN s 4).length 1), H.add (.arr 3 (ints (sorted (decN s 4)))))
    | _ => none
  | _ => none
theorem st24_ok : CStepOk Tryz.prog cfg 24 st24 := by
  intro args H p r H' h hp
  unfold st24 at h
  split at h
  case h_2 => cases h
  split at h
  case h_2 => cases h
  rename_i k x s hk
  cases h
  exact (runs24 s).atK (ro_none rfl) [k] (by simp) (by simp) (by simp [hk]) (by simp) (by simp) (by simp [upd_get hk])
set_option maxHeartbeats 2000000 in
theorem runs23 (e : TypeId) (l : List Int) (tg : Nat) (x : Int) (hl : l.length ≤ 1000) : Runs Tryz.prog cfg 23 [.slice (some ⟨0, 0, none⟩) l.length tg, .int .i64 x] (AH.of [some (.arr e (ints l))])
    fun r H' => r = .ret (.bool (decide (x ∈ l))) ∧ H' = AH.of [some (.arr e (ints l))] := by
  refine Runs.ends ?_
  obtain ⟨n, hn⟩ : ∃ n, l.length = n := ⟨_, rfl⟩
  rw [hn]
  refine runs_by (tbl := []) (by simp) 1001 0 (af := a23) rfl ?_
  rw [a23, b23, run_eq]
  refine ⟨by simp, ?_⟩
  simp (implicitDefEqProofs := false)
  refine loop_inv (sg_mono gX_ok (tabS_ok (by simp)) _ _ noY noY_mono) (fun m tm H => ∃ i : Nat, m + i = n ∧ (∀ j y, j < i → l[j]? = some y → y ≠ x) ∧ tm 0 = .slice (some ⟨0, 0, none⟩) n tg ∧ tm 1 = .int .i64 x ∧ tm 5 = .int .i64 i ∧ H = AH.of [some (.arr e (ints l))]) (m := n) ⟨0, by simp⟩ (by omega) ?_
  rintro m tm H ⟨i, hm, hpre, t0, t1, t5, rfl⟩
  by_cases hi : i < n
  · obtain ⟨y, hy⟩ : ∃ y, l[i]? = some y := ⟨l[i]'(by omega), List.getElem?_eq_getElem (by omega)⟩
    have hi' : (i : Int) < n := by omega
    have hwr := inc_i64 hi (by omega)
    have uy := ints_at hy
    have gy := ints_get hy
    by_cases hxy : y = x
    · subst hxy
      have hin : y ∈ l := List.mem_of_getElem? hy
      simp (implicitDefEqProofs := false) [t0, t1, t5, hi, hi', uy, gy, hwr, hin]
      refine ends_plan [] [0] ?_ ?_ ?_ <;> simp
    · have hpre2 : ∀ j z, j < i + 1 → l[j]? = some z → z ≠ x := fun j z hj hz => by
        by_cases h : j = i
        · subst h; rw [hy] at hz; cases hz; exact hxy
        · exact hpre j z (by omega) hz
      simp (implicitDefEqProofs := false) [t0, t1, t5, hi, hi', uy, gy, hwr, hxy]
      exact ⟨m - 1, by omega, i + 1, by omega, hpre2, by omega⟩
  · have hin : x ∉ l := fun h => by
      obtain ⟨j, hj⟩ := List.getElem?_of_mem h
      have := (List.getElem?_eq_some_iff.1 hj).1
      exact hpre j x (by omega) hj rfl
    have hi' : ¬ (i : Int) < n := by omega
    simp (implicitDefEqProofs := false) [t0, t1, t5, hi', hin]
    refine ends_plan [] [0] ?_ ?_ ?_ <;> simp
def st23 : CStep GD := fun args H => match args with
  | [.slice (some ⟨k, 0, none⟩) n _, .int .i64 x] => match getInts H k with
    | some l => some (n = l.2.length ∧ l.2.length ≤ 1000, .ret (.bool (decide (x ∈ l.2))), H)
    | none => none
  | _ => none
theorem st23_ok : CStepOk Tryz.prog cfg 23 st23 := by
  intro args H p r H' h hp
  unfold st23 at h
  split at h
  case h_2 => cases h
  split at h
  case h_2 => cases h
  rename_i k n tg x _ l hl
  cases h
  rw [hp.1]
  exact (runs23 l.1 l.2 tg x hp.2).atK (ro_none rfl) [k] (by simp) (by simp) (by simp [getInts_inv hl]) (by simp) (by simp) (by simp [upd_get (getInts_inv hl)])
def tblUg : List (FuncId × CStep GD) := [(16, st16), (12, st12), (20, dataSt d20), (21, st21), (25, dataSt d25), (22, dataSt d22), (27, dataSt d27), (26, st26), (24, st24), (23, st23), (14, dataSt d14)]
theorem tblUg_ok : ∀ x ∈ tblUg, CStepOk Tryz.prog cfg x.1 x.2 := by simp [tblUg, st16_ok, st12_ok, st20_ok, st21_ok, st25_ok, st22_ok, st27_ok, st26_ok, st24_ok, st23_ok, st14_ok]
set_option maxRecDepth 10000 in
set_option maxHeartbeats 8000000 in
theorem runs5 (l : List Dd) (tg : Nat) (hl : ∀ d ∈ l, d.Ok) (th : Int) (h8 : 0 ≤ th ∧ th < 256) : Runs Tryz.prog cfg 5 [.slice (some ⟨0, 0, none⟩) l.length tg, .int .u8 th] (AH.of [some (.ro (dds l))])
    fun r H' => r = .ret (.bool true) ∧ H' = AH.of [some (.ro (dds l))] := by
  refine Runs.ends ?_
  obtain ⟨s, hsd⟩ : ∃ s, tplayS (l.take 120) = s := ⟨_, rfl⟩
  have hok := tplayS_ok (l.take 120) fun d hd => hl d (List.mem_of_mem_take hd)
  rw [hsd] at hok
  have hs := hok.1
  have hev : s.ev.length ≤ 100000 := by
    have := hok.2; rw [List.length_take] at this; omega
  obtain ⟨t, ht⟩ : ∃ t : Nat, t = th.toNat % 4 := ⟨_, rfl⟩
  have ht4 : t < 4 := by omega
  have hw : IntKind.i64.wrap th = th := wrap_i64 (by omega) (by omega)
  have hmod : th.tmod 4 = (t : Int) := by rw [Int.tmod_eq_emod_of_nonneg h8.1]; omega
  have hto : uthOf (t : Int) = some t := by
    unfold uthOf
    rw [if_neg (by omega)]; simp
  have hlen : s.hp.length ≤ 1000 := by have := hs.hp.2; omega
  have hdl := decN_le s 4
  have hdl2 : (decN s 4).length ≤ 1000 := by omega
  have hl2 : ∀ d ∈ l, d.Ok := hl
  cases ha : s.ts t with
  | none =>
    have hA : tattR s t = .tuple #[.int .i64 0, .bool false] := by simp [tattR, hto, ha]
    have hK : tkillR s t = 8 := by simp [tkillR, hto, tkillC, ha]
    have hX : tkillX s t = s := by simp [tkillX, hto, tkillS, ha]
    refine runs_by (tbl := tblUg) tblUg_ok 0 0 (af := a5) rfl ?_
    rw [a5, b5, run_eq]
    refine ⟨by simp, ?_⟩
    simp (implicitDefEqProofs := false) [tblUg, dataSt, st16, st12, hsd, d20, st21, d22, hw, hmod, hA, hK, hX, hs, hev]
    refine ⟨hl2, ends_plan [] [0] ?_ ?_ ?_⟩ <;> simp
  | some a =>
    have hA : tattR s t = .tuple #[.int .i64 a.n, .bool true] := by simp [tattR, hto, ha]
    cases hd : a.dec with
    | true =>
      have hK : tkillR s t = 8 := by simp [tkillR, hto, tkillC, ha, hd]
      have hX : tkillX s t = s := by simp [tkillX, hto, tkillS, ha, hd]
      have hin : ((a.n : Nat) : Int) ∈ sorted (decN s 4) := (sorted_perm _).mem_iff.2 (decN_mem.2 ⟨t, a, ht4, ha, hd, rfl⟩)
      refine runs_by (tbl := tblUg) tblUg_ok 0 0 (af := a5) rfl ?_
      rw [a5, b5, run_eq]
      refine ⟨by simp, ?_⟩
      simp (implicitDefEqProofs := false) [tblUg, dataSt, st16, st12, hsd, d20, st21, d22, st24, st23, hw, hmod, hA, hK, hX, hs, hev, hin, hdl2]
      refine ⟨hl2, ends_plan [] [0] ?_ ?_ ?_⟩ <;> simp
    | false =>
      have hK : tkillR s t = 0 := by simp [tkillR, hto, tkillC, ha, hd]
      obtain ⟨s2, hs2⟩ : ∃ s2, tkillX s t = s2 := ⟨_, rfl⟩
      have hE : s2 = tendS s t a 3 := by rw [← hs2]; simp [tkillX, hto, tkillS, ha, hd]
      have hok2 : s2.Ok := by rw [← hs2]; exact tok_killX hs t
      have hn2 : s2.ts t = none := by rw [hE]; simp [tendS, setU]
      have hA2 : tattR s2 t = .tuple #[.int .i64 0, .bool false] := by simp [tattR, hto, hn2]
      have ho2 : heldL s2.ws (t : Int) = [] := hok2.no t hn2
      have hhp : s2.hp = s.hp := by rw [hE]; rfl
      have hk2 : taskR s2 t ⟨6, 0, 0⟩ = 8 := by simp [taskR, hto, taskC, hn2]
      have hwy : twhyV s2 a.n = 3 := by
        have hn := (hs.ts t a ha).n
        have h0 : ¬ (a.n : Int) < 0 := by omega
        rw [hE]
        obtain ⟨f, hf⟩ : ∃ f, s.ft[a.n]? = some f := ⟨s.ft[a.n], List.getElem?_eq_getElem hn⟩
        simp [twhyV, tendS, h0, whyF, hf, hn]
      refine runs_by (tbl := tblUg) tblUg_ok 0 0 (af := a5) rfl ?_
      rw [a5, b5, run_eq]
      refine ⟨by simp, ?_⟩
      simp (implicitDefEqProofs := false) [tblUg, dataSt, st16, st12, hsd, d20, st21, d25, d22, d27, d14, st26, getArr, hw, hmod, hA, hK, hs2, hA2, ho2, hhp, hwy, hk2, hs, hok2, hev, hlen]
      refine ⟨hl2, ends_plan [] [0] ?_ ?_ ?_⟩ <;> simp
end YtapbabkndhaemaaGreat
end Go.Proofs
/-
  What the arguments of tl2's laws read as.
-/
namespace Go.Proofs
namespace YtapbabkndhaemaaGreat
open Go.Abs Go.ChangeShapes Go.WideShapes Go.ChangeAt Go.RowKit
set_option maxRecDepth 100000
theorem cells34 : Tryz.prog.cellsOf 34 = 5 := by kernel_rfl
theorem cells32 : Tryz.prog.cellsOf 32 = 3 := by kernel_rfl
theorem cells3 : Tryz.prog.cellsOf 3 = 1 := by kernel_rfl
def ltypes : List TypeId := [25, 22, 34, 32, 28, 30, 3, 29, 5]
theorem lclosed : closedB Tryz.prog ltypes = true := by kernel_rfl
section
variable {H : Type} {enc : TypeId × Value → H} {w : World}
theorem ask_cellsA {fuel : Nat} {cs : List Value} {y : DataW H × List MemPlace} (h : DataW.trod enc Tryz.prog w 0 (fun _ => true) true fuel 32 cs = some y) : ∃ e : Ak, cs = [.int .u8 e.k, .int .i64 e.t, .int .u64 e.v] ∧ (0 ≤ e.k ∧ e.k < 256) ∧ 0 ≤ e.v ∧ e.v < 18446744073709551616 := by
  obtain ⟨h1, h2⟩ := struct_cells Tryz.underlying32 (by kernel_rfl) h cells32
  obtain ⟨v0, n0, y0, g0, t0⟩ := h2 0 _ rfl
  obtain ⟨v1, n1, y1, g1, t1⟩ := h2 1 _ rfl
  obtain ⟨v2, n2, y2, g2, t2⟩ := h2 2 _ rfl
  obtain ⟨a, ha, _, hwa⟩ := DataW.trod_int Tryz.underlying28 t0
  obtain ⟨b, hb, _, _⟩ := DataW.trod_int Tryz.underlying3 t1
  obtain ⟨c, hc, _, hw⟩ := DataW.trod_int Tryz.underlying30 t2
  have h3 : cs.length = 3 := h1
  match cs, h3 with
  | [c0, c1, c2], _ =>
    simp only [List.getElem?_cons_zero, List.getElem?_cons_succ, Option.some.injEq] at g0 g1 g2
    cases g0; cases g1; cases g2
    cases ha; cases hb; cases hc
    exact ⟨⟨a, b, c⟩, rfl, wf_u8 hwa, wf_u64 hw⟩
theorem dd_cells {fuel : Nat} {cs : List Value} {y : DataW H × List MemPlace} (h : DataW.trod enc Tryz.prog w 0 (fun _ => true) true fuel 34 cs = some y) : ∃ e : Dd, cs = e.cells ∧ e.Ok := by
  obtain ⟨xs, n, _, _, h1, h2, h3⟩ := DataW.trod_struct Tryz.underlying34 h
  have hl : cs.length = 5 := by rw [h1, cells34]
  obtain ⟨c0, c1, c2, c3, c4, rfl⟩ : ∃ c0 c1 c2 c3 c4, cs = [c0, c1, c2, c3, c4] := by
    match cs, hl with
    | [c0, c1, c2, c3, c4], _ => exact ⟨c0, c1, c2, c3, c4, rfl⟩
  have f0 := h3 0 _ rfl
  have f1 := h3 1 _ rfl
  have f2 := h3 2 _ rfl
  have hx : xs.length = 3 := h2
  have e0 : xs[0]? = some xs[0] := List.getElem?_eq_getElem (by omega)
  have e1 : xs[1]? = some xs[1] := List.getElem?_eq_getElem (by omega)
  have e2 : xs[2]? = some xs[2] := List.getElem?_eq_getElem (by omega)
  change DataW.trod enc Tryz.prog w 0 (fun _ => true) true n 3 (([c0, c1, c2, c3, c4].drop 0).take (Tryz.prog.cellsOf 3)) = xs[0]? at f0
  change DataW.trod enc Tryz.prog w 0 (fun _ => true) true n 3 (([c0, c1, c2, c3, c4].drop 1).take (Tryz.prog.cellsOf 3)) = xs[1]? at f1
  change DataW.trod enc Tryz.prog w 0 (fun _ => true) true n 32 (([c0, c1, c2, c3, c4].drop 2).take (Tryz.prog.cellsOf 32)) = xs[2]? at f2
  rw [cells3, e0] at f0
  rw [cells3, e1] at f1
  rw [cells32, e2] at f2
  obtain ⟨a, ha, _, _⟩ := DataW.trod_int Tryz.underlying3 f0
  obtain ⟨b, hb, _, _⟩ := DataW.trod_int Tryz.underlying3 f1
  obtain ⟨x, hx, hxo⟩ := ask_cellsA f2
  have ha' : [c0] = [.int .i64 a] := ha
  have hb' : [c1] = [.int .i64 b] := hb
  have hx' : [c2, c3, c4] = [.int .u8 x.k, .int .i64 x.t, .int .u64 x.v] := hx
  cases ha'; cases hb'; cases hx'
  exact ⟨⟨a, b, x⟩, rfl, hxo⟩
theorem dds_one (l : List Dd) : (dds l).all (·.oneCell') = true := by
  induction l with
  | nil => rfl
  | cons e l ih => rw [dds_cons]; simpa [Value.oneCell'] using ih
theorem open_ndeeds {r : Reach} {b0 : Nat} {v : Value} {d : DataW H} {ps : List MemPlace} (hok : Value.okWide Tryz.prog w r b0 22 v) (hd : DataW.Trod enc Tryz.prog w 0 (fun _ => true) true 22 v d ps) :
    ∃ l : List Dd, (∀ e ∈ l, e.Ok) ∧ l.length ≤ maxLen ∧ ArgRow w v l.length (dds l) :=
  open_rows (ea := Dd.cells) Tryz.underlying22 (by rw [cells34]; omega) (fun x => cells34.symm) (fun _ _ _ h => dd_cells h) hok hd
theorem open_u8 {r : Reach} {b0 : Nat} {v : Value} {d : DataW H} {ps : List MemPlace} (hok : Value.okWide Tryz.prog w r b0 5 v) (hd : DataW.Trod enc Tryz.prog w 0 (fun _ => true) true 5 v d ps) : ∃ n : Int, v = .int .u8 n ∧ (0 ≤ n ∧ n < 256) := by
  obtain ⟨n, h1, h2⟩ := open_num Tryz.underlying5 hok hd
  exact ⟨n, h1, wf_u8 h2⟩
end
end YtapbabkndhaemaaGreat
end Go.Proofs
