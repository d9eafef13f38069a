/-
  Valid, Newest; live.
-/
import Derived.Test.YtlecfiofljigbaaR7
set_option linter.unusedSimpArgs false
set_option linter.unusedVariables false
set_option linter.unnecessarySimpa false
set_option linter.unusedSectionVars false
namespace Go.Proofs
namespace Ytlecfiofljigbaa
open Go.Abs
set_option linter.unusedSimpArgs false

def sl0 : Value → Option (Nat × Nat × Nat)
  | .slice (some ⟨k, 0, none⟩) n c => some (k, n, c)
  | _ => none
theorem sl0_eq (k n c : Nat) : sl0 (.slice (some ⟨k, 0, none⟩) n c) = some (k, n, c) := rfl
theorem sl0_inv {v : Value} {q : Nat × Nat × Nat} (h : sl0 v = some q) : v = .slice (some ⟨q.1, 0, none⟩) q.2.1 q.2.2 := by
  unfold sl0 at h
  split at h
  · cases h; rfl
  · cases h
def asUs : List Value → Option (List Int)
  | [] => some []
  | .int .u64 v :: l => (asUs l).map (v :: ·)
  | _ => none
theorem asUs_us : ∀ h : List Int, asUs (us h) = some h
  | [] => rfl
  | v :: h => by
    show (asUs (us h)).map (v :: ·) = _
    rw [asUs_us h]; rfl
theorem asUs_inv : ∀ {cs : List Value} {h : List Int}, asUs cs = some h → cs = us h
  | [], h, e => by cases e; rfl
  | v :: cs, h, e => by
    unfold asUs at e
    split at e
    · simp_all
    · rename_i v' l heq
      cases heq
      simp only [Option.map_eq_some_iff] at e
      obtain ⟨h', e1, rfl⟩ := e
      rw [asUs_inv e1]; rfl
    · cases e
attribute [simp] sl0_eq asUs_us asUs

/-- A row of words that nobody writes. -/
def getRo (H : AH RD) (k : Nat) : Option (List Int) :=
  match H.get k with
  | some (.ro cs) => asUs cs
  | _ => none
theorem getRo_inv {H : AH RD} {k : Nat} {h : List Int} (hg : getRo H k = some h) : H.get k = some (.ro (us h)) := by
  unfold getRo at hg
  split at hg
  · rename_i cs e; rw [e, asUs_inv hg]
  · cases hg
def getArr (H : AH RD) (k : Nat) : Option (TypeId × List Int) :=
  match H.get k with
  | some (.arr e cs) => (asUs cs).map fun h => (e, h)
  | _ => none
theorem getArr_inv {H : AH RD} {k : Nat} {x : TypeId × List Int} (hg : getArr H k = some x) : H.get k = some (.arr x.1 (us x.2)) := by
  unfold getArr at hg
  split at hg
  · rename_i e cs he
    simp only [Option.map_eq_some_iff] at hg
    obtain ⟨h, h1, rfl⟩ := hg
    rw [he, asUs_inv h1]
  · cases hg

def goodL (l : List Ent) : Prop := l.length ≤ 8 ∧ Uniq l ∧ ∀ e ∈ l, 0 ≤ e.t
def st23 : CStep RD := fun args H => match args with
  | [x, y] => (ptr0 x).bind fun k => (sl0 y).bind fun q => (getSet H k).bind fun s => (getRo H q.1).map fun h => (goodL s.2 ∧ q.2.1 = h.length ∧ k ≠ q.1, .ret (.tuple #[.int .i64 ((brk s.2 h).getD zeroE).t, .bool (brk s.2 h).isSome]), H)
  | _ => none
theorem st23_ok : CStepOk Try.prog cfg 23 st23 := by
  intro args H p r H' h hp
  unfold st23 at h
  split at h
  case h_2 => cases h
  simp only [Option.map_eq_some_iff, Option.bind_eq_some_iff] at h
  obtain ⟨k, hk, q, hq, s, hs, w, hw, h⟩ := h
  cases h
  obtain ⟨⟨h1, h2, h3⟩, h4, h5⟩ := hp
  rw [ptr0_inv hk, sl0_inv hq, h4]
  exact (runs23 s.1 q.2.2 s.2 w h1 h2 h3).atK (ro_same fun i cs hi => hi) [k, q.1] (by simp [h5]) (by simp) (by simp [getSet_inv hs, getRo_inv hw, ren_us]) (by simp) (by simp) (by simp [ren_us, upd_get (getSet_inv hs), upd_get (getRo_inv hw)])

def tbl8 : List (FuncId × CStep RD) := [(23, st23)]
theorem tbl8_ok : ∀ x ∈ tbl8, CStepOk Try.prog cfg x.1 x.2 := by simp [tbl8, st23_ok]
theorem runs12 (c tg : Nat) (l : List Ent) (h : List Int) (hg : goodL l) : Runs Try.prog cfg 12 [.pointer (some ⟨0, 0, none⟩), .slice (some ⟨1, 0, none⟩) h.length tg] (AH.of [some (.hi (.set c l)), some (.ro (us h))])
    fun r H' => r = .ret (.bool (brk l h).isNone) ∧ H' = AH.of [some (.hi (.set c l)), some (.ro (us h))] := by
  refine runs_by (tbl := tbl8) tbl8_ok 0 0 (af := a12) rfl ?_
  rw [a12, b12, run_eq]
  refine ⟨by simp, ?_⟩
  simp (implicitDefEqProofs := false) [tbl8, st23, getRo, hg]
theorem runs12_ro {H : AH RD} {k q n tg c : Nat} {l : List Ent} {h : List Int} (hk : H.get k = some (.hi (.set c l))) (hq : H.get q = some (.ro (us h))) (hg : goodL l) (hn : n = h.length) (hkq : k ≠ q) :
    Runs Try.prog cfg 12 [.pointer (some ⟨k, 0, none⟩), .slice (some ⟨q, 0, none⟩) n tg] H fun r H' => r = .ret (.bool (brk l h).isNone) ∧ H' = H := by
  subst hn
  exact (runs12 c tg l h hg).atK (ro_same fun i cs hi => hi) [k, q] (by simp [hkq]) (by simp) (by simp [hk, hq, ren_us]) (by simp) (by simp) (by simp [ren_us, upd_get hk, upd_get hq])
theorem upd_upd (H : AH RD) (k : Nat) (o o' : AObj RD) : (H.upd k o).upd k o' = H.upd k o' := by
  refine AH.ext' rfl fun j => ?_
  simp only [AH.get_upd]
  split <;> rfl
theorem runs12_arr {H : AH RD} {k q n tg c : Nat} {e : TypeId} {l : List Ent} {h : List Int} (hk : H.get k = some (.hi (.set c l))) (hq : H.get q = some (.arr e (us h))) (hg : goodL l) (hn : n = h.length) (hkq : k ≠ q) :
    Runs Try.prog cfg 12 [.pointer (some ⟨k, 0, none⟩), .slice (some ⟨q, 0, none⟩) n tg] H fun r H' => r = .ret (.bool (brk l h).isNone) ∧ H' = H := by
  refine Runs.borrow q hq ((runs12_ro (q := q) (h := h) (by rw [AH.get_upd, if_neg hkq]; exact hk) (by rw [AH.get_upd, if_pos rfl]) hg hn hkq).mono fun r H1 ⟨h1, h2⟩ => ?_)
  subst h2
  refine ⟨by rw [AH.get_upd, if_pos rfl], fun j cs2 hj hcs hne => ⟨cs2, by rw [AH.get_upd, if_neg hj] at hcs; exact hcs, hne⟩, h1, ?_⟩
  rw [upd_upd, upd_get hq]

def st12 : CStep RD := fun args H => match args with
  | [x, .slice none 0 0] => (ptr0 x).bind fun k => (getSet H k).map fun s => (goodL s.2 ∧ k < H.next, .ret (.bool (brk s.2 []).isNone), H.add (.arr 30 []))
  | [x, y] => (ptr0 x).bind fun k => (sl0 y).bind fun q => (getSet H k).bind fun s => match getRo H q.1, getArr H q.1 with
    | some h, _ => some (goodL s.2 ∧ q.2.1 = h.length ∧ k ≠ q.1, .ret (.bool (brk s.2 h).isNone), H)
    | _, some h => some (goodL s.2 ∧ q.2.1 = h.2.length ∧ k ≠ q.1, .ret (.bool (brk s.2 h.2).isNone), H)
    | _, _ => none
  | _ => none
theorem st12_ok : CStepOk Try.prog cfg 12 st12 := by
  intro args H p r H' h hp
  unfold st12 at h
  split at h
  · simp only [Option.map_eq_some_iff, Option.bind_eq_some_iff] at h
    obtain ⟨k, hk, s, hs, h⟩ := h
    cases h
    rw [ptr0_inv hk]
    refine Runs.seesG (SeesG.nil H 30) (Runs.args (args2 := [.pointer (some ⟨k, 0, none⟩), .slice (some ⟨H.next, 0, none⟩) 0 1]) rfl (by simp) ?_)
    exact runs12_arr (c := s.1) (l := s.2) (h := []) (e := 30) (by rw [AH.get_add, if_neg (by omega)]; exact getSet_inv hs) (by rw [AH.get_add, if_pos rfl]; rfl) hp.1 rfl (by omega)
  · simp only [Option.bind_eq_some_iff] at h
    obtain ⟨k, hk, q, hq, s, hs, h⟩ := h
    rw [ptr0_inv hk, sl0_inv hq]
    split at h
    · rename_i h1
      cases h
      exact runs12_ro (getSet_inv hs) (getRo_inv h1) hp.1 hp.2.1 hp.2.2
    · rename_i h1 _
      cases h
      exact runs12_arr (getSet_inv hs) (getArr_inv h1) hp.1 hp.2.1 hp.2.2
    · cases h
  · cases h
end Ytlecfiofljigbaa
end Go.Proofs
