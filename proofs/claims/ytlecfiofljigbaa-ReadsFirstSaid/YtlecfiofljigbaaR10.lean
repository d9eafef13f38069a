/-
  The plain laws.
-/
import Derived.Test.YtlecfiofljigbaaR9
set_option linter.unusedSimpArgs false
set_option linter.unusedVariables false
set_option linter.unnecessarySimpa false
set_option linter.unusedSectionVars false
namespace Go.Proofs
namespace Ytlecfiofljigbaa
open Go.Abs
set_option linter.unusedSimpArgs false

structure Good (l : List Ent) : Prop where
  len : l.length ≤ 8
  uniq : Uniq l
  range : ∀ e ∈ l, 0 ≤ e.t ∧ e.t < 12
theorem Good.goodL {l : List Ent} (h : Good l) : goodL l := ⟨h.len, h.uniq, fun e he => (h.range e he).1⟩
theorem good_nil : Good [] := ⟨by simp, fun i x hx => by simp at hx, fun e he => by simp at he⟩

theorem getE_add_self {l : List Ent} {e : Ent} (h : getE l e.t = none) : getE (l ++ [e]) e.t = some e := by
  simp only [getE] at h ⊢
  rw [List.find?_append, h]
  simp
theorem getE_add_old {l : List Ent} {e x : Ent} {t : Int} (h : getE l t = some x) : getE (l ++ [e]) t = some x := by
  simp only [getE] at h ⊢
  rw [List.find?_append, h]
  rfl
theorem add_range {l : List Ent} {e : Ent} (h : addCode l e = 0) : 0 ≤ e.t ∧ e.t < 12 := by
  unfold addCode at h
  split at h
  · cases h
  · omega
theorem add_len {l : List Ent} {e : Ent} (h : addCode l e = 0) (hg : getE l e.t = none) : l.length < 8 := by
  unfold addCode at h
  split at h
  · cases h
  · split at h
    · cases h
    · rw [hg] at h
      simp at h
      omega
theorem addL_none {l : List Ent} {e : Ent} (h : addCode l e = 0) (hg : getE l e.t = none) : addL l e = l ++ [e] := by simp [addL, h, hg]
theorem addL_some {l : List Ent} {e x : Ent} (hg : getE l e.t = some x) : addL l e = l := by simp [addL, hg]
theorem addL_bad {l : List Ent} {e : Ent} (h : addCode l e ≠ 0) : addL l e = l := by simp [addL, h]
theorem add_space {l : List Ent} {e : Ent} (h : addCode l e = 4) : 8 ≤ l.length := by
  unfold addCode at h
  split at h
  · cases h
  · split at h
    · cases h
    · split at h
      · cases h
      · split at h
        · omega
        · cases h
theorem Good.add {l : List Ent} (h : Good l) (e : Ent) : Good (addL l e) := by
  by_cases hc : addCode l e = 0
  · cases hg : getE l e.t with
    | some x => rw [addL_some hg]; exact h
    | none =>
      rw [addL_none hc hg]
      have := add_len hc hg
      refine ⟨by simp; omega, fun i x hx => ?_, fun y hy => ?_⟩
      · rcases Nat.lt_or_ge i l.length with hi | hi
        · rw [List.getElem?_append_left hi] at hx
          exact getE_add_old (h.uniq i x hx)
        · rw [List.getElem?_append_right hi] at hx
          have : x = e := by
            rcases hk : i - l.length with _ | k
            · rw [hk] at hx; simpa using hx.symm
            · rw [hk] at hx; simp at hx
          subst this
          exact getE_add_self hg
      · rcases List.mem_append.1 hy with hy | hy
        · exact h.range y hy
        · have : y = e := by simpa using hy
          subst this; exact add_range hc
  · rw [addL_bad hc]; exact h
theorem Good.play (l : List Ent) : Good (playL l) := by
  unfold playL
  generalize l.take 30 = m
  have : ∀ (m s : List Ent), Good s → Good (m.foldl addL s) := by
    intro m
    induction m with
    | nil => intro s h; exact h
    | cons e m ih => intro s h; exact ih _ (h.add e)
  exact this m [] good_nil

/-! ### What is mixed of two heaps -/
def mix1 (s : List Ent) (h o : List Int) (t : Nat) : Int := if (getE s t).isSome then h.getD t 0 else if t < o.length then o.getD t 0 else h.getD t 0
def mixN (s : List Ent) (h o : List Int) (n : Nat) : List Int := (List.range n).map (mix1 s h o)
theorem mixN_length (s : List Ent) (h o : List Int) (n : Nat) : (mixN s h o n).length = n := by simp [mixN]
theorem mixN_succ (s : List Ent) (h o : List Int) (n : Nat) : mixN s h o (n + 1) = mixN s h o n ++ [mix1 s h o n] := by simp [mixN, List.range_succ]
theorem find_congr {α : Type} {p q : α → Bool} : ∀ {l : List α}, (∀ x ∈ l, p x = q x) → l.find? p = l.find? q
  | [], _ => rfl
  | a :: l, h => by
    rw [List.find?_cons, List.find?_cons, h a (by simp), find_congr fun x hx => h x (by simp [hx])]
theorem brk_mix {s : List Ent} (hs : Good s) (h o : List Int) : brk s (mixN s h o (min h.length 12)) = brk s h := by
  refine find_congr fun e he => ?_
  have hr := hs.range e he
  obtain ⟨i, hi⟩ := List.mem_iff_getElem?.1 he
  have hg := hs.uniq i e hi
  unfold badB
  rw [mixN_length]
  by_cases hb : (h.length : Int) ≤ e.t
  · have hb2 : ((min h.length 12 : Nat) : Int) ≤ e.t := by omega
    simp only [hb, hb2, decide_true, Bool.true_or]
  · have hb2 : ¬ ((min h.length 12 : Nat) : Int) ≤ e.t := by omega
    simp only [hb, hb2, decide_false, Bool.false_or]
    have ht : e.t.toNat < min h.length 12 := by omega
    have : (mixN s h o (min h.length 12))[e.t.toNat]? = some (mix1 s h o e.t.toNat) := by
      simp only [mixN]
      rw [List.getElem?_map, List.getElem?_range ht]; rfl
    rw [this]
    have hh : ((e.t.toNat : Nat) : Int) = e.t := by omega
    have : mix1 s h o e.t.toNat = h.getD e.t.toNat 0 := by
      simp [mix1, hh, hg]
    rw [this]
    simp [List.getD_eq_getElem?_getD]
end Ytlecfiofljigbaa
end Go.Proofs
