/-
  THE DATA, and how each lies.
-/
import Derived.Test.YtlecfiofljigbaaPF
import Derived.Test.YtlecfiofljigbaaPA3
import Derived.Test.YtlecfiofljigbaaRows
import Derived.Shelf.Sort.Plain
import Derived.Test.YtlecfiofljigbaaProg
set_option linter.unusedSimpArgs false
set_option linter.unusedVariables false
set_option linter.unnecessarySimpa false
set_option linter.unusedSectionVars false
namespace Go.Proofs
namespace Ytlecfiofljigbaa
open Go.Abs

structure Ent where
  t : Int
  v : Int
  n : Int
  deriving DecidableEq

inductive GD where
  | set (c : Nat) (l : List Ent)
  | rset (l : List Ent)

def Ent.cells (e : Ent) : List Value := [.int .i64 e.t, .int .u64 e.v, .int .u64 e.n]
def Ent.val (e : Ent) : Value := .agg e.cells.toArray
def epairs (l : List Ent) : List (Value × Value) := l.map fun e => (.int .i64 e.t, e.val)
def tvars (l : List Ent) : List Value := l.map fun e => .int .i64 e.t
def rows (l : List Ent) : List Value := l.flatMap Ent.cells

def frag : GD → List (AObj GD)
  | .set c l => [.arr 57 [.slice (some ⟨1, 0, none⟩) l.length 1, .map (some 2)], .arr 3 (tvars l), .mapq (epairs l)]
  | .rset l => [.arr 62 [.slice (some ⟨1, 0, none⟩) l.length 1], .arr 32 (rows l)]

theorem frag_set (c : Nat) (l : List Ent) : frag (.set c l) = [.arr 57 [.slice (some ⟨1, 0, none⟩) l.length 1, .map (some 2)], .arr 3 (tvars l), .mapq (epairs l)] := rfl
theorem frag_rset (l : List Ent) : frag (.rset l) = [.arr 62 [.slice (some ⟨1, 0, none⟩) l.length 1], .arr 32 (rows l)] := rfl


abbrev cfg := cfgOf Try.prog frag
abbrev G := gX Try.prog frag

/-- The rule, over this seat's forms. -/
theorem runs_by {tbl : List (FuncId × CStep GD)} (h : ∀ x ∈ tbl, CStepOk Try.prog cfg x.1 x.2) (F d : Nat) {f : FuncId} {af : AF} (hf : forms f = some af) {args : List Value} {H : AH GD} {K : AEnd → AH GD → Prop}
    (hr : af.run (G (callX G (tabS (SeesG Try.prog cfg) tbl) forms F d noY) (callX G (tabS (SeesG Try.prog cfg) tbl) forms F d)) F args H K) : Runs Try.prog cfg f args H K :=
  runs_of gX_ok hmix hext (tabS_ok h) forms_ok F d hf hr
end Ytlecfiofljigbaa
end Go.Proofs
/-
  What was read, as data.
-/
set_option linter.unusedSimpArgs false
set_option linter.unusedVariables false
set_option linter.unnecessarySimpa false
set_option linter.unusedSectionVars false
namespace Go.Proofs
namespace Ytlecfiofljigbaa
open Go.Abs

/-! ### What the functions answer -/
def rightB (v : Int) : Bool := decide (bAndNot .u64 v 9223372036854775808 ≤ 9218868437227405312) || decide (v = 9221120237041090560)
def getE (l : List Ent) (t : Int) : Option Ent := l.find? fun e => e.t == t
def addCode (l : List Ent) (e : Ent) : Int :=
  if e.t < 0 ∨ 12 ≤ e.t ∨ 1099511627776 < e.n then 2
  else if !rightB e.v then 3
  else if (getE l e.t).isSome then 0
  else if (8 : Int) ≤ l.length then 4
  else 0
def addL (l : List Ent) (e : Ent) : List Ent :=
  if addCode l e = 0 ∧ (getE l e.t).isNone then l ++ [e] else l

/-! ### Plain facts of the rows -/
theorem tvars_length (l : List Ent) : (tvars l).length = l.length := by simp [tvars]
theorem tvars_ground (l : List Ent) : grounds (tvars l) = true := by
  induction l with
  | nil => rfl
  | cons e l ih => simp [tvars, grounds, ground] at ih ⊢; exact ih
theorem rows_cons (e : Ent) (l : List Ent) : rows (e :: l) = .int .i64 e.t :: .int .u64 e.v :: .int .u64 e.n :: rows l := rfl
theorem rows_length (l : List Ent) : (rows l).length = l.length * 3 := by
  induction l with
  | nil => rfl
  | cons e l ih => rw [rows_cons, List.length_cons, List.length_cons, List.length_cons, ih, List.length_cons]; omega
theorem rows_ground (l : List Ent) : grounds (rows l) = true := by
  induction l with
  | nil => rfl
  | cons e l ih => rw [rows_cons]; simp [grounds, ground, ih]
theorem ren_tvars (θ : Nat → Nat) (l : List Ent) : rens θ (tvars l) = tvars l := rens_ground θ _ (tvars_ground l)
theorem ren_rows (θ : Nat → Nat) (l : List Ent) : rens θ (rows l) = rows l := rens_ground θ _ (rows_ground l)
theorem ren_epairs (θ : Nat → Nat) (l : List Ent) : renP θ (epairs l) = epairs l := by
  simp only [renP, epairs, List.map_map]
  refine List.map_congr_left fun e _ => ?_
  simp only [Function.comp]
  rw [ren_ground θ (.int .i64 e.t) rfl, ren_ground θ e.val rfl]
theorem tvars_add (l : List Ent) (e : Ent) : tvars (l ++ [e]) = tvars l ++ [.int .i64 e.t] := by simp [tvars]
theorem rows_add (l : List Ent) (e : Ent) : rows (l ++ [e]) = rows l ++ [.int .i64 e.t, .int .u64 e.v, .int .u64 e.n] := by simp [rows, Ent.cells]
theorem take_tvars (l : List Ent) : (tvars l).take l.length = tvars l := List.take_of_length_le (by simp [tvars_length])
theorem take_rows (l : List Ent) : (rows l).take (l.length * 3) = rows l := List.take_of_length_le (by simp [rows_length])
theorem many_rows {i : Nat} {x : Ent} : ∀ {l : List Ent}, l[i]? = some x → ((rows l).drop (i * 3)).take 3 = x.cells := by
  induction i with
  | zero =>
    intro l h
    cases l with
    | nil => simp at h
    | cons e l => simp at h; subst h; rfl
  | succ i ih =>
    intro l h
    cases l with
    | nil => simp at h
    | cons e l =>
      rw [rows_cons, show (i + 1) * 3 = i * 3 + 1 + 1 + 1 by omega]
      simpa using ih (l := l) (by simpa using h)

/-- Unlike variables. -/
def Uniq (l : List Ent) : Prop := (l.map (·.t)).Nodup
theorem Uniq.get {l : List Ent} (h : Uniq l) : ∀ (i : Nat) (x : Ent), l[i]? = some x → getE l x.t = some x := by
  induction l with
  | nil => intro i x hx; simp at hx
  | cons a l ih =>
    intro i x hx
    simp only [Uniq, List.map_cons, List.nodup_cons] at h
    cases i with
    | zero => simp at hx; subst hx; simp [getE]
    | succ i =>
      have hx' : l[i]? = some x := by simpa using hx
      have hne : (a.t == x.t) = false := by
        simp only [beq_eq_false_iff_ne, ne_eq]
        intro e
        exact h.1 (List.mem_map.2 ⟨x, List.mem_of_getElem? hx', e.symm⟩)
      simp only [getE, List.find?_cons, hne]
      exact ih h.2 i x hx'
theorem epairs_length (l : List Ent) : (epairs l).length = l.length := by simp [epairs]
theorem epairs_add (l : List Ent) (e : Ent) : epairs (l ++ [e]) = epairs l ++ [(.int .i64 e.t, e.val)] := by simp [epairs]
theorem getE_none' {l : List Ent} {t : Int} (h : ∀ x ∈ l, x.t ≠ t) : getE l t = none := by
  simp only [getE, List.find?_eq_none]
  intro x hx
  simpa using h x hx
theorem find_alike {l : List Ent} {es : List MapEntry} {c : Nat} (h : AlikeM (epairs l) es c) (hu : Uniq l) (t : Int) : findIn false (.int .i64 t) es = some ((getE l t).map Ent.val) := by
  have key : ∀ es' : List MapEntry, (∀ e ∈ es', ∃ x ∈ l, e.key = .int .i64 x.t ∧ e.val = x.val) →
      (findIn false (.int .i64 t) es' = some none ∧ ∀ e ∈ es', e.key ≠ .int .i64 t) ∨ ∃ x ∈ l, x.t = t ∧ findIn false (.int .i64 t) es' = some (some x.val) := by
    intro es'
    induction es' with
    | nil => intro _; exact .inl ⟨rfl, fun e he => by simp at he⟩
    | cons e es' ih =>
      intro hm
      obtain ⟨x, hx, hk, hv⟩ := hm e (by simp)
      rw [findIn, hk, sameK]
      simp only [Bool.false_eq_true, if_false, if_true]
      by_cases ht : t = x.t
      · right
        refine ⟨x, hx, ht.symm, ?_⟩
        simp [ht, hv]
      · have h1 : (t == x.t) = false := by simpa using ht
        rw [h1]
        rcases ih (fun e he => hm e (by simp [he])) with ⟨h2, h3⟩ | h2
        · refine .inl ⟨h2, fun e' he' => ?_⟩
          rcases List.mem_cons.1 he' with rfl | he'
          · rw [hk]; intro h4; injection h4 with _ h5; exact ht h5.symm
          · exact h3 e' he'
        · exact .inr h2
  have hmem : ∀ e ∈ es, ∃ x ∈ l, e.key = .int .i64 x.t ∧ e.val = x.val := by
    intro e he
    have : (e.key, e.val) ∈ epairs l := h.1.mem_iff.1 (List.mem_map.2 ⟨e, he, rfl⟩)
    obtain ⟨x, hx, hp⟩ := List.mem_map.1 this
    simp only [Prod.mk.injEq] at hp
    exact ⟨x, hx, hp.1.symm, hp.2.symm⟩
  rcases key es hmem with ⟨h1, h2⟩ | ⟨x, hx, ht, h1⟩
  · rw [h1, getE_none' fun x hx ht => ?_]; rfl
    have : ((Value.int .i64 x.t, x.val) : Value × Value) ∈ pairs es := h.1.mem_iff.2 (List.mem_map.2 ⟨x, hx, rfl⟩)
    obtain ⟨e, he, hp⟩ := List.mem_map.1 this
    simp only [Prod.mk.injEq] at hp
    exact h2 e he (by rw [hp.1, ht])
  · obtain ⟨i, hi⟩ := List.mem_iff_getElem?.1 hx
    have := hu.get i x hi
    rw [ht] at this
    rw [h1, this]; rfl
theorem put_alike {l : List Ent} {es : List MapEntry} {c : Nat} (h : AlikeM (epairs l) es c) (hu : Uniq l) (x : Ent) (hn : getE l x.t = none) : putIn false (.int .i64 x.t) x.val c es = some (es ++ [⟨.int .i64 x.t, x.val, c⟩], c + 1) :=
  put_new (by rw [find_alike h hu, hn]; rfl)
theorem add_alike {l : List Ent} {es : List MapEntry} {c : Nat} (h : AlikeM (epairs l) es c) (x : Ent) : AlikeM (epairs (l ++ [x])) (es ++ [⟨.int .i64 x.t, x.val, c⟩]) (c + 1) := by
  rw [epairs_add]; exact h.add _ _

structure Good (l : List Ent) : Prop where
  len : l.length ≤ 8
  uniq : Uniq l
  range : ∀ e ∈ l, 0 ≤ e.t ∧ e.t < 12
def goodL (l : List Ent) : Prop := l.length ≤ 8 ∧ Uniq l ∧ ∀ e ∈ l, 0 ≤ e.t
theorem Good.goodL {l : List Ent} (h : Good l) : goodL l := ⟨h.len, h.uniq, fun e he => (h.range e he).1⟩
theorem good_nil : Good [] := ⟨by simp, by simp [Uniq], fun e he => by simp at he⟩

theorem getE_add_self {l : List Ent} {e : Ent} (h : getE l e.t = none) : getE (l ++ [e]) e.t = some e := by
  simp only [getE] at h ⊢
  rw [List.find?_append, h]
  simp
theorem getE_add_old {l : List Ent} {e x : Ent} {t : Int} (h : getE l t = some x) : getE (l ++ [e]) t = some x := by
  simp only [getE] at h ⊢
  rw [List.find?_append, h]
  rfl
theorem add_range {l : List Ent} {e : Ent} (h : addCode l e = 0) : 0 ≤ e.t ∧ e.t < 12 := by
  unfold addCode at h
  split at h
  · cases h
  · omega
theorem add_len {l : List Ent} {e : Ent} (h : addCode l e = 0) (hg : getE l e.t = none) : l.length < 8 := by
  unfold addCode at h
  split at h
  · cases h
  · split at h
    · cases h
    · rw [hg] at h
      simp at h
      omega
theorem addL_none {l : List Ent} {e : Ent} (h : addCode l e = 0) (hg : getE l e.t = none) : addL l e = l ++ [e] := by simp [addL, h, hg]
theorem addL_some {l : List Ent} {e x : Ent} (hg : getE l e.t = some x) : addL l e = l := by simp [addL, hg]
theorem addL_bad {l : List Ent} {e : Ent} (h : addCode l e ≠ 0) : addL l e = l := by simp [addL, h]
theorem add_space {l : List Ent} {e : Ent} (h : addCode l e = 4) : 8 ≤ l.length := by
  unfold addCode at h
  split at h
  · cases h
  · split at h
    · cases h
    · split at h
      · cases h
      · split at h
        · omega
        · cases h
theorem Good.add {l : List Ent} (h : Good l) (e : Ent) : Good (addL l e) := by
  by_cases hc : addCode l e = 0
  · cases hg : getE l e.t with
    | some x => rw [addL_some hg]; exact h
    | none =>
      rw [addL_none hc hg]
      have := add_len hc hg
      refine ⟨by simp; omega, ?_, fun y hy => ?_⟩
      · show ((l ++ [e]).map (·.t)).Nodup
        rw [List.map_append]
        refine List.nodup_append.2 ⟨h.uniq, by simp, ?_⟩
        rintro a ha b hb rfl
        simp only [List.map_cons, List.map_nil, List.mem_singleton] at hb
        subst hb
        obtain ⟨x, hx, hxe⟩ := List.mem_map.1 ha
        simp only [getE, List.find?_eq_none] at hg
        exact absurd hxe (by simpa using hg x hx)
      · rcases List.mem_append.1 hy with hy | hy
        · exact h.range y hy
        · have : y = e := by simpa using hy
          subst this; exact add_range hc
  · rw [addL_bad hc]; exact h
/-! ### What is known, read off arguments and heaps -/
def ptr0 : Value → Option Nat
  | .pointer (some ⟨k, 0, none⟩) => some k
  | _ => none
def asEnt : Value → Option Ent
  | .agg ⟨[.int .i64 t, .int .u64 v, .int .u64 n]⟩ => some ⟨t, v, n⟩
  | _ => none
theorem ptr0_eq (k : Nat) : ptr0 (.pointer (some ⟨k, 0, none⟩)) = some k := rfl
theorem ptr0_inv {v : Value} {k : Nat} (h : ptr0 v = some k) : v = .pointer (some ⟨k, 0, none⟩) := by
  unfold ptr0 at h
  split at h
  · cases h; rfl
  · cases h
theorem asEnt_eq (t v n : Int) : asEnt (.agg #[.int .i64 t, .int .u64 v, .int .u64 n]) = some ⟨t, v, n⟩ := rfl
theorem asEnt_val (e : Ent) : asEnt e.val = some e := rfl
theorem asEnt_inv {v : Value} {e : Ent} (h : asEnt v = some e) : v = e.val := by
  unfold asEnt at h
  split at h
  · cases h; rfl
  · cases h
def getSet (H : AH GD) (k : Nat) : Option (Nat × List Ent) :=
  match H.get k with
  | some (.hi (.set c l)) => some (c, l)
  | _ => none
def getRset (H : AH GD) (k : Nat) : Option (List Ent) :=
  match H.get k with
  | some (.hi (.rset l)) => some l
  | _ => none
theorem getSet_inv {H : AH GD} {k : Nat} {x : Nat × List Ent} (h : getSet H k = some x) : H.get k = some (.hi (.set x.1 x.2)) := by
  unfold getSet at h
  split at h
  · rename_i h2; cases h; exact h2
  · cases h
theorem getRset_inv {H : AH GD} {k : Nat} {l : List Ent} (h : getRset H k = some l) : H.get k = some (.hi (.rset l)) := by
  unfold getRset at h
  split at h
  · rename_i h2; cases h; exact h2
  · cases h
attribute [simp] ptr0_eq asEnt_eq asEnt_val getSet getRset ren_tvars ren_rows ren_epairs
end Ytlecfiofljigbaa
end Go.Proofs
/-
  Set.Add: what it comes to.
-/
set_option linter.unusedSimpArgs false
set_option linter.unusedVariables false
set_option linter.unnecessarySimpa false
set_option linter.unusedSectionVars false
namespace Go.Proofs
namespace Ytlecfiofljigbaa
open Go.Abs
set_option linter.unusedSimpArgs false

theorem lookV_ent (o : Option Ent) (z : Value) (hz : z = .agg #[.int .i64 0, .int .u64 0, .int .u64 0]) : lookV z true (o.map Ent.val) = .tuple #[.agg #[.int .i64 (o.getD ⟨0, 0, 0⟩).t, .int .u64 (o.getD ⟨0, 0, 0⟩).v, .int .u64 (o.getD ⟨0, 0, 0⟩).n], .bool o.isSome] := by
  subst hz
  cases o <;> rfl

theorem add_room {n : Nat} (h : ¬ (8 : Int) ≤ (n : Int)) : (n + 1) * 8 ≤ 140737488355328 ∧ n + 1 ≤ 9223372036854775807 := by omega

theorem ren_alike {l : List Ent} {es : List MapEntry} {c : Nat} (h : AlikeM (epairs l) es c) (θ : Nat → Nat) : es.map (fun e => (⟨ren θ e.key, ren θ e.val, e.born⟩ : MapEntry)) = es :=
  ren_entries θ fun e he => by
    have : (e.key, e.val) ∈ epairs l := h.1.mem_iff.1 (List.mem_map.2 ⟨e, he, rfl⟩)
    obtain ⟨x, _, hp⟩ := List.mem_map.1 this
    simp only [Prod.mk.injEq] at hp
    rw [← hp.1, ← hp.2]
    exact ⟨rfl, rfl⟩
/-- A set is opened: its entries in some order. -/
theorem Runs.openSet {f : FuncId} {args : List Value} {K : AEnd → AH GD → Prop} {c : Nat} {l : List Ent}
    (h : ∀ es cc, AlikeM (epairs l) es cc → es.length = l.length → (∀ θ, es.map (fun e => (⟨ren θ e.key, ren θ e.val, e.born⟩ : MapEntry)) = es) → Runs Try.prog cfg f args (AH.of [some (.arr 57 [.slice (some ⟨1, 0, none⟩) l.length 1, .map (some 2)]), some (.arr 3 (tvars l)), some (.map es cc)]) K) :
    Runs Try.prog cfg f args (AH.of [some (.hi (.set c l))]) K := by
  have e : openK frag (AH.of [some (.hi (.set c l))]) 0 = some (AH.of [some (.arr 57 [.slice (some ⟨1, 0, none⟩) l.length 1, .map (some 2)]), some (.arr 3 (tvars l)), some (.mapq (epairs l))]) := by
    simp [frag_set]
  refine Runs.opn 0 e (Runs.expose 2 (ps := epairs l) rfl fun es cc hes => ?_)
  have := h es cc hes (by rw [hes.len, epairs_length]) (ren_alike hes)
  rw [of_upd _ _ _ (by simp)]
  exact this

set_option maxHeartbeats 1000000 in
theorem runs14 (t v n : Int) (c : Nat) (l : List Ent) (hu : Uniq l) : Runs Try.prog cfg 14 [.pointer (some ⟨0, 0, none⟩), .agg #[.int .i64 t, .int .u64 v, .int .u64 n]] (AH.of [some (.hi (.set c l))])
    fun r H' => r = .ret (.int .i64 (addCode l ⟨t, v, n⟩)) ∧ H' = AH.of [some (.hi (.set c (addL l ⟨t, v, n⟩)))] := by
  refine Runs.ends ?_
  refine Runs.openSet fun es cc hes hlen hren => ?_
  refine runs_by (tbl := []) (by simp) 0 2 (af := a14) rfl ?_
  rw [a14, b14, run_eq]
  refine ⟨by simp, ?_⟩
  have hf := find_alike hes hu
  have hg : getE l t = none → putIn false (.int .i64 t) (.agg #[.int .i64 t, .int .u64 v, .int .u64 n]) cc es = some (es ++ [⟨.int .i64 t, .agg #[.int .i64 t, .int .u64 v, .int .u64 n], cc⟩], cc + 1) := put_alike hes hu ⟨t, v, n⟩
  have hadd : AlikeM (epairs (l ++ [⟨t, v, n⟩])) (es ++ [⟨.int .i64 t, .agg #[.int .i64 t, .int .u64 v, .int .u64 n], cc⟩]) (cc + 1) := add_alike hes ⟨t, v, n⟩
  cases h5 : getE l t with
  | some e =>
    simp (implicitDefEqProofs := false) [forms29, a29, b29, hf, h5, Ent.val, Ent.cells]
    repeat' (first | with_reducible apply And.intro | with_reducible intro _)
    all_goals (refine ends_plan [.pack (GD.set c l) 0 [1, 2]] [0] ?_ ?_ ?_ <;> simp [frag_set, AObj.mine, addL, addCode, rightB, hes, *] <;> omega)
  | none =>
    simp (implicitDefEqProofs := false) [forms29, a29, b29, hf, h5, hg h5, tvars_length, take_tvars]
    repeat' (first | with_reducible apply And.intro | with_reducible intro _)
    all_goals first
      | omega
      | (refine ends_plan [.pack (GD.set c l) 0 [1, 2]] [0] ?_ ?_ ?_ <;> simp [frag_set, AObj.mine, addL, addCode, rightB, hes, *] <;> omega)
      | (subst_vars; refine ends_plan [.pack (GD.set c (l ++ [⟨t, 9221120237041090560, n⟩])) 0 [6, 2]] [0] ?_ ?_ ?_ <;> simp [frag_set, AObj.mine, addL, addCode, rightB, tvars_add, hadd, *] <;> omega)
      | (refine ends_plan [.pack (GD.set c (l ++ [⟨t, v, n⟩])) 0 [6, 2]] [0] ?_ ?_ ?_ <;> simp [frag_set, AObj.mine, addL, addCode, rightB, tvars_add, hadd, *] <;> omega)
end Ytlecfiofljigbaa
end Go.Proofs
/-
  Values; New, Get, Len: what they come to, as steps.
-/
set_option linter.unusedSimpArgs false
set_option linter.unusedVariables false
set_option linter.unnecessarySimpa false
set_option linter.unusedSectionVars false
namespace Go.Proofs
namespace Ytlecfiofljigbaa
open Go.Abs
set_option linter.unusedSimpArgs false

def asU : Value → Option Int
  | .int .u64 v => some v
  | _ => none
def asI : Value → Option Int
  | .int .i64 v => some v
  | _ => none
theorem asU_eq (v : Int) : asU (.int .u64 v) = some v := rfl
theorem asI_eq (v : Int) : asI (.int .i64 v) = some v := rfl
theorem asU_inv {x : Value} {v : Int} (h : asU x = some v) : x = .int .u64 v := by
  unfold asU at h
  split at h
  · cases h; rfl
  · cases h
theorem asI_inv {x : Value} {v : Int} (h : asI x = some v) : x = .int .i64 v := by
  unfold asI at h
  split at h
  · cases h; rfl
  · cases h
attribute [simp] asU_eq asI_eq

/-! ### Right, Canon, Same -/
def canonV (v : Int) : Int := if rightB v then v else 9221120237041090560
theorem runs29 (v : Int) (H : AH GD) : Runs Try.prog cfg 29 [.int .u64 v] H fun r H' => r = .ret (.bool (rightB v)) ∧ H' = H := by
  refine runs_by (tbl := []) (by simp) 0 0 (af := a29) rfl ?_
  rw [a29, b29, run_eq]
  refine ⟨by simp, ?_⟩
  simp (implicitDefEqProofs := false)
  repeat' (first | with_reducible apply And.intro | with_reducible intro _)
  all_goals (simp [rightB, *] <;> omega)
def st29 : CStep GD := fun args H => match args with
  | [x] => (asU x).map fun v => (True, .ret (.bool (rightB v)), H)
  | _ => none
theorem st29_ok : CStepOk Try.prog cfg 29 st29 := by
  intro args H p r H' h hp
  unfold st29 at h
  split at h
  case h_2 => cases h
  simp only [Option.map_eq_some_iff] at h
  obtain ⟨v, hv, h⟩ := h
  cases h
  rw [asU_inv hv]
  exact runs29 v H

theorem runs38 (v : Int) (h0 : 0 ≤ v) (h1 : v < 18446744073709551616) (H : AH GD) : Runs Try.prog cfg 38 [.int .u64 v] H fun r H' => r = .ret (.bool (rightB v)) ∧ H' = H := by
  refine runs_by (tbl := []) (by simp) 0 0 (af := a38) rfl ?_
  rw [a38, b38, run_eq]
  refine ⟨by simp, ?_⟩
  have e : abin .eql (.float .f64 v.toNat) (.float .f64 v.toNat) = some (.bool (decide (bAndNot .u64 v 9223372036854775808 ≤ 9218868437227405312))) := by
    simp only [abin, order_self, bAndNot_sign h0 h1]
    simp
    omega
  simp (implicitDefEqProofs := false) [e]
  repeat' (first | with_reducible apply And.intro | with_reducible intro _)
  all_goals (simp [rightB, *] <;> omega)
def st38 : CStep GD := fun args H => match args with
  | [x] => (asU x).map fun v => (0 ≤ v ∧ v < 18446744073709551616, .ret (.bool (rightB v)), H)
  | _ => none
theorem st38_ok : CStepOk Try.prog cfg 38 st38 := by
  intro args H p r H' h hp
  unfold st38 at h
  split at h
  case h_2 => cases h
  simp only [Option.map_eq_some_iff] at h
  obtain ⟨v, hv, h⟩ := h
  cases h
  rw [asU_inv hv]
  exact runs38 v hp.1 hp.2 H

theorem runs42 (v : Int) (H : AH GD) : Runs Try.prog cfg 42 [.int .u64 v] H fun r H' => r = .ret (.int .u64 (canonV v)) ∧ H' = H := by
  refine runs_by (tbl := [(29, st29)]) (by simp [st29_ok]) 0 0 (af := a42) rfl ?_
  rw [a42, b42, run_eq]
  refine ⟨by simp, ?_⟩
  simp (implicitDefEqProofs := false) [st29]
  repeat' (first | with_reducible apply And.intro | with_reducible intro _)
  all_goals simp [canonV, *]
def st42 : CStep GD := fun args H => match args with
  | [x] => (asU x).map fun v => (True, .ret (.int .u64 (canonV v)), H)
  | _ => none
theorem st42_ok : CStepOk Try.prog cfg 42 st42 := by
  intro args H p r H' h hp
  unfold st42 at h
  split at h
  case h_2 => cases h
  simp only [Option.map_eq_some_iff] at h
  obtain ⟨v, hv, h⟩ := h
  cases h
  rw [asU_inv hv]
  exact runs42 v H

def sameB (a b : Int) : Bool := decide (canonV a = canonV b)
theorem runs39 (a b : Int) (H : AH GD) : Runs Try.prog cfg 39 [.int .u64 a, .int .u64 b] H fun r H' => r = .ret (.bool (sameB a b)) ∧ H' = H := by
  refine runs_by (tbl := [(42, st42)]) (by simp [st42_ok]) 0 0 (af := a39) rfl ?_
  rw [a39, b39, run_eq]
  refine ⟨by simp, ?_⟩
  simp (implicitDefEqProofs := false) [st42]
  simp [sameB]
def st39 : CStep GD := fun args H => match args with
  | [x, y] => (asU x).bind fun a => (asU y).map fun b => (True, .ret (.bool (sameB a b)), H)
  | _ => none
theorem st39_ok : CStepOk Try.prog cfg 39 st39 := by
  intro args H p r H' h hp
  unfold st39 at h
  split at h
  case h_2 => cases h
  simp only [Option.map_eq_some_iff, Option.bind_eq_some_iff] at h
  obtain ⟨a, ha, b, hb, h⟩ := h
  cases h
  rw [asU_inv ha, asU_inv hb]
  exact runs39 a b H

/-! ### New -/
theorem runs24 : Runs Try.prog cfg 24 [] (AH.of []) fun r H' => r = .ret (.pointer (some ⟨0, 0, none⟩)) ∧ H' = AH.of [some (.hi (.set 0 []))] := by
  refine Runs.ends ?_
  refine runs_by (tbl := []) (by simp) 0 0 (af := a24) rfl ?_
  rw [a24, b24, run_eq]
  refine ⟨by simp, ?_⟩
  simp (implicitDefEqProofs := false)
  refine ends_plan [.nil 3, .pack (GD.set 0 []) 1 [2, 0]] [1] ?_ ?_ ?_ <;> simp [frag_set, AObj.mine, tvars, epairs, renP, AlikeM.nil]
theorem runs28 : Runs Try.prog cfg 28 [] (AH.of []) fun r H' => r = .ret (.pointer (some ⟨0, 0, none⟩)) ∧ H' = AH.of [some (.hi (.rset []))] := by
  refine Runs.ends ?_
  refine runs_by (tbl := []) (by simp) 0 0 (af := a28) rfl ?_
  rw [a28, b28, run_eq]
  refine ⟨by simp, ?_⟩
  simp (implicitDefEqProofs := false)
  refine ends_plan [.nil 32, .pack (GD.rset []) 0 [1]] [0] ?_ ?_ ?_ <;> simp [frag_rset, AObj.mine, rows]
def st24 : CStep GD := fun args H => match args with
  | [] => some (True, .ret (.pointer (some ⟨H.next, 0, none⟩)), H.add (.hi (.set 0 [])))
  | _ => none
def st28 : CStep GD := fun args H => match args with
  | [] => some (True, .ret (.pointer (some ⟨H.next, 0, none⟩)), H.add (.hi (.rset [])))
  | _ => none
theorem st24_ok : CStepOk Try.prog cfg 24 st24 := by
  intro args H p r H' h hp
  unfold st24 at h
  split at h
  case h_2 => cases h
  cases h
  exact runs24.atK (ro_none rfl) [] (by simp) (by simp) trivial (by simp) (by simp) (by simp)
theorem st28_ok : CStepOk Try.prog cfg 28 st28 := by
  intro args H p r H' h hp
  unfold st28 at h
  split at h
  case h_2 => cases h
  cases h
  exact runs28.atK (ro_none rfl) [] (by simp) (by simp) trivial (by simp) (by simp) (by simp)

/-! ### Add, Get, Len -/
def st14 : CStep GD := fun args H => match args with
  | [x, y] => (ptr0 x).bind fun k => (asEnt y).bind fun e => (getSet H k).map fun s => (Uniq s.2, .ret (.int .i64 (addCode s.2 e)), H.upd k (.hi (.set s.1 (addL s.2 e))))
  | _ => none
theorem st14_ok : CStepOk Try.prog cfg 14 st14 := by
  intro args H p r H' h hp
  unfold st14 at h
  split at h
  case h_2 => cases h
  simp only [Option.map_eq_some_iff, Option.bind_eq_some_iff] at h
  obtain ⟨k, hk, e, he, s, hs, h⟩ := h
  cases h
  rw [ptr0_inv hk, asEnt_inv he]
  exact (runs14 e.t e.v e.n s.1 s.2 hp).atK (ro_none rfl) [k] (by simp) (by simp) (by simp [getSet_inv hs]) (by simp [Ent.val, Ent.cells]) (by simp) (by simp)

def zeroE : Ent := ⟨0, 0, 0⟩
def getT (l : List Ent) (t : Int) : Value := .tuple #[((getE l t).getD zeroE).val, .bool (getE l t).isSome]
theorem runs11 (t : Int) (c : Nat) (l : List Ent) (hu : Uniq l) : Runs Try.prog cfg 11 [.pointer (some ⟨0, 0, none⟩), .int .i64 t] (AH.of [some (.hi (.set c l))])
    fun r H' => r = .ret (getT l t) ∧ H' = AH.of [some (.hi (.set c l))] := by
  refine Runs.ends ?_
  refine Runs.openSet fun es cc hes hlen hren => ?_
  refine runs_by (tbl := []) (by simp) 0 0 (af := a11) rfl ?_
  rw [a11, b11, run_eq]
  refine ⟨by simp, ?_⟩
  have hf := find_alike hes hu
  simp (implicitDefEqProofs := false) [hf, lookV_ent]
  refine ends_plan [.pack (GD.set c l) 0 [1, 2]] [0] ?_ ?_ ?_ <;> simp [frag_set, AObj.mine, getT, Ent.val, Ent.cells, zeroE, hes]
def st11 : CStep GD := fun args H => match args with
  | [x, y] => (ptr0 x).bind fun k => (asI y).bind fun t => (getSet H k).map fun s => (Uniq s.2, .ret (getT s.2 t), H)
  | _ => none
theorem upd_get {H : AH GD} {k : Nat} {o : AObj GD} (h : H.get k = some o) : H.upd k o = H := by
  refine AH.ext' rfl fun j => ?_
  rw [AH.get_upd]
  split
  · rename_i e; subst e; exact h.symm
  · rfl
theorem st11_ok : CStepOk Try.prog cfg 11 st11 := by
  intro args H p r H' h hp
  unfold st11 at h
  split at h
  case h_2 => cases h
  simp only [Option.map_eq_some_iff, Option.bind_eq_some_iff] at h
  obtain ⟨k, hk, t, ht, s, hs, h⟩ := h
  cases h
  rw [ptr0_inv hk, asI_inv ht]
  exact (runs11 t s.1 s.2 hp).atK (ro_none rfl) [k] (by simp) (by simp) (by simp [getSet_inv hs]) (by simp) (by simp [getT, Ent.val, Ent.cells]) (by simp [upd_get (getSet_inv hs)])

theorem runs13 (c : Nat) (l : List Ent) : Runs Try.prog cfg 13 [.pointer (some ⟨0, 0, none⟩)] (AH.of [some (.hi (.set c l))])
    fun r H' => r = .ret (.int .i64 l.length) ∧ H' = AH.of [some (.hi (.set c l))] := by
  refine Runs.ends ?_
  refine runs_by (tbl := []) (by simp) 0 0 (af := a13) rfl ?_
  rw [a13, b13, run_eq]
  refine ⟨by simp, ?_⟩
  simp (implicitDefEqProofs := false) [frag_set]
  refine ends_plan [.pack (GD.set c l) 0 [1, 2]] [0] ?_ ?_ ?_ <;> simp [frag_set, AObj.mine]
def st13 : CStep GD := fun args H => match args with
  | [x] => (ptr0 x).bind fun k => (getSet H k).map fun s => (True, .ret (.int .i64 s.2.length), H)
  | _ => none
theorem st13_ok : CStepOk Try.prog cfg 13 st13 := by
  intro args H p r H' h hp
  unfold st13 at h
  split at h
  case h_2 => cases h
  simp only [Option.map_eq_some_iff, Option.bind_eq_some_iff] at h
  obtain ⟨k, hk, s, hs, h⟩ := h
  cases h
  rw [ptr0_inv hk]
  exact (runs13 s.1 s.2).atK (ro_none rfl) [k] (by simp) (by simp) (by simp [getSet_inv hs]) (by simp) (by simp) (by simp [upd_get (getSet_inv hs)])
end Ytlecfiofljigbaa
end Go.Proofs
/-
  The reference: Get, Add.
-/
set_option linter.unusedSimpArgs false
set_option linter.unusedVariables false
set_option linter.unnecessarySimpa false
set_option linter.unusedSectionVars false
namespace Go.Proofs
namespace Ytlecfiofljigbaa
open Go.Abs
set_option linter.unusedSimpArgs false

theorem getE_at {l : List Ent} {i : Nat} {e : Ent} {t : Int} (hi : l[i]? = some e) (hno : ∀ (j : Nat) (x : Ent), j < i → l[j]? = some x → x.t ≠ t) (he : e.t = t) : getE l t = some e := by
  induction l generalizing i with
  | nil => simp at hi
  | cons a l ih =>
    cases i with
    | zero => simp at hi; subst hi; simp [getE, he]
    | succ i =>
      have h0 := hno 0 a (by omega) rfl
      have : (a.t == t) = false := by simpa using h0
      simp only [getE, List.find?_cons, this]
      exact ih (i := i) (by simpa using hi) fun j x hj hx => hno (j + 1) x (by omega) (by simpa using hx)
theorem getE_none {l : List Ent} {t : Int} (hno : ∀ (j : Nat) (x : Ent), l[j]? = some x → x.t ≠ t) : getE l t = none := by
  simp only [getE, List.find?_eq_none]
  intro x hx
  obtain ⟨j, hj⟩ := List.mem_iff_getElem?.1 hx
  simpa using hno j x hj

theorem rows_at {l : List Ent} {i : Nat} {x : Ent} (h : l[i]? = some x) : (rows l)[i * 3]? = some (.int .i64 x.t) := by
  have := many_rows h
  have h2 : (((rows l).drop (i * 3)).take 3)[0]? = some (.int .i64 x.t) := by rw [this]; rfl
  simpa using h2

set_option maxRecDepth 20000 in
set_option maxHeartbeats 1000000 in
theorem runs30 (t : Int) (l : List Ent) (hl : l.length < 9223372036854775807) : Runs Try.prog cfg 30 [.pointer (some ⟨0, 0, none⟩), .int .i64 t] (AH.of [some (.hi (.rset l))])
    fun r H' => r = .ret (getT l t) ∧ H' = AH.of [some (.hi (.rset l))] := by
  refine Runs.ends ?_
  refine Runs.opn 0 rfl ?_
  refine runs_by (tbl := []) (by simp) (l.length + 1) 0 (af := a30) rfl ?_
  rw [a30, b30, run_eq]
  refine ⟨by simp, ?_⟩
  simp (implicitDefEqProofs := false) [frag_rset]
  refine loop_inv (sg_mono gX_ok (tabS_ok (by simp)) _ _ noY noY_mono) (fun m tm H => ∃ i : Nat, m + i = l.length ∧ (∀ j x, j < i → l[j]? = some x → x.t ≠ t) ∧ tm 0 = .pointer (some ⟨0, 0, none⟩) ∧ tm 1 = .int .i64 t ∧ tm 4 = .pointer (some ⟨2, 0, none⟩) ∧ tm 5 = .bool false ∧ tm 6 = .int .i64 i ∧
    H = AH.of [some (.arr 62 [.slice (some ⟨1, 0, none⟩) l.length 1]), some (.arr 32 (rows l)), some (.arr 32 [.int .i64 0, .int .u64 0, .int .u64 0])]) (m := l.length) ⟨0, by simp⟩ (by omega) ?_
  rintro m tm H ⟨i, hm, hno, t0, t1, t4, t5, t6, rfl⟩
  by_cases hi : i < l.length
  · obtain ⟨x, hx⟩ : ∃ x, l[i]? = some x := ⟨l[i], List.getElem?_eq_getElem hi⟩
    have hi' : (i : Int) < l.length := by omega
    have h3 : i * 3 + 3 ≤ (rows l).length := by rw [rows_length]; omega
    have hw : IntKind.i64.wrap ((i : Int) + 1) = ((i + 1 : Nat) : Int) := by rw [wrap_i64 (by omega) (by omega)]; omega
    simp (implicitDefEqProofs := false) [t0, t1, t4, t5, t6, hi, hi', rows_at hx, many_rows hx, h3, Ent.cells, hw]
    refine ⟨fun he => ?_, fun he => ⟨m - 1, by omega, i + 1, by omega, fun j y hj hy => ?_, by omega⟩⟩
    · have := getE_at hx hno he
      refine ends_plan [.pack (GD.rset l) 0 [1]] [0] ?_ ?_ ?_ <;> simp [frag_rset, AObj.mine, getT, this, Ent.val, Ent.cells]
    · by_cases hji : j = i
      · subst hji; rw [hx] at hy; cases hy; exact he
      · exact hno j y (by omega) hy
  · have hi' : ¬ (i : Int) < l.length := by omega
    have hn : getE l t = none := getE_none fun j x hx => hno j x (by
      rcases Nat.lt_or_ge j l.length with h | h
      · omega
      · rw [List.getElem?_eq_none h] at hx; cases hx) hx
    simp (implicitDefEqProofs := false) [t0, t1, t4, t5, t6, hi']
    refine ends_plan [.pack (GD.rset l) 0 [1]] [0] ?_ ?_ ?_ <;> simp [frag_rset, AObj.mine, getT, hn, zeroE, Ent.val, Ent.cells]
def st30 : CStep GD := fun args H => match args with
  | [x, y] => (ptr0 x).bind fun k => (asI y).bind fun t => (getRset H k).map fun l => (l.length < 9223372036854775807, .ret (getT l t), H)
  | _ => none
theorem st30_ok : CStepOk Try.prog cfg 30 st30 := by
  intro args H p r H' h hp
  unfold st30 at h
  split at h
  case h_2 => cases h
  simp only [Option.map_eq_some_iff, Option.bind_eq_some_iff] at h
  obtain ⟨k, hk, t, ht, l, hs, h⟩ := h
  cases h
  rw [ptr0_inv hk, asI_inv ht]
  exact (runs30 t l hp).atK (ro_none rfl) [k] (by simp) (by simp) (by simp [getRset_inv hs]) (by simp) (by simp [getT, Ent.val, Ent.cells]) (by simp [upd_get (getRset_inv hs)])

def tbl4 : List (FuncId × CStep GD) := [(30, st30), (38, st38)]
theorem tbl4_ok : ∀ x ∈ tbl4, CStepOk Try.prog cfg x.1 x.2 := by simp [tbl4, st30_ok, st38_ok]

set_option maxRecDepth 20000 in
set_option maxHeartbeats 1000000 in
theorem runs18 (t v n : Int) (l : List Ent) (hl : l.length ≤ 8) (hv0 : 0 ≤ v) (hv1 : v < 18446744073709551616) : Runs Try.prog cfg 18 [.pointer (some ⟨0, 0, none⟩), .agg #[.int .i64 t, .int .u64 v, .int .u64 n]] (AH.of [some (.hi (.rset l))])
    fun r H' => r = .ret (.int .i64 (addCode l ⟨t, v, n⟩)) ∧ H' = AH.of [some (.hi (.rset (addL l ⟨t, v, n⟩)))] := by
  refine Runs.ends ?_
  refine runs_by (tbl := tbl4) tbl4_ok 0 2 (af := a18) rfl ?_
  rw [a18, b18, run_eq]
  refine ⟨by simp, ?_⟩
  have hl2 : l.length * 3 ≤ (rows l).length := by rw [rows_length]; omega
  have hl3 : l.length < 9223372036854775807 := by omega
  have hl4 : l.length * 24 ≤ 140737488355328 ∧ l.length ≤ 9223372036854775807 ∧ (l.length + 1) * 24 ≤ 140737488355328 ∧ l.length ≤ 9223372036854775806 := by omega
  cases h5 : getE l t with
  | some e =>
    simp (implicitDefEqProofs := false) [tbl4, st38, st30, getT, h5, Ent.val, Ent.cells, zeroE, frag_rset, hv0, hv1, hl3]
    repeat' (first | with_reducible apply And.intro | with_reducible intro _)
    all_goals (refine ends_plan [] [0] ?_ ?_ ?_ <;> simp [addL, addCode, *] <;> omega)
  | none =>
    simp (implicitDefEqProofs := false) [tbl4, st38, st30, getT, h5, Ent.val, Ent.cells, zeroE, frag_rset, hl2, take_rows, rows_length, hv0, hv1, hl3, hl4]
    repeat' (first | with_reducible apply And.intro | with_reducible intro _)
    all_goals first
      | (refine ends_plan [] [0] ?_ ?_ ?_ <;> simp [addL, addCode, *] <;> omega)
      | (refine ends_plan [.pack (GD.rset l) 0 [3]] [0] ?_ ?_ ?_ <;> simp [frag_rset, AObj.mine, addL, addCode, *] <;> omega)
      | (refine ends_plan [.pack (GD.rset (l ++ [⟨t, v, n⟩])) 0 [7]] [0] ?_ ?_ ?_ <;> simp [frag_rset, AObj.mine, addL, addCode, rows_add, *] <;> omega)
def st18 : CStep GD := fun args H => match args with
  | [x, y] => (ptr0 x).bind fun k => (asEnt y).bind fun e => (getRset H k).map fun l => (l.length ≤ 8 ∧ 0 ≤ e.v ∧ e.v < 18446744073709551616, .ret (.int .i64 (addCode l e)), H.upd k (.hi (.rset (addL l e))))
  | _ => none
theorem st18_ok : CStepOk Try.prog cfg 18 st18 := by
  intro args H p r H' h hp
  unfold st18 at h
  split at h
  case h_2 => cases h
  simp only [Option.map_eq_some_iff, Option.bind_eq_some_iff] at h
  obtain ⟨k, hk, e, he, l, hs, h⟩ := h
  cases h
  rw [ptr0_inv hk, asEnt_inv he]
  exact (runs18 e.t e.v e.n l hp.1 hp.2.1 hp.2.2).atK (ro_none rfl) [k] (by simp) (by simp) (by simp [getRset_inv hs]) (by simp [Ent.val, Ent.cells]) (by simp) (by simp)
end Ytlecfiofljigbaa
end Go.Proofs
/-
  List, play.
-/
set_option linter.unusedSimpArgs false
set_option linter.unusedVariables false
set_option linter.unnecessarySimpa false
set_option linter.unusedSectionVars false
namespace Go.Proofs
namespace Ytlecfiofljigbaa
open Go.Abs
set_option linter.unusedSimpArgs false

theorem rows_take {l : List Ent} {i : Nat} {x : Ent} (h : l[i]? = some x) : rows (l.take (i + 1)) = rows (l.take i) ++ [.int .i64 x.t, .int .u64 x.v, .int .u64 x.n] := by
  rw [List.take_add_one, h]
  simp [rows, Ent.cells]
theorem tvars_at {l : List Ent} {i : Nat} {x : Ent} (h : l[i]? = some x) : (tvars l)[i]? = some (.int .i64 x.t) := by simp [tvars, h]

set_option maxHeartbeats 1000000 in
theorem runs25 (c : Nat) (l : List Ent) (hl : l.length ≤ 8) (hu : Uniq l) : Runs Try.prog cfg 25 [.pointer (some ⟨0, 0, none⟩)] (AH.of [some (.hi (.set c l))])
    fun r H' => r = .ret (.slice (some ⟨1, 0, none⟩) l.length 1) ∧ H' = AH.of [some (.hi (.set c l)), some (.arr 32 (rows l))] := by
  refine Runs.ends ?_
  refine Runs.openSet fun es cc hes hlen hren => ?_
  have hf := find_alike hes hu
  refine runs_by (tbl := []) (by simp) (l.length + 1) 0 (af := a25) rfl ?_
  rw [a25, b25, run_eq]
  refine ⟨by simp, ?_⟩
  simp (implicitDefEqProofs := false) [frag_set]
  refine loop_view (sg_mono gX_ok (tabS_ok (by simp)) _ _ noY noY_mono) (fun m tm H => ∃ i : Nat, m + i = l.length ∧ tm 0 = .pointer (some ⟨0, 0, none⟩) ∧ tm 3 = .slice (some ⟨3, 0, none⟩) i 1 ∧ tm 11 = .slice (some ⟨1, 0, none⟩) l.length 1 ∧ tm 12 = .int .i64 l.length ∧ tm 13 = .int .i64 i ∧
    H = AH.of [some (.arr 57 [.slice (some ⟨1, 0, none⟩) l.length 1, .map (some 2)]), some (.arr 3 (tvars l)), some (.map es cc), some (.arr 32 (rows (l.take i)))]) (m := l.length) ?_ (by omega) ?_
  · refine round_wk [.nil 32] [0, 1, 2, 3] [some (.arr 57 [.slice (some ⟨1, 0, none⟩) l.length 1, .map (some 2)]), some (.arr 3 (tvars l)), some (.map es cc), some (.arr 32 [])] [(3, .slice (some ⟨3, 0, none⟩) 0 1)] l.length (by omega) ?_ ?_ ?_ ⟨0, ?_⟩ <;> simp [rows, hren]
    done
  rintro m tm H ⟨i, hm, t0, t3, t11, t12, t13, rfl⟩
  by_cases hi : i < l.length
  · obtain ⟨x, hx⟩ : ∃ x, l[i]? = some x := ⟨l[i], List.getElem?_eq_getElem hi⟩
    have hi' : (i : Int) < l.length := by omega
    have hw : IntKind.i64.wrap ((i : Int) + 1) = ((i + 1 : Nat) : Int) := by rw [wrap_i64 (by omega) (by omega)]; omega
    have hr1 : i * 3 ≤ (rows (l.take i)).length := by rw [rows_length, List.length_take]; omega
    have hr2 : (rows (l.take i)).take (i * 3) = rows (l.take i) := List.take_of_length_le (by rw [rows_length, List.length_take]; omega)
    have hr3 : (i + 1) * 24 ≤ 140737488355328 ∧ i ≤ 9223372036854775806 := by omega
    simp (implicitDefEqProofs := false) [t0, t3, t11, t12, t13, hi, hi', tvars_at hx, hf, hu.get i x hx, Ent.val, Ent.cells, hr1, hr2, hr3, hw]
    refine round_plan [] [0, 1, 2, 5] [some (.arr 57 [.slice (some ⟨1, 0, none⟩) l.length 1, .map (some 2)]), some (.arr 3 (tvars l)), some (.map es cc), some (.arr 32 (rows (l.take (i + 1))))] (m - 1) (by omega) ?_ ?_ ⟨i + 1, by omega, ?_⟩ <;> simp [t0, t3, t11, t12, t13, rows_take hx, hren]
    done
  · have hi' : ¬ (i : Int) < l.length := by omega
    have hil : i = l.length := by omega
    subst hil
    simp (implicitDefEqProofs := false) [t0, t3, t11, t12, t13, hi']
    refine ends_plan [.pack (GD.set c l) 0 [1, 2]] [0, 3] ?_ ?_ ?_ <;> simp [frag_set, AObj.mine, hes]
end Ytlecfiofljigbaa
end Go.Proofs
/-
  play.
-/
set_option linter.unusedSimpArgs false
set_option linter.unusedVariables false
set_option linter.unnecessarySimpa false
set_option linter.unusedSectionVars false
namespace Go.Proofs
namespace Ytlecfiofljigbaa
open Go.Abs
set_option linter.unusedSimpArgs false

def Ent.Ok (e : Ent) : Prop := 0 ≤ e.v ∧ e.v < 18446744073709551616
def playL (l : List Ent) : List Ent := (l.take 30).foldl addL []
theorem addL_le {l : List Ent} {e : Ent} (h : l.length ≤ 8) : (addL l e).length ≤ 8 := by
  unfold addL
  split
  · rename_i hc
    have : ¬ (8 : Int) ≤ l.length := by
      intro h8
      have hg : getE l e.t = none := by simpa using hc.2
      have := hc.1
      unfold addCode at this
      split at this
      · cases this
      · split at this
        · cases this
        · rw [hg] at this
          simp [h8] at this
    simp; omega
  · exact h

theorem Good.play (l : List Ent) : Good (playL l) := by
  unfold playL
  generalize l.take 30 = m
  have : ∀ (m s : List Ent), Good s → Good (m.foldl addL s) := by
    intro m
    induction m with
    | nil => intro s h; exact h
    | cons e m ih => intro s h; exact ih _ (h.add e)
  exact this m [] good_nil


def tbl6 : List (FuncId × CStep GD) := [(24, st24), (28, st28), (14, st14), (18, st18)]
theorem tbl6_ok : ∀ x ∈ tbl6, CStepOk Try.prog cfg x.1 x.2 := by simp [tbl6, st24_ok, st28_ok, st14_ok, st18_ok]

set_option maxHeartbeats 1000000 in
theorem runs9 (l : List Ent) (tg : Nat) (hok : ∀ e ∈ l, e.Ok) : Runs Try.prog cfg 9 [.slice (some ⟨0, 0, none⟩) l.length tg] (AH.of [some (.ro (rows l))])
    fun r H' => r = .ret (.tuple #[.pointer (some ⟨1, 0, none⟩), .pointer (some ⟨2, 0, none⟩), .bool true]) ∧ H' = AH.of [some (.ro (rows l)), some (.hi (.set 0 (playL l))), some (.hi (.rset (playL l)))] := by
  refine runs_by (tbl := tbl6) tbl6_ok 40 0 (af := a9) rfl ?_
  rw [a9, b9, run_eq]
  refine ⟨by simp, ?_⟩
  simp (implicitDefEqProofs := false) [tbl6, st24, st28]
  refine loop_inv (sg_mono gX_ok (tabS_ok tbl6_ok) _ _ noY noY_mono) (fun m tm H => ∃ i, m + i = 30 ∧ i ≤ l.length ∧ tm 0 = .slice (some ⟨0, 0, none⟩) l.length tg ∧ tm 5 = .pointer (some ⟨1, 0, none⟩) ∧ tm 6 = .pointer (some ⟨2, 0, none⟩) ∧ tm 7 = .int .i64 (i : Nat) ∧
      ∃ s, s = (l.take i).foldl addL [] ∧ Good s ∧ H = AH.of [some (.ro (rows l)), some (.hi (.set 0 s)), some (.hi (.rset s))])
    (m := 30) ⟨0, by simp [good_nil]⟩ (by omega) ?_
  rintro m tm H ⟨i, hm, hil, t0, t5, t6, t7, s, hs, hsg, rfl⟩
  by_cases hi : i < l.length
  · by_cases hi3 : i < 30
    · obtain ⟨x, hx⟩ : ∃ x, l[i]? = some x := ⟨l[i], List.getElem?_eq_getElem hi⟩
      have r3 := many_rows hx
      have hs8 := hsg.len
      have hsu := hsg.uniq
      have hle : i * 3 + 3 ≤ (rows l).length := by rw [rows_length]; omega
      have hxo : x.Ok := hok x (List.mem_of_getElem? hx)
      have hi' : (i : Int) < l.length := by omega
      have hi3' : (i : Int) < 30 := by omega
      have hw : IntKind.i64.wrap ((i : Int) + 1) = ((i + 1 : Nat) : Int) := by rw [wrap_i64 (by omega) (by omega)]; omega
      simp (implicitDefEqProofs := false) [tbl6, st14, st18, t0, t5, t6, t7, hi', hi3', hi, r3, hle, Ent.cells, hs8, hsu, hxo.1, hxo.2, hw]
      have hst : (l.take (i + 1)).foldl addL [] = addL s x := by
        rw [List.take_add_one, hx, List.foldl_append, ← hs]; rfl
      exact ⟨m - 1, by omega, i + 1, by omega, by omega, by omega, by rw [hst]; exact hsg.add x, by rw [hst]⟩
    · have hi' : (i : Int) < l.length := by omega
      have hi3' : ¬ (i : Int) < 30 := by omega
      simp (implicitDefEqProofs := false) [t0, t5, t6, t7, hi', hi3', hi]
      have : l.take i = l.take 30 := by congr 1; omega
      rw [hs, this]; rfl
  · have hi' : ¬ (i : Int) < l.length := by omega
    simp (implicitDefEqProofs := false) [t0, t5, t6, t7, hi', hi]
    have : l.take i = l.take 30 := by rw [List.take_of_length_le (by omega), List.take_of_length_le (by omega)]
    rw [hs, this]; rfl
end Ytlecfiofljigbaa
end Go.Proofs
/-
  Broken, Valid, Newest; live.
-/
set_option linter.unusedSimpArgs false
set_option linter.unusedVariables false
set_option linter.unnecessarySimpa false
set_option linter.unusedSectionVars false
namespace Go.Proofs
namespace Ytlecfiofljigbaa
open Go.Abs
set_option linter.unusedSimpArgs false

def us (h : List Int) : List Value := h.map fun v => .int .u64 v
theorem us_length (h : List Int) : (us h).length = h.length := by simp [us]
theorem us_ground (h : List Int) : grounds (us h) = true := by
  induction h with
  | nil => rfl
  | cons v h ih => simp [us, grounds, ground] at ih ⊢; exact ih
theorem ren_us (θ : Nat → Nat) (h : List Int) : rens θ (us h) = us h := rens_ground θ _ (us_ground h)
theorem us_at {h : List Int} {i : Nat} {v : Int} (hv : h[i]? = some v) : (us h)[i]? = some (.int .u64 v) := by simp [us, hv]

/-- Is it not what was read? -/
def badB (h : List Int) (e : Ent) : Bool := decide ((h.length : Int) ≤ e.t) || !sameB ((h[e.t.toNat]?).getD 0) e.v
def brk (l : List Ent) (h : List Int) : Option Ent := l.find? (badB h)

def st25 : CStep GD := fun args H => match args with
  | [x] => (ptr0 x).bind fun k => (getSet H k).map fun s => (s.2.length ≤ 8 ∧ Uniq s.2, .ret (.slice (some ⟨H.next, 0, none⟩) s.2.length 1), H.add (.arr 32 (rows s.2)))
  | _ => none
theorem st25_ok : CStepOk Try.prog cfg 25 st25 := by
  intro args H p r H' h hp
  unfold st25 at h
  split at h
  case h_2 => cases h
  simp only [Option.map_eq_some_iff, Option.bind_eq_some_iff] at h
  obtain ⟨k, hk, s, hs, h⟩ := h
  cases h
  rw [ptr0_inv hk]
  exact (runs25 s.1 s.2 hp.1 hp.2).atK (ro_none rfl) [k] (by simp) (by simp) (by simp [getSet_inv hs]) (by simp) (by simp) (by simp [upd_get (getSet_inv hs)])

def tbl7 : List (FuncId × CStep GD) := [(25, st25), (39, st39)]
theorem tbl7_ok : ∀ x ∈ tbl7, CStepOk Try.prog cfg x.1 x.2 := by simp [tbl7, st25_ok, st39_ok]

theorem brk_none {l : List Ent} {h : List Int} (hno : ∀ (j : Nat) (x : Ent), l[j]? = some x → badB h x = false) : brk l h = none := by
  simp only [brk, List.find?_eq_none]
  intro x hx
  obtain ⟨j, hj⟩ := List.mem_iff_getElem?.1 hx
  simpa using hno j x hj
theorem brk_at {l : List Ent} {h : List Int} {i : Nat} {e : Ent} (hi : l[i]? = some e) (hno : ∀ (j : Nat) (x : Ent), j < i → l[j]? = some x → badB h x = false) (he : badB h e = true) : brk l h = some e := by
  induction l generalizing i with
  | nil => simp at hi
  | cons a l ih =>
    cases i with
    | zero => simp at hi; subst hi; simp [brk, he]
    | succ i =>
      have h0 := hno 0 a (by omega) rfl
      simp only [brk, List.find?_cons, h0]
      exact ih (i := i) (by simpa using hi) fun j x hj hx => hno (j + 1) x (by omega) (by simpa using hx)

set_option maxHeartbeats 1000000 in
theorem runs23 (c tg : Nat) (l : List Ent) (h : List Int) (hl : l.length ≤ 8) (hu : Uniq l) (h0 : ∀ e ∈ l, 0 ≤ e.t) : Runs Try.prog cfg 23 [.pointer (some ⟨0, 0, none⟩), .slice (some ⟨1, 0, none⟩) h.length tg] (AH.of [some (.hi (.set c l)), some (.ro (us h))])
    fun r H' => r = .ret (.tuple #[.int .i64 ((brk l h).getD zeroE).t, .bool (brk l h).isSome]) ∧ H' = AH.of [some (.hi (.set c l)), some (.ro (us h))] := by
  refine Runs.ends ?_
  refine runs_by (tbl := tbl7) tbl7_ok (l.length + 1) 0 (af := a23) rfl ?_
  rw [a23, b23, run_eq]
  refine ⟨by simp, ?_⟩
  simp (implicitDefEqProofs := false) [tbl7, st25, hl, hu]
  refine loop_view (sg_mono gX_ok (tabS_ok tbl7_ok) _ _ noY noY_mono) (fun m tm H => ∃ i : Nat, m + i = l.length ∧ (∀ (j : Nat) (x : Ent), j < i → l[j]? = some x → badB h x = false) ∧ tm 1 = .slice (some ⟨1, 0, none⟩) h.length tg ∧ tm 9 = .slice (some ⟨2, 0, none⟩) l.length 1 ∧ tm 10 = .int .i64 l.length ∧ tm 11 = .int .i64 i ∧
    H = AH.of [some (.hi (.set c l)), some (.ro (us h)), some (.arr 32 (rows l))]) (m := l.length) ?_ (by omega) ?_
  · refine round_plan [] [0, 1, 2] [some (.hi (.set c l)), some (.ro (us h)), some (.arr 32 (rows l))] l.length (by omega) ?_ ?_ ⟨0, ?_⟩ <;> simp [ren_us]
    done
  rintro m tm H ⟨i, hm, hno, t1, t9, t10, t11, rfl⟩
  by_cases hi : i < l.length
  · obtain ⟨x, hx⟩ : ∃ x, l[i]? = some x := ⟨l[i], List.getElem?_eq_getElem hi⟩
    have hi' : (i : Int) < l.length := by omega
    have hw : IntKind.i64.wrap ((i : Int) + 1) = ((i + 1 : Nat) : Int) := by rw [wrap_i64 (by omega) (by omega)]; omega
    have r3 := many_rows hx
    have hle : i * 3 + 3 ≤ (rows l).length := by rw [rows_length]; omega
    have hx0 : 0 ≤ x.t := h0 x (List.mem_of_getElem? hx)
    by_cases hb : (h.length : Int) ≤ x.t
    · have hbad : badB h x = true := by simp [badB, hb]
      simp (implicitDefEqProofs := false) [tbl7, st39, t1, t9, t10, t11, hi, hi', r3, hle, Ent.cells, hw, hb]
      refine ends_plan [] [0, 1] ?_ ?_ ?_ <;> simp [brk_at hx hno hbad, ren_us]
    · obtain ⟨v, hv⟩ : ∃ v, h[x.t.toNat]? = some v := ⟨h[x.t.toNat], List.getElem?_eq_getElem (by omega)⟩
      have hb2 : x.t < h.length := by omega
      have hbad : badB h x = !sameB v x.v := by simp [badB, hb, hv]
      simp (implicitDefEqProofs := false) [tbl7, st39, t1, t9, t10, t11, hi, hi', r3, hle, Ent.cells, hw, hb, hb2, hx0, us_at hv]
      refine ⟨fun hs => ?_, fun hs => ?_⟩
      · refine ends_plan [] [0, 1] ?_ ?_ ?_ <;> simp [brk_at hx hno (by simp [hbad, hs]), ren_us]
      · refine round_plan [] [0, 1, 2] [some (.hi (.set c l)), some (.ro (us h)), some (.arr 32 (rows l))] (m - 1) (by omega) ?_ ?_ ⟨i + 1, by omega, ?_⟩
        · simp
        · simp [ren_us]
        · refine ⟨fun j y hj hy => ?_, ?_⟩
          · by_cases hji : j = i
            · subst hji; rw [hx] at hy; cases hy; simp [hbad, hs]
            · exact hno j y (by omega) hy
          · simp [t1, t9, t10, t11]
  · have hi' : ¬ (i : Int) < l.length := by omega
    have hn : brk l h = none := brk_none fun j x hx => hno j x (by
      rcases Nat.lt_or_ge j l.length with h | h
      · omega
      · rw [List.getElem?_eq_none h] at hx; cases hx) hx
    simp (implicitDefEqProofs := false) [t1, t9, t10, t11, hi']
    refine ends_plan [] [0, 1] ?_ ?_ ?_ <;> simp [hn, zeroE, ren_us]
end Ytlecfiofljigbaa
end Go.Proofs
/-
  Valid, Newest; live.
-/
set_option linter.unusedSimpArgs false
set_option linter.unusedVariables false
set_option linter.unnecessarySimpa false
set_option linter.unusedSectionVars false
namespace Go.Proofs
namespace Ytlecfiofljigbaa
open Go.Abs
set_option linter.unusedSimpArgs false

def sl0 : Value → Option (Nat × Nat × Nat)
  | .slice (some ⟨k, 0, none⟩) n c => some (k, n, c)
  | _ => none
theorem sl0_eq (k n c : Nat) : sl0 (.slice (some ⟨k, 0, none⟩) n c) = some (k, n, c) := rfl
theorem sl0_inv {v : Value} {q : Nat × Nat × Nat} (h : sl0 v = some q) : v = .slice (some ⟨q.1, 0, none⟩) q.2.1 q.2.2 := by
  unfold sl0 at h
  split at h
  · cases h; rfl
  · cases h
def asUs : List Value → Option (List Int)
  | [] => some []
  | .int .u64 v :: l => (asUs l).map (v :: ·)
  | _ => none
theorem asUs_us : ∀ h : List Int, asUs (us h) = some h
  | [] => rfl
  | v :: h => by
    show (asUs (us h)).map (v :: ·) = _
    rw [asUs_us h]; rfl
theorem asUs_inv : ∀ {cs : List Value} {h : List Int}, asUs cs = some h → cs = us h
  | [], h, e => by cases e; rfl
  | v :: cs, h, e => by
    unfold asUs at e
    split at e
    · simp_all
    · rename_i v' l heq
      cases heq
      simp only [Option.map_eq_some_iff] at e
      obtain ⟨h', e1, rfl⟩ := e
      rw [asUs_inv e1]; rfl
    · cases e
attribute [simp] sl0_eq asUs_us asUs

/-- A row of words that nobody writes. -/
def getRo (H : AH GD) (k : Nat) : Option (List Int) :=
  match H.get k with
  | some (.ro cs) => asUs cs
  | _ => none
theorem getRo_inv {H : AH GD} {k : Nat} {h : List Int} (hg : getRo H k = some h) : H.get k = some (.ro (us h)) := by
  unfold getRo at hg
  split at hg
  · rename_i cs e; rw [e, asUs_inv hg]
  · cases hg
def getArr (H : AH GD) (k : Nat) : Option (TypeId × List Int) :=
  match H.get k with
  | some (.arr e cs) => (asUs cs).map fun h => (e, h)
  | _ => none
theorem getArr_inv {H : AH GD} {k : Nat} {x : TypeId × List Int} (hg : getArr H k = some x) : H.get k = some (.arr x.1 (us x.2)) := by
  unfold getArr at hg
  split at hg
  · rename_i e cs he
    simp only [Option.map_eq_some_iff] at hg
    obtain ⟨h, h1, rfl⟩ := hg
    rw [he, asUs_inv h1]
  · cases hg

def st23 : CStep GD := fun args H => match args with
  | [x, y] => (ptr0 x).bind fun k => (sl0 y).bind fun q => (getSet H k).bind fun s => (getRo H q.1).map fun h => (goodL s.2 ∧ q.2.1 = h.length ∧ k ≠ q.1, .ret (.tuple #[.int .i64 ((brk s.2 h).getD zeroE).t, .bool (brk s.2 h).isSome]), H)
  | _ => none
theorem st23_ok : CStepOk Try.prog cfg 23 st23 := by
  intro args H p r H' h hp
  unfold st23 at h
  split at h
  case h_2 => cases h
  simp only [Option.map_eq_some_iff, Option.bind_eq_some_iff] at h
  obtain ⟨k, hk, q, hq, s, hs, w, hw, h⟩ := h
  cases h
  obtain ⟨⟨h1, h2, h3⟩, h4, h5⟩ := hp
  rw [ptr0_inv hk, sl0_inv hq, h4]
  exact (runs23 s.1 q.2.2 s.2 w h1 h2 h3).atK (ro_same fun i cs hi => hi) [k, q.1] (by simp [h5]) (by simp) (by simp [getSet_inv hs, getRo_inv hw, ren_us]) (by simp) (by simp) (by simp [ren_us, upd_get (getSet_inv hs), upd_get (getRo_inv hw)])

def tbl8 : List (FuncId × CStep GD) := [(23, st23)]
theorem tbl8_ok : ∀ x ∈ tbl8, CStepOk Try.prog cfg x.1 x.2 := by simp [tbl8, st23_ok]
theorem runs12 (c tg : Nat) (l : List Ent) (h : List Int) (hg : goodL l) : Runs Try.prog cfg 12 [.pointer (some ⟨0, 0, none⟩), .slice (some ⟨1, 0, none⟩) h.length tg] (AH.of [some (.hi (.set c l)), some (.ro (us h))])
    fun r H' => r = .ret (.bool (brk l h).isNone) ∧ H' = AH.of [some (.hi (.set c l)), some (.ro (us h))] := by
  refine runs_by (tbl := tbl8) tbl8_ok 0 0 (af := a12) rfl ?_
  rw [a12, b12, run_eq]
  refine ⟨by simp, ?_⟩
  simp (implicitDefEqProofs := false) [tbl8, st23, getRo, hg]
theorem runs12_ro {H : AH GD} {k q n tg c : Nat} {l : List Ent} {h : List Int} (hk : H.get k = some (.hi (.set c l))) (hq : H.get q = some (.ro (us h))) (hg : goodL l) (hn : n = h.length) (hkq : k ≠ q) :
    Runs Try.prog cfg 12 [.pointer (some ⟨k, 0, none⟩), .slice (some ⟨q, 0, none⟩) n tg] H fun r H' => r = .ret (.bool (brk l h).isNone) ∧ H' = H := by
  subst hn
  exact (runs12 c tg l h hg).atK (ro_same fun i cs hi => hi) [k, q] (by simp [hkq]) (by simp) (by simp [hk, hq, ren_us]) (by simp) (by simp) (by simp [ren_us, upd_get hk, upd_get hq])
theorem upd_upd (H : AH GD) (k : Nat) (o o' : AObj GD) : (H.upd k o).upd k o' = H.upd k o' := by
  refine AH.ext' rfl fun j => ?_
  simp only [AH.get_upd]
  split <;> rfl
theorem runs12_arr {H : AH GD} {k q n tg c : Nat} {e : TypeId} {l : List Ent} {h : List Int} (hk : H.get k = some (.hi (.set c l))) (hq : H.get q = some (.arr e (us h))) (hg : goodL l) (hn : n = h.length) (hkq : k ≠ q) :
    Runs Try.prog cfg 12 [.pointer (some ⟨k, 0, none⟩), .slice (some ⟨q, 0, none⟩) n tg] H fun r H' => r = .ret (.bool (brk l h).isNone) ∧ H' = H := by
  refine Runs.borrow q hq ((runs12_ro (q := q) (h := h) (by rw [AH.get_upd, if_neg hkq]; exact hk) (by rw [AH.get_upd, if_pos rfl]) hg hn hkq).mono fun r H1 ⟨h1, h2⟩ => ?_)
  subst h2
  refine ⟨by rw [AH.get_upd, if_pos rfl], fun j cs2 hj hcs hne => ⟨cs2, by rw [AH.get_upd, if_neg hj] at hcs; exact hcs, hne⟩, h1, ?_⟩
  rw [upd_upd, upd_get hq]

def st12 : CStep GD := fun args H => match args with
  | [x, .slice none 0 0] => (ptr0 x).bind fun k => (getSet H k).map fun s => (goodL s.2 ∧ k < H.next, .ret (.bool (brk s.2 []).isNone), H.add (.arr 30 []))
  | [x, y] => (ptr0 x).bind fun k => (sl0 y).bind fun q => (getSet H k).bind fun s => match getRo H q.1, getArr H q.1 with
    | some h, _ => some (goodL s.2 ∧ q.2.1 = h.length ∧ k ≠ q.1, .ret (.bool (brk s.2 h).isNone), H)
    | _, some h => some (goodL s.2 ∧ q.2.1 = h.2.length ∧ k ≠ q.1, .ret (.bool (brk s.2 h.2).isNone), H)
    | _, _ => none
  | _ => none
theorem st12_ok : CStepOk Try.prog cfg 12 st12 := by
  intro args H p r H' h hp
  unfold st12 at h
  split at h
  · simp only [Option.map_eq_some_iff, Option.bind_eq_some_iff] at h
    obtain ⟨k, hk, s, hs, h⟩ := h
    cases h
    rw [ptr0_inv hk]
    refine Runs.seesG (SeesG.nil H 30) (Runs.args (args2 := [.pointer (some ⟨k, 0, none⟩), .slice (some ⟨H.next, 0, none⟩) 0 1]) rfl (by simp) ?_)
    exact runs12_arr (c := s.1) (l := s.2) (h := []) (e := 30) (by rw [AH.get_add, if_neg (by omega)]; exact getSet_inv hs) (by rw [AH.get_add, if_pos rfl]; rfl) hp.1 rfl (by omega)
  · simp only [Option.bind_eq_some_iff] at h
    obtain ⟨k, hk, q, hq, s, hs, h⟩ := h
    rw [ptr0_inv hk, sl0_inv hq]
    split at h
    · rename_i h1
      cases h
      exact runs12_ro (getSet_inv hs) (getRo_inv h1) hp.1 hp.2.1 hp.2.2
    · rename_i h1 _
      cases h
      exact runs12_arr (getSet_inv hs) (getArr_inv h1) hp.1 hp.2.1 hp.2.2
    · cases h
  · cases h
end Ytlecfiofljigbaa
end Go.Proofs
/-
  Newest; live.
-/
set_option linter.unusedSimpArgs false
set_option linter.unusedVariables false
set_option linter.unnecessarySimpa false
set_option linter.unusedSectionVars false
namespace Go.Proofs
namespace Ytlecfiofljigbaa
open Go.Abs
set_option linter.unusedSimpArgs false

def newest (l : List Ent) : Int := l.foldl (fun n e => if e.n > n then e.n else n) 0
def tbl9 : List (FuncId × CStep GD) := [(25, st25)]
theorem tbl9_ok : ∀ x ∈ tbl9, CStepOk Try.prog cfg x.1 x.2 := by simp [tbl9, st25_ok]

set_option maxHeartbeats 1000000 in
theorem runs27 (c : Nat) (l : List Ent) (hl : l.length ≤ 8) (hu : Uniq l) : Runs Try.prog cfg 27 [.pointer (some ⟨0, 0, none⟩)] (AH.of [some (.hi (.set c l))])
    fun r H' => r = .ret (.int .u64 (newest l)) ∧ H' = AH.of [some (.hi (.set c l))] := by
  refine Runs.ends ?_
  refine runs_by (tbl := tbl9) tbl9_ok (l.length + 1) 0 (af := a27) rfl ?_
  rw [a27, b27, run_eq]
  refine ⟨by simp, ?_⟩
  simp (implicitDefEqProofs := false) [tbl9, st25, hl, hu]
  refine loop_view (sg_mono gX_ok (tabS_ok tbl9_ok) _ _ noY noY_mono) (fun m tm H => ∃ i : Nat, m + i = l.length ∧ tm 3 = .int .u64 (newest (l.take i)) ∧ tm 7 = .slice (some ⟨1, 0, none⟩) l.length 1 ∧ tm 8 = .int .i64 l.length ∧ tm 9 = .int .i64 i ∧
    H = AH.of [some (.hi (.set c l)), some (.arr 32 (rows l))]) (m := l.length) ?_ (by omega) ?_
  · refine round_plan [] [0, 1] [some (.hi (.set c l)), some (.arr 32 (rows l))] l.length (by omega) ?_ ?_ ⟨0, ?_⟩ <;> simp [newest]
    done
  rintro m tm H ⟨i, hm, t3, t7, t8, t9, rfl⟩
  by_cases hi : i < l.length
  · obtain ⟨x, hx⟩ : ∃ x, l[i]? = some x := ⟨l[i], List.getElem?_eq_getElem hi⟩
    have hi' : (i : Int) < l.length := by omega
    have hw : IntKind.i64.wrap ((i : Int) + 1) = ((i + 1 : Nat) : Int) := by rw [wrap_i64 (by omega) (by omega)]; omega
    have r3 := many_rows hx
    have hle : i * 3 + 3 ≤ (rows l).length := by rw [rows_length]; omega
    simp (implicitDefEqProofs := false) [t3, t7, t8, t9, hi, hi', r3, hle, Ent.cells, hw]
    refine round_plan [] [0, 1] [some (.hi (.set c l)), some (.arr 32 (rows l))] (m - 1) (by omega) ?_ ?_ ⟨i + 1, by omega, ?_⟩ <;> simp [t3, t7, t8, t9]
    rw [List.take_add_one, hx]
    simp [newest, List.foldl_append]
  · have hi' : ¬ (i : Int) < l.length := by omega
    have hil : i = l.length := by omega
    subst hil
    simp (implicitDefEqProofs := false) [t3, t7, t8, t9, hi']
    refine ends_plan [] [0] ?_ ?_ ?_ <;> simp
def st27 : CStep GD := fun args H => match args with
  | [x] => (ptr0 x).bind fun k => (getSet H k).map fun s => (s.2.length ≤ 8 ∧ Uniq s.2, .ret (.int .u64 (newest s.2)), H)
  | _ => none
theorem st27_ok : CStepOk Try.prog cfg 27 st27 := by
  intro args H p r H' h hp
  unfold st27 at h
  split at h
  case h_2 => cases h
  simp only [Option.map_eq_some_iff, Option.bind_eq_some_iff] at h
  obtain ⟨k, hk, s, hs, h⟩ := h
  cases h
  rw [ptr0_inv hk]
  exact (runs27 s.1 s.2 hp.1 hp.2).atK (ro_none rfl) [k] (by simp) (by simp) (by simp [getSet_inv hs]) (by simp) (by simp) (by simp [upd_get (getSet_inv hs)])

/-! ### live -/
def e1 : Ent := ⟨2, 4607182418800017408, 7⟩
theorem e1t : e1.t = 2 := rfl
theorem e1v : e1.v = 4607182418800017408 := rfl
theorem e1n : e1.n = 7 := rfl
theorem code1 : addCode [] ⟨2, 4607182418800017408, 7⟩ = 0 := by decide
theorem add1 : addL [] ⟨2, 4607182418800017408, 7⟩ = [e1] := by decide
theorem code2 : addCode [e1] ⟨2, 0, 0⟩ = 0 := by decide
theorem add2 : addL [e1] ⟨2, 0, 0⟩ = [e1] := by decide
theorem get1 : getE [e1] 2 = some e1 := by decide
theorem new1 : newest [e1] = 7 := by decide
theorem brk1 : brk [e1] [0, 0, 4607182418800017408] = none := by decide
theorem brk2 : brk [e1] [] = some e1 := by decide
theorem good1 : goodL [e1] := by
  refine ⟨by simp, by simp [Uniq], fun e he => ?_⟩
  simp at he; subst he; decide
def tbl10 : List (FuncId × CStep GD) := [(24, st24), (14, st14), (11, st11), (27, st27), (12, st12)]
theorem tbl10_ok : ∀ x ∈ tbl10, CStepOk Try.prog cfg x.1 x.2 := by simp [tbl10, st24_ok, st14_ok, st11_ok, st27_ok, st12_ok]
theorem runs10 : Runs Try.prog cfg 10 [] (AH.of []) fun r H' => r = .ret (.bool true) ∧ H' = AH.of [] := by
  refine Runs.ends ?_
  refine runs_by (tbl := tbl10) tbl10_ok 0 0 (af := a10) rfl ?_
  rw [a10, b10, run_eq]
  refine ⟨by simp, ?_⟩
  have g1 := good1
  have h1 := g1.1
  have h2 := g1.2.1
  have h3 := good_nil.uniq
  simp (implicitDefEqProofs := false) [tbl10, st24, st14, st11, st27, st12, code1, add1, code2, add2, getT, get1, new1, brk1, brk2, h1, h2, h3, g1, Ent.val, Ent.cells, e1t, e1v, e1n, getRo, getArr]
  refine ends_plan [] [] ?_ ?_ ?_ <;> simp
end Ytlecfiofljigbaa
end Go.Proofs
/-
  The plain laws.
-/
set_option linter.unusedSimpArgs false
set_option linter.unusedVariables false
set_option linter.unnecessarySimpa false
set_option linter.unusedSectionVars false
namespace Go.Proofs
namespace Ytlecfiofljigbaa
open Go.Abs
set_option linter.unusedSimpArgs false

/-! ### What is mixed of two heaps -/
def mix1 (s : List Ent) (h o : List Int) (t : Nat) : Int := if (getE s t).isSome then h.getD t 0 else if t < o.length then o.getD t 0 else h.getD t 0
def mixN (s : List Ent) (h o : List Int) (n : Nat) : List Int := (List.range n).map (mix1 s h o)
theorem mixN_length (s : List Ent) (h o : List Int) (n : Nat) : (mixN s h o n).length = n := by simp [mixN]
theorem mixN_succ (s : List Ent) (h o : List Int) (n : Nat) : mixN s h o (n + 1) = mixN s h o n ++ [mix1 s h o n] := by simp [mixN, List.range_succ]
theorem find_congr {α : Type} {p q : α → Bool} : ∀ {l : List α}, (∀ x ∈ l, p x = q x) → l.find? p = l.find? q
  | [], _ => rfl
  | a :: l, h => by
    rw [List.find?_cons, List.find?_cons, h a (by simp), find_congr fun x hx => h x (by simp [hx])]
theorem brk_mix {s : List Ent} (hs : Good s) (h o : List Int) : brk s (mixN s h o (min h.length 12)) = brk s h := by
  refine find_congr fun e he => ?_
  have hr := hs.range e he
  obtain ⟨i, hi⟩ := List.mem_iff_getElem?.1 he
  have hg := hs.uniq.get i e hi
  unfold badB
  rw [mixN_length]
  by_cases hb : (h.length : Int) ≤ e.t
  · have hb2 : ((min h.length 12 : Nat) : Int) ≤ e.t := by omega
    simp only [hb, hb2, decide_true, Bool.true_or]
  · have hb2 : ¬ ((min h.length 12 : Nat) : Int) ≤ e.t := by omega
    simp only [hb, hb2, decide_false, Bool.false_or]
    have ht : e.t.toNat < min h.length 12 := by omega
    have : (mixN s h o (min h.length 12))[e.t.toNat]? = some (mix1 s h o e.t.toNat) := by
      simp only [mixN]
      rw [List.getElem?_map, List.getElem?_range ht]; rfl
    rw [this]
    have hh : ((e.t.toNat : Nat) : Int) = e.t := by omega
    have : mix1 s h o e.t.toNat = h.getD e.t.toNat 0 := by
      simp [mix1, hh, hg]
    rw [this]
    simp [List.getD_eq_getElem?_getD]
end Ytlecfiofljigbaa
end Go.Proofs
/-
  The two laws: what they come to.
-/
set_option linter.unusedSimpArgs false
set_option linter.unusedVariables false
set_option linter.unnecessarySimpa false
set_option linter.unusedSectionVars false
namespace Go.Proofs
namespace Ytlecfiofljigbaa
open Go.Abs
set_option linter.unusedSimpArgs false

def asEnts : List Value → Option (List Ent)
  | [] => some []
  | .int .i64 t :: .int .u64 v :: .int .u64 n :: l => (asEnts l).map (⟨t, v, n⟩ :: ·)
  | _ => none
theorem asEnts_rows : ∀ l : List Ent, asEnts (rows l) = some l
  | [] => rfl
  | e :: l => by
    show (asEnts (rows l)).map (_ :: ·) = _
    rw [asEnts_rows l]; rfl
theorem asEnts_inv : ∀ {cs : List Value} {l : List Ent}, asEnts cs = some l → cs = rows l
  | cs, l, e => by
    unfold asEnts at e
    split at e
    · cases e; rfl
    · simp only [Option.map_eq_some_iff] at e
      obtain ⟨l', e1, rfl⟩ := e
      rw [asEnts_inv e1]; rfl
    · cases e
attribute [simp] asEnts_rows
def getRows (H : AH GD) (k : Nat) : Option (List Ent) :=
  match H.get k with
  | some (.ro cs) => asEnts cs
  | _ => none
theorem getRows_inv {H : AH GD} {k : Nat} {l : List Ent} (hg : getRows H k = some l) : H.get k = some (.ro (rows l)) := by
  unfold getRows at hg
  split at hg
  · rename_i cs e; rw [e, asEnts_inv hg]
  · cases hg
def st9 : CStep GD := fun args H => match args with
  | [x] => (sl0 x).bind fun q => (getRows H q.1).map fun l => (q.2.1 = l.length ∧ ∀ e ∈ l, e.Ok, .ret (.tuple #[.pointer (some ⟨H.next, 0, none⟩), .pointer (some ⟨H.next + 1, 0, none⟩), .bool true]), (H.add (.hi (.set 0 (playL l)))).add (.hi (.rset (playL l))))
  | _ => none
theorem st9_ok : CStepOk Try.prog cfg 9 st9 := by
  intro args H p r H' h hp
  unfold st9 at h
  split at h
  case h_2 => cases h
  simp only [Option.map_eq_some_iff, Option.bind_eq_some_iff] at h
  obtain ⟨q, hq, l, hl, h⟩ := h
  cases h
  rw [sl0_inv hq, hp.1]
  exact (runs9 l q.2.2 hp.2).atK (ro_same fun i cs hi => by rcases i with _ | _ | _ | i <;> simp at hi ⊢; exact hi) [q.1] (by simp) (by simp) (by simp [getRows_inv hl]) (by simp) (by simp) (by simp [upd_get (getRows_inv hl)])
def st10 : CStep GD := fun args H => match args with
  | [] => some (True, .ret (.bool true), H)
  | _ => none
theorem st10_ok : CStepOk Try.prog cfg 10 st10 := by
  intro args H p r H' h hp
  unfold st10 at h
  split at h
  case h_2 => cases h
  cases h
  exact runs10.atK (ro_none rfl) [] (by simp) (by simp) trivial (by simp) (by simp) (by simp)

def tbl11 : List (FuncId × CStep GD) := [(9, st9), (10, st10), (11, st11), (13, st13), (14, st14), (12, st12)]
theorem tbl11_ok : ∀ x ∈ tbl11, CStepOk Try.prog cfg x.1 x.2 := by simp [tbl11, st9_ok, st10_ok, st11_ok, st13_ok, st14_ok, st12_ok]

set_option maxHeartbeats 2000000 in
theorem runs4 (l : List Ent) (tg : Nat) (t v n : Int) (hok : ∀ e ∈ l, e.Ok) : Runs Try.prog cfg 4 [.slice (some ⟨0, 0, none⟩) l.length tg, .agg #[.int .i64 t, .int .u64 v, .int .u64 n]] (AH.of [some (.ro (rows l))])
    fun r H' => r = .ret (.bool true) ∧ H' = AH.of [some (.ro (rows l))] := by
  refine Runs.ends ?_
  refine runs_by (tbl := tbl11) tbl11_ok 0 0 (af := a4) rfl ?_
  rw [a4, b4, run_eq]
  refine ⟨by simp, ?_⟩
  have hg := Good.play l
  generalize hs : playL l = s at hg
  have hl8 := hg.len
  have hgu := hg.uniq
  have hi8 : (s.length : Int) ≤ 8 := by omega
  have hw : IntKind.i64.wrap ((s.length : Int) + 1) = (s.length : Int) + 1 := wrap_i64 (by omega) (by omega)
  by_cases hx : addCode s ⟨t, v, n⟩ = 0
  · cases hy : getE s t with
    | some y =>
      have hA := addL_some (l := s) (e := ⟨t, v, n⟩) hy
      simp (implicitDefEqProofs := false) [tbl11, st9, st10, st11, st13, st14, getRows, hok, hs, hgu, hx, hA, getT, hy, Ent.val, Ent.cells, aeqF, aggOf2]
      refine ⟨hok, ends_plan [] [0] ?_ ?_ ?_⟩ <;> simp
    | none =>
      have hA := addL_none hx (by simpa using hy)
      have hB := getE_add_self (l := s) (e := ⟨t, v, n⟩) hy
      have hC := add_len hx (by simpa using hy)
      have hgu2 := (hg.add ⟨t, v, n⟩).uniq
      rw [hA] at hgu2
      have hC' : (s.length : Int) < 8 := by omega
      simp only at hB
      simp (implicitDefEqProofs := false) [tbl11, st9, st10, st11, st13, st14, getRows, hok, hs, hgu, hx, hA, getT, hy, hB, hgu2, Ent.val, Ent.cells, aeqF, aggOf2, hw, hC']
      refine ⟨hok, ends_plan [] [0] ?_ ?_ ?_⟩ <;> simp
  · have hA := addL_bad hx
    by_cases h4 : addCode s ⟨t, v, n⟩ = 4
    · have h5 := add_space h4
      have h6 : (s.length : Int) = 8 := by omega
      simp (implicitDefEqProofs := false) [tbl11, st9, st10, st11, st13, st14, getRows, hok, hs, hgu, h4, hA, getT, Ent.val, Ent.cells, aeqF, aggOf2, h6]
      refine ⟨hok, ends_plan [] [0] ?_ ?_ ?_⟩ <;> simp
    · simp (implicitDefEqProofs := false) [tbl11, st9, st10, st11, st13, st14, getRows, hok, hs, hgu, hx, h4, hA, getT, Ent.val, Ent.cells, aeqF, aggOf2]
      refine ⟨hok, ends_plan [] [0] ?_ ?_ ?_⟩ <;> simp

theorem us_one (v : Int) : us [v] = [.int .u64 v] := rfl
theorem us_nil : us [] = [] := rfl
theorem us_append (a b : List Int) : us (a ++ b) = us a ++ us b := by simp [us]
set_option maxHeartbeats 2000000 in
theorem runs3 (l : List Ent) (h o : List Int) (tg th to : Nat) (hok : ∀ e ∈ l, e.Ok) : Runs Try.prog cfg 3 [.slice (some ⟨0, 0, none⟩) l.length tg, .slice (some ⟨1, 0, none⟩) h.length th, .slice (some ⟨2, 0, none⟩) o.length to]
    (AH.of [some (.ro (rows l)), some (.ro (us h)), some (.ro (us o))])
    fun r H' => r = .ret (.bool true) ∧ H' = AH.of [some (.ro (rows l)), some (.ro (us h)), some (.ro (us o))] := by
  refine Runs.ends ?_
  refine runs_by (tbl := tbl11) tbl11_ok 14 0 (af := a3) rfl ?_
  rw [a3, b3, run_eq]
  refine ⟨by simp, ?_⟩
  have hg := Good.play l
  generalize hs : playL l = s at hg
  have hgu := hg.uniq
  simp (implicitDefEqProofs := false) [tbl11, st9, st10, getRows, hs]
  refine ⟨hok, ?_⟩
  refine loop_view (sg_mono gX_ok (tabS_ok tbl11_ok) _ _ noY noY_mono) (fun m tm H => ∃ i : Nat, m + i = 12 ∧ i ≤ h.length ∧ tm 1 = .slice (some ⟨1, 0, none⟩) h.length th ∧ tm 2 = .slice (some ⟨2, 0, none⟩) o.length to ∧ tm 7 = .pointer (some ⟨3, 0, none⟩) ∧ tm 10 = .slice (some ⟨5, 0, none⟩) i 1 ∧ tm 11 = .int .i64 i ∧
    H = AH.of [some (.ro (rows l)), some (.ro (us h)), some (.ro (us o)), some (.hi (.set 0 s)), none, some (.arr 30 (us (mixN s h o i)))]) (m := 12) ?_ (by omega) ?_
  · refine round_wk [.nil 30] [0, 1, 2, 3, 4, 5] [some (.ro (rows l)), some (.ro (us h)), some (.ro (us o)), some (.hi (.set 0 s)), none, some (.arr 30 [])] [(10, .slice (some ⟨5, 0, none⟩) 0 1)] 12 (by omega) ?_ ?_ ?_ ⟨0, ?_⟩ <;> simp [mixN, us_nil, ren_us]
    done
  rintro m tm H ⟨i, hm, hil, t1, t2, t7, t10, t11, rfl⟩
  by_cases hi : i < h.length
  · have hi' : (i : Int) < h.length := by omega
    by_cases hi2 : i < 12
    · have hi2' : (i : Int) < 12 := by omega
      obtain ⟨v, hv⟩ : ∃ v, h[i]? = some v := ⟨h[i], List.getElem?_eq_getElem hi⟩
      have hw : IntKind.i64.wrap ((i : Int) + 1) = ((i + 1 : Nat) : Int) := by rw [wrap_i64 (by omega) (by omega)]; omega
      have hr1 : i ≤ (us (mixN s h o i)).length := by rw [us_length, mixN_length]; omega
      have hr2 : (us (mixN s h o i)).take i = us (mixN s h o i) := List.take_of_length_le (by rw [us_length, mixN_length]; omega)
      have hr3 : (i + 1) * 8 ≤ 140737488355328 ∧ i ≤ 9223372036854775806 := by omega
      have hv' : h.getD i 0 = v := by simp [hv]
      cases hy : getE s i with
      | some y =>
        have hm1 : mix1 s h o i = v := by simp [mix1, hy, hv]
        simp (implicitDefEqProofs := false) [tbl11, st11, hgu, t1, t2, t7, t10, t11, hi, hi', hi2', us_at hv, getT, hy, Ent.val, Ent.cells, hr1, hr2, hr3, hw]
        refine round_plan [] [0, 1, 2, 3, 4, 8] [some (.ro (rows l)), some (.ro (us h)), some (.ro (us o)), some (.hi (.set 0 s)), none, some (.arr 30 (us (mixN s h o (i + 1))))] (m - 1) (by omega) ?_ ?_ ⟨i + 1, by omega, by omega, ?_⟩ <;> simp [t1, t2, t7, t10, t11, mixN_succ, hm1, us_append, ren_us, us_one]
      | none =>
        by_cases hio : i < o.length
        · obtain ⟨w, hwo⟩ : ∃ w, o[i]? = some w := ⟨o[i], List.getElem?_eq_getElem hio⟩
          have hm1 : mix1 s h o i = w := by
            have : o.getD i 0 = w := by rw [List.getD_eq_getElem?_getD, hwo]; rfl
            simp only [mix1, hy, hio, if_true, this]; rfl
          simp (implicitDefEqProofs := false) [tbl11, st11, hgu, t1, t2, t7, t10, t11, hi, hi', hi2', us_at hv, us_at hwo, hio, getT, hy, Ent.val, Ent.cells, hr1, hr2, hr3, hw]
          refine round_plan [] [0, 1, 2, 3, 4, 8] [some (.ro (rows l)), some (.ro (us h)), some (.ro (us o)), some (.hi (.set 0 s)), none, some (.arr 30 (us (mixN s h o (i + 1))))] (m - 1) (by omega) ?_ ?_ ⟨i + 1, by omega, by omega, ?_⟩ <;> simp [t1, t2, t7, t10, t11, mixN_succ, hm1, us_append, ren_us, us_one]
        · have hm1 : mix1 s h o i = v := by simp [mix1, hy, hio, hv]
          simp (implicitDefEqProofs := false) [tbl11, st11, hgu, t1, t2, t7, t10, t11, hi, hi', hi2', us_at hv, hio, getT, hy, Ent.val, Ent.cells, hr1, hr2, hr3, hw]
          refine round_plan [] [0, 1, 2, 3, 4, 8] [some (.ro (rows l)), some (.ro (us h)), some (.ro (us o)), some (.hi (.set 0 s)), none, some (.arr 30 (us (mixN s h o (i + 1))))] (m - 1) (by omega) ?_ ?_ ⟨i + 1, by omega, by omega, ?_⟩ <;> simp [t1, t2, t7, t10, t11, mixN_succ, hm1, us_append, ren_us, us_one]
    · have hi2' : ¬ (i : Int) < 12 := by omega
      have hmin : i = min h.length 12 := by omega
      have hb := brk_mix hg h o
      rw [← hmin] at hb
      simp (implicitDefEqProofs := false) [tbl11, st12, t1, t2, t7, t10, t11, hi, hi', hi2', getRo, getArr, hg.goodL, mixN_length, hb]
      refine ends_plan [] [0, 1, 2] ?_ ?_ ?_ <;> simp [ren_us]
  · have hi' : ¬ (i : Int) < h.length := by omega
    have hmin : i = min h.length 12 := by omega
    have hb := brk_mix hg h o
    rw [← hmin] at hb
    simp (implicitDefEqProofs := false) [tbl11, st12, t1, t2, t7, t10, t11, hi, hi', getRo, getArr, hg.goodL, mixN_length, hb]
    refine ends_plan [] [0, 1, 2] ?_ ?_ ?_ <;> simp [ren_us]
end Ytlecfiofljigbaa
end Go.Proofs
/-
  What the arguments of this seat's laws read as.
-/
set_option linter.unusedSimpArgs false
set_option linter.unusedVariables false
set_option linter.unnecessarySimpa false
set_option linter.unusedSectionVars false
namespace Go.Proofs
namespace Ytlecfiofljigbaa
open Go.Abs Go.ChangeShapes Go.WideShapes Go.ChangeAt Go.RowKit
set_option linter.unusedSimpArgs false
set_option linter.unusedVariables false

theorem own : ownKnob Try.prog.godebug = none := by kernel_rfl
theorem cells32 : Try.prog.cellsOf 32 = 3 := by kernel_rfl
theorem cells30 : Try.prog.cellsOf 30 = 1 := by kernel_rfl
def ltypes : List TypeId := [22, 23, 32, 30, 29, 3]
theorem lclosed : closedB Try.prog ltypes = true := by kernel_rfl

section
variable {H : Type} {enc : TypeId × Value → H} {w : World}
theorem wf_i64 {n : Int} (h : (Lit.int .i64 n).wf = true) : -9223372036854775808 ≤ n ∧ n ≤ 9223372036854775807 := by
  simpa [Lit.wf, IntKind.min, IntKind.max, IntKind.signed, IntKind.bits] using h
theorem wf_u64 {n : Int} (h : (Lit.int .u64 n).wf = true) : 0 ≤ n ∧ n < 18446744073709551616 := by
  have : 0 ≤ n ∧ n ≤ 18446744073709551615 := by simpa [Lit.wf, IntKind.min, IntKind.max, IntKind.signed, IntKind.bits] using h
  omega

theorem ent_cells {fuel : Nat} {cs : List Value} {y : DataW H × List MemPlace} (h : DataW.trod enc Try.prog w 0 (fun _ => true) true fuel 32 cs = some y) : ∃ e : Ent, cs = e.cells ∧ e.Ok := by
  obtain ⟨h1, h2⟩ := struct_cells Try.underlying32 (by kernel_rfl) h cells32
  obtain ⟨v0, n0, y0, g0, t0⟩ := h2 0 _ rfl
  obtain ⟨v1, n1, y1, g1, t1⟩ := h2 1 _ rfl
  obtain ⟨v2, n2, y2, g2, t2⟩ := h2 2 _ rfl
  obtain ⟨a, ha, _, _⟩ := DataW.trod_int Try.underlying3 t0
  obtain ⟨b, hb, _, hw⟩ := DataW.trod_int Try.underlying30 t1
  obtain ⟨c, hc, _, _⟩ := DataW.trod_int Try.underlying29 t2
  have h3 : cs.length = 3 := h1
  match cs, h3 with
  | [c0, c1, c2], _ =>
    simp only [List.getElem?_cons_zero, List.getElem?_cons_succ, Option.some.injEq] at g0 g1 g2
    cases g0; cases g1; cases g2
    cases ha; cases hb; cases hc
    exact ⟨⟨a, b, c⟩, rfl, wf_u64 hw⟩
theorem open_ents {r : Reach} {b0 : Nat} {v : Value} {d : DataW H} {ps : List MemPlace} (hok : Value.okWide Try.prog w r b0 22 v) (hd : DataW.Trod enc Try.prog w 0 (fun _ => true) true 22 v d ps) :
    ∃ l : List Ent, (∀ e ∈ l, e.Ok) ∧ l.length ≤ maxLen ∧ ArgRow w v l.length (rows l) :=
  open_rows (ea := Ent.cells) Try.underlying22 (by rw [cells32]; omega) (fun x => cells32.symm) (fun _ _ _ h => ent_cells h) hok hd
theorem word_cell {fuel : Nat} {cs : List Value} {y : DataW H × List MemPlace} (h : DataW.trod enc Try.prog w 0 (fun _ => true) true fuel 30 cs = some y) : ∃ v : Int, cs = [.int .u64 v] ∧ (0 ≤ v ∧ v < 18446744073709551616) := by
  obtain ⟨n, rfl, _, hw⟩ := DataW.trod_int Try.underlying30 h
  exact ⟨n, rfl, wf_u64 hw⟩
theorem us_flat (h : List Int) : h.flatMap (fun v => [Value.int .u64 v]) = us h := by
  induction h with
  | nil => rfl
  | cons v h ih => rw [List.flatMap_cons, ih]; rfl
theorem open_words {r : Reach} {b0 : Nat} {v : Value} {d : DataW H} {ps : List MemPlace} (hok : Value.okWide Try.prog w r b0 23 v) (hd : DataW.Trod enc Try.prog w 0 (fun _ => true) true 23 v d ps) :
    ∃ l : List Int, (∀ v ∈ l, 0 ≤ v ∧ v < 18446744073709551616) ∧ l.length ≤ maxLen ∧ ArgRow w v l.length (us l) := by
  obtain ⟨l, h1, h2, h3⟩ := open_rows (ea := fun v => [Value.int .u64 v]) (Ok := fun v => 0 ≤ v ∧ v < 18446744073709551616) Try.underlying23 (by rw [cells30]; omega) (fun x => cells30.symm) (fun _ _ _ h => word_cell h) hok hd
  rw [us_flat] at h3
  exact ⟨l, h1, h2, h3⟩
theorem open_ent {r : Reach} {b0 : Nat} {v : Value} {d : DataW H} {ps : List MemPlace} (hok : Value.okWide Try.prog w r b0 32 v) (hd : DataW.Trod enc Try.prog w 0 (fun _ => true) true 32 v d ps) : ∃ e : Ent, v = e.val ∧ e.Ok := by
  obtain ⟨cs, rfl, _⟩ := okWide_struct Try.underlying32 hok
  obtain ⟨fuel, hf⟩ := hd
  obtain ⟨e, h1, h2⟩ := ent_cells hf
  refine ⟨e, ?_, h2⟩
  have : cs.toList = e.cells := h1
  show Value.agg cs = .agg e.cells.toArray
  rw [← this]
theorem rows_one (l : List Ent) : (rows l).all (·.oneCell') = true := by
  induction l with
  | nil => rfl
  | cons e l ih => rw [rows_cons]; simpa [Value.oneCell'] using ih
theorem us_oneC (l : List Int) : (us l).all (·.oneCell') = true := by simp [us, Value.oneCell']
end
end Ytlecfiofljigbaa
end Go.Proofs
/-
  DERIVED: THE SHELF's CONTRACTS AT THIS DUMP, IN PLAIN WORDS (tools/lay-plain.mjs out of 'TryShelf.lean', which tools/lay-shelf.mjs wrote): THE SAME DECLARATIONS UNDER THE SAME NAMES: 'import', 'namespace', 'open', 'def', 'theorem' AND NOTHING ELSE: no command of the shelf's: FOR A HAND-IN. Each laying: the table of numbers ('.._ren') and one theorem, a field a fact of the dump's own or the kernel's comparison; each contract: ONE APPLICATION.
-/
namespace Go.Proofs
open Go.Shelf
def Try.lays189_ren : Go.Shelf.Ren := ⟨fun | 189 => 40 | 125 => 44 | 257 => 43 | 128 => 54 | 129 => 55 | 294 => 45 | 295 => 46 | 296 => 47 | 297 => 48 | 298 => 49 | 299 => 50 | 216 => 51 | 300 => 52 | 301 => 53 | 328 => 56 | 329 => 57 | 330 => 58 | 331 => 59 | 332 => 60 | 215 => 61 | 343 => 62 | n => n, fun | 28 => 51 | 3 => 3 | 46 => 70 | 0 => 0 | 51 => 80 | 53 => 29 | 4 => 4 | 183 => 73 | 182 => 72 | 131 => 48 | 5 => 5 | 9 => 9 | 218 => 82 | 222 => 85 | 228 => 88 | 229 => 89 | n => n, fun | n => n⟩
theorem Try.lays189 : Go.Proofs.Lays.n189 Try.prog Try.lays189_ren := {
  mixed := by kernel_rfl
  f125 := Try.func44.trans (congrArg some (by kernel_rfl))
  f128 := Try.func54.trans (congrArg some (by kernel_rfl))
  f129 := Try.func55.trans (congrArg some (by kernel_rfl))
  f189 := Try.func40.trans (congrArg some (by kernel_rfl))
  f215 := Try.func61.trans (congrArg some (by kernel_rfl))
  f216 := Try.func51.trans (congrArg some (by kernel_rfl))
  f257 := Try.func43.trans (congrArg some (by kernel_rfl))
  f294 := Try.func45.trans (congrArg some (by kernel_rfl))
  f295 := Try.func46.trans (congrArg some (by kernel_rfl))
  f296 := Try.func47.trans (congrArg some (by kernel_rfl))
  f297 := Try.func48.trans (congrArg some (by kernel_rfl))
  f298 := Try.func49.trans (congrArg some (by kernel_rfl))
  f299 := Try.func50.trans (congrArg some (by kernel_rfl))
  f300 := Try.func52.trans (congrArg some (by kernel_rfl))
  f301 := Try.func53.trans (congrArg some (by kernel_rfl))
  f328 := Try.func56.trans (congrArg some (by kernel_rfl))
  f329 := Try.func57.trans (congrArg some (by kernel_rfl))
  f330 := Try.func58.trans (congrArg some (by kernel_rfl))
  f331 := Try.func59.trans (congrArg some (by kernel_rfl))
  f332 := Try.func60.trans (congrArg some (by kernel_rfl))
  f343 := Try.func62.trans (congrArg some (by kernel_rfl))
  t0 := Try.underlying0
  a0 := Try.isAgg0
  z0 := Try.sizeOf0
  v0 := Try.zeroValue0
  t3 := Try.underlying3
  a3 := Try.isAgg3
  z3 := Try.sizeOf3
  v3 := Try.zeroValue3
  t4 := Try.underlying4
  a4 := Try.isAgg4
  z4 := Try.sizeOf4
  v4 := Try.zeroValue4
  t5 := Try.underlying5
  a5 := Try.isAgg5
  z5 := Try.sizeOf5
  v5 := Try.zeroValue5
  t9 := Try.underlying9
  a9 := Try.isAgg9
  z9 := Try.sizeOf9
  v9 := Try.zeroValue9
  t28 := Try.underlying51
  a28 := Try.isAgg51
  z28 := Try.sizeOf51
  v28 := Try.zeroValue51
  t46 := Try.underlying70
  a46 := Try.isAgg70
  z46 := Try.sizeOf70
  v46 := Try.zeroValue70
  t51 := Try.underlying80
  a51 := Try.isAgg80
  z51 := Try.sizeOf80
  v51 := Try.zeroValue80
  t53 := Try.underlying29
  a53 := Try.isAgg29
  z53 := Try.sizeOf29
  v53 := Try.zeroValue29
  t131 := Try.underlying48
  a131 := Try.isAgg48
  z131 := Try.sizeOf48
  v131 := Try.zeroValue48
  t182 := Try.underlying72
  a182 := Try.isAgg72
  z182 := Try.sizeOf72
  v182 := Try.zeroValue72
  t183 := Try.underlying73
  a183 := Try.isAgg73
  z183 := Try.sizeOf73
  v183 := Try.zeroValue73
  t218 := Try.underlying82
  a218 := Try.isAgg82
  z218 := Try.sizeOf82
  v218 := Try.zeroValue82
  t222 := Try.underlying85
  a222 := Try.isAgg85
  z222 := Try.sizeOf85
  v222 := Try.zeroValue85
  t228 := Try.underlying88
  a228 := Try.isAgg88
  z228 := Try.sizeOf88
  v228 := Try.zeroValue88
  t229 := Try.underlying89
  a229 := Try.isAgg89
  z229 := Try.sizeOf89
  v229 := Try.zeroValue89 }
open Go.Sort Go.RowKit in
theorem Try.slices_Sort_int (blk off cap : Nat) (zs : List Int) (w : World) (hH : Holds (Value.int .i64) w blk off zs.toArray) (hblk : blk < w.heap.size) (hsz : zs.length < 4611686018427387904) :
    Calls Try.prog 40 #[.slice (some ⟨blk, off, none⟩) zs.length cap] w fun e w' =>
      e = .returned (.tuple #[]) ∧ ∃ n os, w' = grow (putRow (Value.int .i64) (Sort.ahead w n) blk off (zs.mergeSort fun x y => decide (x ≤ y)).toArray) os := Any.slices_Sort_int Try.lays189 blk off cap zs w hH hblk hsz
end Go.Proofs
/-
  Whole numbers: Clone, Sort, SameInts. Entries: Same.
-/
set_option linter.unusedSimpArgs false
set_option linter.unusedVariables false
set_option linter.unnecessarySimpa false
set_option linter.unusedSectionVars false
namespace Go.Proofs
namespace Ytlecfiofljigbaa
open Go.Abs
set_option linter.unusedSimpArgs false

def asInts : List Value → Option (List Int)
  | [] => some []
  | .int .i64 v :: l => (asInts l).map (v :: ·)
  | _ => none
theorem asInts_ints : ∀ h : List Int, asInts (ints h) = some h
  | [] => rfl
  | v :: h => by
    show (asInts (ints h)).map (v :: ·) = _
    rw [asInts_ints h]; rfl
theorem asInts_inv : ∀ {cs : List Value} {h : List Int}, asInts cs = some h → cs = ints h
  | [], h, e => by cases e; rfl
  | v :: cs, h, e => by
    unfold asInts at e
    split at e
    · simp_all
    · rename_i v' l heq
      cases heq
      simp only [Option.map_eq_some_iff] at e
      obtain ⟨h', e1, rfl⟩ := e
      rw [asInts_inv e1]; rfl
    · cases e
theorem tvars_ints (l : List Ent) : tvars l = ints (l.map (·.t)) := by simp [tvars, ints]
theorem asInts_tvars (l : List Ent) : asInts (tvars l) = some (l.map (·.t)) := by rw [tvars_ints, asInts_ints]
attribute [simp] asInts_ints asInts_tvars
theorem ints_at {h : List Int} {i : Nat} {v : Int} (hv : h[i]? = some v) : (ints h)[i]? = some (.int .i64 v) := by simp [ints, hv]
theorem ints_append (a b : List Int) : ints (a ++ b) = ints a ++ ints b := by simp [ints]
theorem take_ints (l : List Int) : (ints l).take l.length = ints l := List.take_of_length_le (by simp)

/-- A row of whole numbers. -/
def getInts (H : AH GD) (k : Nat) : Option (TypeId × List Int) :=
  match H.get k with
  | some (.arr e cs) => (asInts cs).map fun h => (e, h)
  | _ => none
theorem getInts_inv {H : AH GD} {k : Nat} {x : TypeId × List Int} (hg : getInts H k = some x) : H.get k = some (.arr x.1 (ints x.2)) := by
  unfold getInts at hg
  split at hg
  · rename_i e cs he
    simp only [Option.map_eq_some_iff] at hg
    obtain ⟨h, h1, rfl⟩ := hg
    rw [he, asInts_inv h1]
  · cases hg

/-! ### Clone -/
theorem runs37 (e : TypeId) (l : List Int) (tg : Nat) (hl : l.length ≤ 1000000) : Runs Try.prog cfg 37 [.slice (some ⟨0, 0, none⟩) l.length tg] (AH.of [some (.arr e (ints l))])
    fun r H' => r = .ret (.slice (some ⟨1, 0, none⟩) l.length 1) ∧ H' = AH.of [some (.arr e (ints l)), some (.arr 3 (ints l))] := by
  refine Runs.ends ?_
  refine runs_by (tbl := []) (by simp) 0 0 (af := a37) rfl ?_
  rw [a37, b37, run_eq]
  refine ⟨by simp, ?_⟩
  have h1 : l.length * 8 ≤ 140737488355328 ∧ l.length ≤ 9223372036854775807 := by omega
  have h2 := take_ints l
  simp (implicitDefEqProofs := false) [h1, h2]
  repeat' (first | with_reducible apply And.intro | with_reducible intro _)
  all_goals first
    | (refine ends_plan [] [0, 2] ?_ ?_ ?_ <;> simp; done)
    | (have : l = [] := by assumption
       subst this
       refine ends_wk (r' := .ret (.slice (some ⟨1, 0, none⟩) 0 1)) (leR_ret (by simp)) (ends_plan [.nil 3] [0, 1] ?_ ?_ ?_) <;> simp [ints])
def st37 : CStep GD := fun args H => match args with
  | [x] => (sl0 x).bind fun q => (getInts H q.1).map fun l => (q.2.1 = l.2.length ∧ l.2.length ≤ 1000000, .ret (.slice (some ⟨H.next, 0, none⟩) l.2.length 1), H.add (.arr 3 (ints l.2)))
  | _ => none
theorem st37_ok : CStepOk Try.prog cfg 37 st37 := by
  intro args H p r H' h hp
  unfold st37 at h
  split at h
  case h_2 => cases h
  simp only [Option.map_eq_some_iff, Option.bind_eq_some_iff] at h
  obtain ⟨q, hq, l, hl, h⟩ := h
  cases h
  rw [sl0_inv hq, hp.1]
  exact (runs37 l.1 l.2 q.2.2 hp.2).atK (ro_none rfl) [q.1] (by simp) (by simp) (by simp [getInts_inv hl]) (by simp) (by simp) (by simp [upd_get (getInts_inv hl)])

/-! ### Sort -/
theorem sort_in : ∀ args w, (callFunc 40 args).run Try.prog w = .ok (.enter 40 args) w := callable_of Try.func40 (by kernel_rfl) (by kernel_rfl)
set_option maxRecDepth 100000 in
/-- Nothing is sorted: by the text. -/
theorem runs_sort0 (e : TypeId) (tg : Nat) : Runs Try.prog cfg 40 [.slice (some ⟨0, 0, none⟩) 0 tg] (AH.of [some (.arr e (ints []))])
    fun r H' => r = .ret (.tuple #[]) ∧ H' = AH.of [some (.arr e (ints []))] := by
  refine Runs.ends ?_
  refine runs_by (tbl := []) (by simp) 3 5 (af := a40) rfl ?_
  rw [a40, b40, run_eq]
  refine ⟨by simp, ?_⟩
  have w1 : IntKind.u64.wrap 0 = 0 := by decide
  have w2 : IntKind.u8.wrap 0 = 0 := by decide
  have w3 : IntKind.i64.wrap 0 = 0 := by decide
  have w4 : IntKind.i64.wrap 1 = 1 := by decide
  simp (implicitDefEqProofs := false) [forms43, a43, b43, forms44, a44, b44, forms55, a55, b55, w1, w2, w3]
  refine loop_once (sg_mono gX_ok (tabS_ok (by simp)) _ _ noY noY_mono) (by omega) ?_
  simp (implicitDefEqProofs := false) [forms45, a45, b45, w3, w4]
  refine loop_once (sg_mono gX_ok (tabS_ok (by simp)) _ _ noY noY_mono) (by omega) ?_
  simp (implicitDefEqProofs := false) [w3]
  refine ends_plan [] [0] ?_ ?_ ?_ <;> simp
theorem runs40 (e : TypeId) (l : List Int) (tg : Nat) (hl : l.length ≤ 1000000) : Runs Try.prog cfg 40 [.slice (some ⟨0, 0, none⟩) l.length tg] (AH.of [some (.arr e (ints l))])
    fun r H' => r = .ret (.tuple #[]) ∧ H' = AH.of [some (.arr e (ints (sorted l)))] := by
  by_cases hz : l = []
  · subst hz
    have : sorted [] = [] := List.eq_nil_of_length_eq_zero (by simp)
    rw [this]
    exact runs_sort0 e tg
  · exact runs_sort sort_in (fun blk off cap zs w h1 h2 h3 => Try.slices_Sort_int blk off cap zs w h1 h2 h3) e l tg hz (by omega)
def st40 : CStep GD := fun args H => match args with
  | [x] => (sl0 x).bind fun q => (getInts H q.1).map fun l => (q.2.1 = l.2.length ∧ l.2.length ≤ 1000000, .ret (.tuple #[]), H.upd q.1 (.arr l.1 (ints (sorted l.2))))
  | _ => none
theorem st40_ok : CStepOk Try.prog cfg 40 st40 := by
  intro args H p r H' h hp
  unfold st40 at h
  split at h
  case h_2 => cases h
  simp only [Option.map_eq_some_iff, Option.bind_eq_some_iff] at h
  obtain ⟨q, hq, l, hl, h⟩ := h
  cases h
  rw [sl0_inv hq, hp.1]
  exact (runs40 l.1 l.2 q.2.2 hp.2).atK (ro_none rfl) [q.1] (by simp) (by simp) (by simp [getInts_inv hl]) (by simp) (by simp) (by simp)
end Ytlecfiofljigbaa
end Go.Proofs
/-
  Are they the same? Whole numbers, entries.
-/
set_option linter.unusedSimpArgs false
set_option linter.unusedVariables false
set_option linter.unnecessarySimpa false
set_option linter.unusedSectionVars false
namespace Go.Proofs
namespace Ytlecfiofljigbaa
open Go.Abs
set_option linter.unusedSimpArgs false

theorem inc_i64 {i n : Nat} (hi : i < n) (hn : n ≤ 1000000) : IntKind.i64.wrap ((i : Int) + 1) = ((i + 1 : Nat) : Int) := by rw [wrap_i64 (by omega) (by omega)]; omega
theorem same_none {α : Type} {a b : List α} (hl : a.length = b.length) (h : ∀ j, j < a.length → a[j]? = b[j]?) : a = b := by
  refine List.ext_getElem? fun j => ?_
  rcases Nat.lt_or_ge j a.length with hj | hj
  · exact h j hj
  · rw [List.getElem?_eq_none hj, List.getElem?_eq_none (by omega)]

set_option maxHeartbeats 1000000 in
theorem runs33 (e e' : TypeId) (a b : List Int) (tg tg' : Nat) (hn : a.length ≤ 1000000) : Runs Try.prog cfg 33 [.slice (some ⟨0, 0, none⟩) a.length tg, .slice (some ⟨1, 0, none⟩) b.length tg'] (AH.of [some (.arr e (ints a)), some (.arr e' (ints b))])
    fun r H' => r = .ret (.bool (decide (a = b))) ∧ H' = AH.of [some (.arr e (ints a)), some (.arr e' (ints b))] := by
  refine runs_by (tbl := []) (by simp) (a.length + 1) 0 (af := a33) rfl ?_
  rw [a33, b33, run_eq]
  refine ⟨by simp, ?_⟩
  simp (implicitDefEqProofs := false)
  refine ⟨fun h1 => (by rintro rfl; exact h1 rfl), fun hl => ?_⟩
  refine loop_inv (sg_mono gX_ok (tabS_ok (by simp)) _ _ noY noY_mono) (fun m tm H => ∃ i : Nat, m + i = a.length ∧ (∀ j, j < i → a[j]? = b[j]?) ∧ tm 0 = .slice (some ⟨0, 0, none⟩) a.length tg ∧ tm 1 = .slice (some ⟨1, 0, none⟩) b.length tg' ∧ tm 5 = .int .i64 i ∧
    H = AH.of [some (.arr e (ints a)), some (.arr e' (ints b))]) (m := a.length) ⟨0, by simp⟩ (by omega) ?_
  rintro m tm H ⟨i, hm, hno, t0, t1, t5, rfl⟩
  by_cases hi : i < a.length
  · obtain ⟨x, hx⟩ : ∃ x, a[i]? = some x := ⟨a[i], List.getElem?_eq_getElem hi⟩
    obtain ⟨y, hy⟩ : ∃ y, b[i]? = some y := ⟨b[i]'(by omega), List.getElem?_eq_getElem (by omega)⟩
    have hi' : (i : Int) < a.length := by omega
    have hib : (i : Int) < b.length := by omega
    have hw := inc_i64 hi hn
    simp (implicitDefEqProofs := false) [t0, t1, t5, hi', hib, ints_at hx, ints_at hy, hw]
    refine ⟨fun hne => ?_, fun he => ⟨m - 1, by omega, i + 1, by omega, fun j hj => ?_, by omega⟩⟩
    · rintro rfl
      rw [hx] at hy; cases hy; exact hne rfl
    · by_cases hji : j = i
      · subst hji; rw [hx, hy, he]
      · exact hno j (by omega)
  · have hi' : ¬ (i : Int) < a.length := by omega
    simp (implicitDefEqProofs := false) [t0, t1, t5, hi']
    exact same_none (by omega) fun j hj => hno j (by omega)
def st33 : CStep GD := fun args H => match args with
  | [x, y] => (sl0 x).bind fun q => (sl0 y).bind fun u => (getInts H q.1).bind fun a => (getInts H u.1).map fun b => (q.2.1 = a.2.length ∧ u.2.1 = b.2.length ∧ a.2.length ≤ 1000000 ∧ q.1 ≠ u.1, .ret (.bool (decide (a.2 = b.2))), H)
  | _ => none
theorem st33_ok : CStepOk Try.prog cfg 33 st33 := by
  intro args H p r H' h hp
  unfold st33 at h
  split at h
  case h_2 => cases h
  simp only [Option.map_eq_some_iff, Option.bind_eq_some_iff] at h
  obtain ⟨q, hq, u, hu, a, ha, b, hb, h⟩ := h
  cases h
  obtain ⟨h1, h2, h3, h4⟩ := hp
  rw [sl0_inv hq, sl0_inv hu, h1, h2]
  exact (runs33 a.1 b.1 a.2 b.2 q.2.2 u.2.2 h3).atK (ro_none rfl) [q.1, u.1] (by simp [h4]) (by simp) (by simp [getInts_inv ha, getInts_inv hb]) (by simp) (by simp) (by simp [upd_get (getInts_inv ha), upd_get (getInts_inv hb)])

def getEnts (H : AH GD) (k : Nat) : Option (TypeId × List Ent) :=
  match H.get k with
  | some (.arr e cs) => (asEnts cs).map fun h => (e, h)
  | _ => none
theorem getEnts_inv {H : AH GD} {k : Nat} {x : TypeId × List Ent} (hg : getEnts H k = some x) : H.get k = some (.arr x.1 (rows x.2)) := by
  unfold getEnts at hg
  split at hg
  · rename_i e cs he
    simp only [Option.map_eq_some_iff] at hg
    obtain ⟨h, h1, rfl⟩ := hg
    rw [he, asEnts_inv h1]
  · cases hg

theorem ent_eq (x y : Ent) : aeqF [(0, 1, false, .int), (1, 1, false, .int), (2, 1, false, .int)] x.cells y.cells = some (decide (x = y)) := by
  obtain ⟨a, b, c⟩ := x; obtain ⟨d, e, f⟩ := y
  have beq : ∀ x y : Int, (x == y) = decide (x = y) := fun x y => by by_cases h : x = y <;> simp [h]
  simp [aeqF, Ent.cells, beq]
  by_cases h1 : a = d <;> by_cases h2 : b = e <;> by_cases h3 : c = f <;> simp [h1, h2, h3]

set_option maxHeartbeats 1000000 in
theorem runs31 (e e' : TypeId) (a b : List Ent) (tg tg' : Nat) (hn : a.length ≤ 1000000) : Runs Try.prog cfg 31 [.slice (some ⟨0, 0, none⟩) a.length tg, .slice (some ⟨1, 0, none⟩) b.length tg'] (AH.of [some (.arr e (rows a)), some (.arr e' (rows b))])
    fun r H' => r = .ret (.bool (decide (a = b))) ∧ H' = AH.of [some (.arr e (rows a)), some (.arr e' (rows b))] := by
  refine runs_by (tbl := []) (by simp) (a.length + 1) 0 (af := a31) rfl ?_
  rw [a31, b31, run_eq]
  refine ⟨by simp, ?_⟩
  simp (implicitDefEqProofs := false)
  refine ⟨fun h1 => (by rintro rfl; exact h1 rfl), fun hl => ?_⟩
  refine loop_inv (sg_mono gX_ok (tabS_ok (by simp)) _ _ noY noY_mono) (fun m tm H => ∃ i : Nat, m + i = a.length ∧ (∀ j, j < i → a[j]? = b[j]?) ∧ tm 0 = .slice (some ⟨0, 0, none⟩) a.length tg ∧ tm 1 = .slice (some ⟨1, 0, none⟩) b.length tg' ∧ tm 5 = .int .i64 i ∧
    H = AH.of [some (.arr e (rows a)), some (.arr e' (rows b))]) (m := a.length) ⟨0, by simp⟩ (by omega) ?_
  rintro m tm H ⟨i, hm, hno, t0, t1, t5, rfl⟩
  by_cases hi : i < a.length
  · obtain ⟨x, hx⟩ : ∃ x, a[i]? = some x := ⟨a[i], List.getElem?_eq_getElem hi⟩
    obtain ⟨y, hy⟩ : ∃ y, b[i]? = some y := ⟨b[i]'(by omega), List.getElem?_eq_getElem (by omega)⟩
    have hi' : (i : Int) < a.length := by omega
    have hib : (i : Int) < b.length := by omega
    have hw := inc_i64 hi hn
    have hla : i * 3 + 3 ≤ (rows a).length := by rw [rows_length]; omega
    have hlb : i * 3 + 3 ≤ (rows b).length := by rw [rows_length]; omega
    have he := ent_eq x y
    simp (implicitDefEqProofs := false) [t0, t1, t5, hi', hib, hi, (show i < b.length by omega), many_rows hx, many_rows hy, hla, hlb, hw, aggOf2, he]
    refine ⟨fun hne => ?_, fun he => ⟨m - 1, by omega, i + 1, by omega, fun j hj => ?_, by omega⟩⟩
    · rintro rfl
      rw [hx] at hy; cases hy; exact hne rfl
    · by_cases hji : j = i
      · subst hji; rw [hx, hy, he]
      · exact hno j (by omega)
  · have hi' : ¬ (i : Int) < a.length := by omega
    simp (implicitDefEqProofs := false) [t0, t1, t5, hi']
    exact same_none (by omega) fun j hj => hno j (by omega)
def st31 : CStep GD := fun args H => match args with
  | [x, y] => (sl0 x).bind fun q => (sl0 y).bind fun u => (getEnts H q.1).bind fun a => (getEnts H u.1).map fun b => (q.2.1 = a.2.length ∧ u.2.1 = b.2.length ∧ a.2.length ≤ 1000000 ∧ q.1 ≠ u.1, .ret (.bool (decide (a.2 = b.2))), H)
  | _ => none
theorem st31_ok : CStepOk Try.prog cfg 31 st31 := by
  intro args H p r H' h hp
  unfold st31 at h
  split at h
  case h_2 => cases h
  simp only [Option.map_eq_some_iff, Option.bind_eq_some_iff] at h
  obtain ⟨q, hq, u, hu, a, ha, b, hb, h⟩ := h
  cases h
  obtain ⟨h1, h2, h3, h4⟩ := hp
  rw [sl0_inv hq, sl0_inv hu, h1, h2]
  exact (runs31 a.1 b.1 a.2 b.2 q.2.2 u.2.2 h3).atK (ro_none rfl) [q.1, u.1] (by simp [h4]) (by simp) (by simp [getEnts_inv ha, getEnts_inv hb]) (by simp) (by simp) (by simp [upd_get (getEnts_inv ha), upd_get (getEnts_inv hb)])
end Ytlecfiofljigbaa
end Go.Proofs
/-
  List, Len, Newest, Clear, Fork of the reference; Tvars, Clear, Fork of the program.
-/
set_option linter.unusedSimpArgs false
set_option linter.unusedVariables false
set_option linter.unnecessarySimpa false
set_option linter.unusedSectionVars false
namespace Go.Proofs
namespace Ytlecfiofljigbaa
open Go.Abs
set_option linter.unusedSimpArgs false

/-! ### The reference -/
theorem runs32 (l : List Ent) (hl : l.length ≤ 8) : Runs Try.prog cfg 32 [.pointer (some ⟨0, 0, none⟩)] (AH.of [some (.hi (.rset l))])
    fun r H' => r = .ret (.slice (some ⟨1, 0, none⟩) l.length 1) ∧ H' = AH.of [some (.hi (.rset l)), some (.arr 32 (rows l))] := by
  refine Runs.ends ?_
  refine runs_by (tbl := []) (by simp) 0 0 (af := a32) rfl ?_
  rw [a32, b32, run_eq]
  refine ⟨by simp, ?_⟩
  have h1 : l.length * 24 ≤ 140737488355328 ∧ l.length ≤ 9223372036854775807 := by omega
  have h2 : l.length * 3 ≤ (rows l).length := by rw [rows_length]; omega
  simp (implicitDefEqProofs := false) [frag_rset, h1, h2, take_rows]
  refine ends_plan [.pack (GD.rset l) 0 [2]] [0, 3] ?_ ?_ ?_ <;> simp [frag_rset, AObj.mine]
def st32 : CStep GD := fun args H => match args with
  | [x] => (ptr0 x).bind fun k => (getRset H k).map fun l => (l.length ≤ 8, .ret (.slice (some ⟨H.next, 0, none⟩) l.length 1), H.add (.arr 32 (rows l)))
  | _ => none
theorem st32_ok : CStepOk Try.prog cfg 32 st32 := by
  intro args H p r H' h hp
  unfold st32 at h
  split at h
  case h_2 => cases h
  simp only [Option.map_eq_some_iff, Option.bind_eq_some_iff] at h
  obtain ⟨k, hk, l, hs, h⟩ := h
  cases h
  rw [ptr0_inv hk]
  exact (runs32 l hp).atK (ro_none rfl) [k] (by simp) (by simp) (by simp [getRset_inv hs]) (by simp) (by simp) (by simp [upd_get (getRset_inv hs)])

theorem runs36 (l : List Ent) : Runs Try.prog cfg 36 [.pointer (some ⟨0, 0, none⟩)] (AH.of [some (.hi (.rset l))])
    fun r H' => r = .ret (.int .i64 l.length) ∧ H' = AH.of [some (.hi (.rset l))] := by
  refine Runs.ends ?_
  refine runs_by (tbl := []) (by simp) 0 0 (af := a36) rfl ?_
  rw [a36, b36, run_eq]
  refine ⟨by simp, ?_⟩
  simp (implicitDefEqProofs := false) [frag_rset]
  refine ends_plan [.pack (GD.rset l) 0 [1]] [0] ?_ ?_ ?_ <;> simp [frag_rset, AObj.mine]
def st36 : CStep GD := fun args H => match args with
  | [x] => (ptr0 x).bind fun k => (getRset H k).map fun l => (True, .ret (.int .i64 l.length), H)
  | _ => none
theorem st36_ok : CStepOk Try.prog cfg 36 st36 := by
  intro args H p r H' h hp
  unfold st36 at h
  split at h
  case h_2 => cases h
  simp only [Option.map_eq_some_iff, Option.bind_eq_some_iff] at h
  obtain ⟨k, hk, l, hs, h⟩ := h
  cases h
  rw [ptr0_inv hk]
  exact (runs36 l).atK (ro_none rfl) [k] (by simp) (by simp) (by simp [getRset_inv hs]) (by simp) (by simp) (by simp [upd_get (getRset_inv hs)])

theorem runs20 (l : List Ent) : Runs Try.prog cfg 20 [.pointer (some ⟨0, 0, none⟩)] (AH.of [some (.hi (.rset l))])
    fun r H' => r = .ret (.tuple #[]) ∧ H' = AH.of [some (.hi (.rset []))] := by
  refine Runs.ends ?_
  refine runs_by (tbl := []) (by simp) 0 0 (af := a20) rfl ?_
  rw [a20, b20, run_eq]
  refine ⟨by simp, ?_⟩
  simp (implicitDefEqProofs := false) [frag_rset]
  refine ends_plan [.nil 32, .pack (GD.rset []) 0 [2]] [0] ?_ ?_ ?_ <;> simp [frag_rset, AObj.mine, rows]
def st20 : CStep GD := fun args H => match args with
  | [x] => (ptr0 x).bind fun k => (getRset H k).map fun l => (True, .ret (.tuple #[]), H.upd k (.hi (.rset [])))
  | _ => none
theorem st20_ok : CStepOk Try.prog cfg 20 st20 := by
  intro args H p r H' h hp
  unfold st20 at h
  split at h
  case h_2 => cases h
  simp only [Option.map_eq_some_iff, Option.bind_eq_some_iff] at h
  obtain ⟨k, hk, l, hs, h⟩ := h
  cases h
  rw [ptr0_inv hk]
  exact (runs20 l).atK (ro_none rfl) [k] (by simp) (by simp) (by simp [getRset_inv hs]) (by simp) (by simp) (by simp)

theorem runs17 (l : List Ent) (hl : l.length ≤ 8) : Runs Try.prog cfg 17 [.pointer (some ⟨0, 0, none⟩)] (AH.of [some (.hi (.rset l))])
    fun r H' => r = .ret (.pointer (some ⟨1, 0, none⟩)) ∧ H' = AH.of [some (.hi (.rset l)), some (.hi (.rset l))] := by
  refine Runs.ends ?_
  refine runs_by (tbl := [(32, st32)]) (by simp [st32_ok]) 0 0 (af := a17) rfl ?_
  rw [a17, b17, run_eq]
  refine ⟨by simp, ?_⟩
  simp (implicitDefEqProofs := false) [st32, hl]
  refine ends_plan [.pack (GD.rset l) 2 [1]] [0, 2] ?_ ?_ ?_ <;> simp [frag_rset, AObj.mine]
def st17 : CStep GD := fun args H => match args with
  | [x] => (ptr0 x).bind fun k => (getRset H k).map fun l => (l.length ≤ 8, .ret (.pointer (some ⟨H.next, 0, none⟩)), H.add (.hi (.rset l)))
  | _ => none
theorem st17_ok : CStepOk Try.prog cfg 17 st17 := by
  intro args H p r H' h hp
  unfold st17 at h
  split at h
  case h_2 => cases h
  simp only [Option.map_eq_some_iff, Option.bind_eq_some_iff] at h
  obtain ⟨k, hk, l, hs, h⟩ := h
  cases h
  rw [ptr0_inv hk]
  exact (runs17 l hp).atK (ro_none rfl) [k] (by simp) (by simp) (by simp [getRset_inv hs]) (by simp) (by simp) (by simp [upd_get (getRset_inv hs)])

/-! ### The program -/
def tv (l : List Ent) : List Int := l.map (·.t)
theorem tv_length (l : List Ent) : (tv l).length = l.length := by simp [tv]
def tblTv : List (FuncId × CStep GD) := [(37, st37), (40, st40)]
theorem tblTv_ok : ∀ x ∈ tblTv, CStepOk Try.prog cfg x.1 x.2 := by simp [tblTv, st37_ok, st40_ok]
theorem runs26 (c : Nat) (l : List Ent) (hl : l.length ≤ 8) : Runs Try.prog cfg 26 [.pointer (some ⟨0, 0, none⟩)] (AH.of [some (.hi (.set c l))])
    fun r H' => r = .ret (.slice (some ⟨1, 0, none⟩) l.length 1) ∧ H' = AH.of [some (.hi (.set c l)), some (.arr 3 (ints (sorted (tv l))))] := by
  refine Runs.ends ?_
  refine Runs.openSet fun es cc hes hlen hren => ?_
  refine runs_by (tbl := tblTv) tblTv_ok 0 0 (af := a26) rfl ?_
  rw [a26, b26, run_eq]
  refine ⟨by simp, ?_⟩
  have h1 : l.length ≤ 1000000 := by omega
  simp (implicitDefEqProofs := false) [tblTv, st37, st40, getInts, h1]
  refine ends_plan [.pack (GD.set c l) 0 [1, 2]] [0, 3] ?_ ?_ ?_ <;> simp [frag_set, AObj.mine, hes, tv]
def st26 : CStep GD := fun args H => match args with
  | [x] => (ptr0 x).bind fun k => (getSet H k).map fun s => (s.2.length ≤ 8, .ret (.slice (some ⟨H.next, 0, none⟩) s.2.length 1), H.add (.arr 3 (ints (sorted (tv s.2)))))
  | _ => none
theorem st26_ok : CStepOk Try.prog cfg 26 st26 := by
  intro args H p r H' h hp
  unfold st26 at h
  split at h
  case h_2 => cases h
  simp only [Option.map_eq_some_iff, Option.bind_eq_some_iff] at h
  obtain ⟨k, hk, s, hs, h⟩ := h
  cases h
  rw [ptr0_inv hk]
  exact (runs26 s.1 s.2 hp).atK (ro_none rfl) [k] (by simp) (by simp) (by simp [getSet_inv hs]) (by simp) (by simp) (by simp [upd_get (getSet_inv hs)])

theorem runs19 (c : Nat) (l : List Ent) : Runs Try.prog cfg 19 [.pointer (some ⟨0, 0, none⟩)] (AH.of [some (.hi (.set c l))])
    fun r H' => r = .ret (.tuple #[]) ∧ H' = AH.of [some (.hi (.set 0 []))] := by
  refine Runs.ends ?_
  refine Runs.openSet fun es cc hes hlen hren => ?_
  refine runs_by (tbl := []) (by simp) 0 0 (af := a19) rfl ?_
  rw [a19, b19, run_eq]
  refine ⟨by simp, ?_⟩
  simp (implicitDefEqProofs := false)
  refine ends_plan [.nil 3, .pack (GD.set 0 []) 0 [3, 2]] [0] ?_ ?_ ?_ <;> simp [frag_set, AObj.mine, tvars, epairs, renP, AlikeM.nil]
def st19 : CStep GD := fun args H => match args with
  | [x] => (ptr0 x).bind fun k => (getSet H k).map fun s => (True, .ret (.tuple #[]), H.upd k (.hi (.set 0 [])))
  | _ => none
theorem st19_ok : CStepOk Try.prog cfg 19 st19 := by
  intro args H p r H' h hp
  unfold st19 at h
  split at h
  case h_2 => cases h
  simp only [Option.map_eq_some_iff, Option.bind_eq_some_iff] at h
  obtain ⟨k, hk, s, hs, h⟩ := h
  cases h
  rw [ptr0_inv hk]
  exact (runs19 s.1 s.2).atK (ro_none rfl) [k] (by simp) (by simp) (by simp [getSet_inv hs]) (by simp) (by simp) (by simp)
end Ytlecfiofljigbaa
end Go.Proofs
/-
  Fork of the program: a loop over a map.
-/
set_option linter.unusedSimpArgs false
set_option linter.unusedVariables false
set_option linter.unnecessarySimpa false
set_option linter.unusedSectionVars false
namespace Go.Proofs
namespace Ytlecfiofljigbaa
open Go.Abs
set_option linter.unusedSimpArgs false

theorem key_of {l : List Ent} {es : List MapEntry} {c : Nat} (h : AlikeM (epairs l) es c) {e : MapEntry} (he : e ∈ es) : ∃ x ∈ l, e.key = .int .i64 x.t ∧ e.val = x.val := by
  have : (e.key, e.val) ∈ epairs l := h.1.mem_iff.1 (List.mem_map.2 ⟨e, he, rfl⟩)
  obtain ⟨x, hx, hp⟩ := List.mem_map.1 this
  simp only [Prod.mk.injEq] at hp
  exact ⟨x, hx, hp.1.symm, hp.2.symm⟩

theorem nodup_map_inj {α β : Type} {f : α → β} : ∀ {l : List α}, (l.map f).Nodup → ∀ {a b : α}, a ∈ l → b ∈ l → f a = f b → a = b
  | [], _, _, _, h, _, _ => by cases h
  | x :: l, hn, a, b, ha, hb, h => by
    simp only [List.map_cons, List.nodup_cons] at hn
    rcases List.mem_cons.1 ha with rfl | ha' <;> rcases List.mem_cons.1 hb with rfl | hb'
    · rfl
    · exact absurd (List.mem_map.2 ⟨b, hb', h.symm⟩) hn.1
    · exact absurd (List.mem_map.2 ⟨a, ha', h⟩) hn.1
    · exact nodup_map_inj hn.2 ha' hb' h
theorem keys_nodup {l : List Ent} {es : List MapEntry} {c : Nat} (h : AlikeM (epairs l) es c) (hu : Uniq l) : (es.map (·.key)).Nodup := by
  have e1 : es.map (·.key) = (pairs es).map (·.1) := by simp [pairs]
  have e2 : (epairs l).map (·.1) = (l.map (·.t)).map (Value.int .i64) := by simp [epairs]
  rw [e1, (h.1.map _).nodup_iff, e2]
  exact List.Pairwise.map _ (fun a b hab e => hab (by cases e; rfl)) hu
theorem key_inj {l : List Ent} {es : List MapEntry} {c : Nat} (h : AlikeM (epairs l) es c) (hu : Uniq l) {a b : MapEntry} (ha : a ∈ es) (hb : b ∈ es) (e : a.key = b.key) : a = b := nodup_map_inj (keys_nodup h hu) ha hb e

set_option maxHeartbeats 1000000 in
theorem runs16 (c : Nat) (l : List Ent) (hl : l.length ≤ 8) (hu : Uniq l) : Runs Try.prog cfg 16 [.pointer (some ⟨0, 0, none⟩)] (AH.of [some (.hi (.set c l))])
    fun r H' => r = .ret (.pointer (some ⟨1, 0, none⟩)) ∧ H' = AH.of [some (.hi (.set c l)), some (.hi (.set 0 l))] := by
  refine Runs.ends ?_
  refine Runs.openSet fun es cc hes hlen hren => ?_
  refine runs_by (tbl := tblTv) tblTv_ok (l.length + 1) 1 (af := a16) rfl ?_
  rw [a16, b16, run_eq]
  refine ⟨by simp, ?_⟩
  have h1 : l.length ≤ 1000000 := by omega
  simp (implicitDefEqProofs := false) [tblTv, st37, getInts, h1, forms24, a24, b24]
  refine loop_view (sg_mono gX_ok (tabS_ok (by simp [st37_ok, st40_ok])) _ _ noY noY_mono) (fun m tm H => ∃ vis es2 cc2, m = leftN es vis ∧ MMet es vis ∧ AlikeM (pairs vis) es2 cc2 ∧ tm 3 = .pointer (some ⟨4, 0, none⟩) ∧ tm 21 = .pointer (some ⟨6, 0, none⟩) ∧
    H = AH.of [some (.arr 57 [.slice (some ⟨1, 0, none⟩) l.length 1, .map (some 2)]), some (.arr 3 (tvars l)), some (.map es cc), some (.map es2 cc2), some (.arr 57 [.slice (some ⟨5, 0, none⟩) l.length 1, .map (some 3)]), some (.arr 3 (tvars l)), some (.miter 2 cc (vis.map (·.born)) cc)]) (m := leftN es []) ?_ (by have := leftN_le es []; omega) ?_
  · refine round_plan [] [0, 1, 2, 3, 4, 5, 6] [some (.arr 57 [.slice (some ⟨1, 0, none⟩) l.length 1, .map (some 2)]), some (.arr 3 (tvars l)), some (.map es cc), some (.map [] 0), some (.arr 57 [.slice (some ⟨5, 0, none⟩) l.length 1, .map (some 3)]), some (.arr 3 (tvars l)), some (.miter 2 cc [] cc)] (leftN es []) (by omega) ?_ ?_ ⟨[], [], 0, rfl, MMet.nil es, AlikeM.nil 0, ?_⟩ <;> simp [hren, tvars_ints]
    done
  rintro m tm H ⟨vis, es2, cc2, hm, hmet, hal, t3, t21, rfl⟩
  have hold := hes.2.2
  simp (implicitDefEqProofs := false) [t3, t21]
  refine ⟨hold, fun hall => ?_, fun e he hn => ?_⟩
  · have hperm := hmet.all hes.2.1 fun e he => by
      obtain ⟨a, ha, hb⟩ := hall e he
      exact List.mem_map.2 ⟨a, ha, hb⟩
    have hal2 : AlikeM (epairs l) es2 cc2 := (hal.of_perm (pairs_perm hperm)).of_perm hes.1
    refine ends_plan [.pack (GD.set 0 l) 4 [5, 3], .pack (GD.set c l) 0 [1, 2]] [0, 4] ?_ ?_ ?_ <;> simp [frag_set, AObj.mine, hes, hal2]
  · have hfound := hes.found he
    obtain ⟨x, hx, hk, hv⟩ := key_of hes he
    have hn' : e.born ∉ vis.map (·.born) := fun h => by
      obtain ⟨a, ha, hb⟩ := List.mem_map.1 h
      exact hn a ha hb
    have hput : putIn false (.int .i64 x.t) x.val cc2 es2 = some (es2 ++ [⟨.int .i64 x.t, x.val, cc2⟩], cc2 + 1) := put_new (find_none fun e' he' => by
      have : (e'.key, e'.val) ∈ pairs vis := hal.1.mem_iff.1 (List.mem_map.2 ⟨e', he', rfl⟩)
      obtain ⟨v, hv1, hv2⟩ := List.mem_map.1 this
      simp only [Prod.mk.injEq] at hv2
      obtain ⟨y, hy, hky, _⟩ := key_of hes (hmet.sub v hv1)
      refine ⟨y.t, by rw [← hv2.1, hky], fun ht => ?_⟩
      have : v = e := key_inj hes hu (hmet.sub v hv1) he (by rw [hky, hk, ht])
      exact hn v hv1 (by rw [this]))
    simp only [Ent.val, Ent.cells] at hput hv
    have hal3 : AlikeM (pairs (vis ++ [e])) (es2 ++ [⟨.int .i64 x.t, .agg #[.int .i64 x.t, .int .u64 x.v, .int .u64 x.n], cc2⟩]) (cc2 + 1) := by
      rw [pairs_append]
      have := hal.add (.int .i64 x.t) (.agg #[.int .i64 x.t, .int .u64 x.v, .int .u64 x.n])
      simpa [pairs, hk, hv] using this
    have hlt := leftN_add he hn'
    have hr2 : ∀ θ, (es2.map fun e => (⟨ren θ e.key, ren θ e.val, e.born⟩ : MapEntry)) = es2 := fun θ => ren_entries θ fun e' he' => by
      have : (e'.key, e'.val) ∈ pairs vis := hal.1.mem_iff.1 (List.mem_map.2 ⟨e', he', rfl⟩)
      obtain ⟨v, hv1, hv2⟩ := List.mem_map.1 this
      simp only [Prod.mk.injEq] at hv2
      obtain ⟨y, hy, hky, hvy⟩ := key_of hes (hmet.sub v hv1)
      rw [← hv2.1, ← hv2.2, hky, hvy]
      exact ⟨rfl, rfl⟩
    simp (implicitDefEqProofs := false) [hfound, hk, hv, hput, t3, t21]
    refine round_plan [] [0, 1, 2, 3, 4, 5, 6] [some (.arr 57 [.slice (some ⟨1, 0, none⟩) l.length 1, .map (some 2)]), some (.arr 3 (tvars l)), some (.map es cc), some (.map (es2 ++ [⟨.int .i64 x.t, .agg #[.int .i64 x.t, .int .u64 x.v, .int .u64 x.n], cc2⟩]) (cc2 + 1)), some (.arr 57 [.slice (some ⟨5, 0, none⟩) l.length 1, .map (some 3)]), some (.arr 3 (tvars l)), some (.miter 2 cc ((vis ++ [e]).map (·.born)) cc)] (leftN es (vis ++ [e])) (by omega) ?_ ?_ ⟨vis ++ [e], rfl, hmet.add he hn', _, _, hal3, ?_⟩ <;> simp [hren, hr2, t3, t21]
def st16 : CStep GD := fun args H => match args with
  | [x] => (ptr0 x).bind fun k => (getSet H k).map fun s => (s.2.length ≤ 8 ∧ Uniq s.2, .ret (.pointer (some ⟨H.next, 0, none⟩)), H.add (.hi (.set 0 s.2)))
  | _ => none
theorem st16_ok : CStepOk Try.prog cfg 16 st16 := by
  intro args H p r H' h hp
  unfold st16 at h
  split at h
  case h_2 => cases h
  simp only [Option.map_eq_some_iff, Option.bind_eq_some_iff] at h
  obtain ⟨k, hk, s, hs, h⟩ := h
  cases h
  rw [ptr0_inv hk]
  exact (runs16 s.1 s.2 hp.1 hp.2).atK (ro_none rfl) [k] (by simp) (by simp) (by simp [getSet_inv hs]) (by simp) (by simp) (by simp [upd_get (getSet_inv hs)])
end Ytlecfiofljigbaa
end Go.Proofs
/-
  The reference: Newest, Tvars.
-/
set_option linter.unusedSimpArgs false
set_option linter.unusedVariables false
set_option linter.unnecessarySimpa false
set_option linter.unusedSectionVars false
namespace Go.Proofs
namespace Ytlecfiofljigbaa
open Go.Abs
set_option linter.unusedSimpArgs false

theorem rows_n {l : List Ent} {i : Nat} {x : Ent} (h : l[i]? = some x) : (rows l)[i * 3 + 2]? = some (.int .u64 x.n) := by
  have := many_rows h
  have h2 : (((rows l).drop (i * 3)).take 3)[2]? = some (.int .u64 x.n) := by rw [this]; rfl
  simpa using h2

set_option maxHeartbeats 1000000 in
theorem runs35 (l : List Ent) (hl : l.length ≤ 1000000) : Runs Try.prog cfg 35 [.pointer (some ⟨0, 0, none⟩)] (AH.of [some (.hi (.rset l))])
    fun r H' => r = .ret (.int .u64 (newest l)) ∧ H' = AH.of [some (.hi (.rset l))] := by
  refine Runs.ends ?_
  refine Runs.opn 0 rfl ?_
  refine runs_by (tbl := []) (by simp) (l.length + 1) 0 (af := a35) rfl ?_
  rw [a35, b35, run_eq]
  refine ⟨by simp, ?_⟩
  simp (implicitDefEqProofs := false) [frag_rset]
  refine loop_inv (sg_mono gX_ok (tabS_ok (by simp)) _ _ noY noY_mono) (fun m tm H => ∃ i : Nat, m + i = l.length ∧ tm 0 = .pointer (some ⟨0, 0, none⟩) ∧ tm 3 = .int .u64 (newest (l.take i)) ∧ tm 4 = .int .i64 i ∧
    H = AH.of [some (.arr 62 [.slice (some ⟨1, 0, none⟩) l.length 1]), some (.arr 32 (rows l))]) (m := l.length) ⟨0, by simp [newest]⟩ (by omega) ?_
  rintro m tm H ⟨i, hm, t0, t3, t4, rfl⟩
  by_cases hi : i < l.length
  · obtain ⟨x, hx⟩ : ∃ x, l[i]? = some x := ⟨l[i], List.getElem?_eq_getElem hi⟩
    have hi' : (i : Int) < l.length := by omega
    have hw := inc_i64 hi hl
    have hnx : newest (l.take (i + 1)) = if x.n > newest (l.take i) then x.n else newest (l.take i) := by
      rw [List.take_add_one, hx]
      simp [newest, List.foldl_append]
    simp (implicitDefEqProofs := false) [t0, t3, t4, hi', rows_n hx, hw]
    refine ⟨fun hgt => ⟨m - 1, by omega, i + 1, by omega, ?_, by omega⟩, fun hgt => ⟨m - 1, by omega, i + 1, by omega, ?_, by omega⟩⟩
    · rw [hnx, if_pos hgt]
    · rw [hnx, if_neg (by omega)]
  · have hi' : ¬ (i : Int) < l.length := by omega
    have hil : i = l.length := by omega
    subst hil
    simp (implicitDefEqProofs := false) [t0, t3, t4]
    refine ends_plan [.pack (GD.rset l) 0 [1]] [0] ?_ ?_ ?_ <;> simp [frag_rset, AObj.mine]
def st35 : CStep GD := fun args H => match args with
  | [x] => (ptr0 x).bind fun k => (getRset H k).map fun l => (l.length ≤ 8, .ret (.int .u64 (newest l)), H)
  | _ => none
theorem st35_ok : CStepOk Try.prog cfg 35 st35 := by
  intro args H p r H' h hp
  unfold st35 at h
  split at h
  case h_2 => cases h
  simp only [Option.map_eq_some_iff, Option.bind_eq_some_iff] at h
  obtain ⟨k, hk, l, hs, h⟩ := h
  cases h
  rw [ptr0_inv hk]
  exact (runs35 l (by omega)).atK (ro_none rfl) [k] (by simp) (by simp) (by simp [getRset_inv hs]) (by simp) (by simp) (by simp [upd_get (getRset_inv hs)])

/-! ### Tvars -/
def hasT (l : List Ent) (i : Nat) : Bool := (getE l i).isSome
def tvN (l : List Ent) (n : Nat) : List Int := ((List.range n).filter (hasT l)).map fun i : Nat => (i : Int)
theorem tvN_succ (l : List Ent) (n : Nat) : tvN l (n + 1) = tvN l n ++ (if hasT l n then [(n : Int)] else []) := by
  unfold tvN
  rw [List.range_succ, List.filter_append, List.map_append]
  by_cases h : hasT l n <;> simp [h]
theorem tvN_le (l : List Ent) (n : Nat) : (tvN l n).length ≤ n := by
  unfold tvN
  rw [List.length_map]
  have := List.length_filter_le (hasT l) (List.range n)
  simpa using this

theorem ints_single (v : Int) : ints [v] = [.int .i64 v] := rfl
def tblG : List (FuncId × CStep GD) := [(30, st30)]
theorem tblG_ok : ∀ x ∈ tblG, CStepOk Try.prog cfg x.1 x.2 := by simp [tblG, st30_ok]
set_option maxHeartbeats 1000000 in
theorem runs34 (l : List Ent) (hl : l.length ≤ 8) : Runs Try.prog cfg 34 [.pointer (some ⟨0, 0, none⟩)] (AH.of [some (.hi (.rset l))])
    fun r H' => r = .ret (.slice (some ⟨1, 0, none⟩) (tvN l 12).length 1) ∧ H' = AH.of [some (.hi (.rset l)), some (.arr 3 (ints (tvN l 12)))] := by
  refine Runs.ends ?_
  refine runs_by (tbl := tblG) tblG_ok 14 0 (af := a34) rfl ?_
  rw [a34, b34, run_eq]
  refine ⟨by simp, ?_⟩
  simp (implicitDefEqProofs := false)
  have hl2 : l.length < 9223372036854775807 := by omega
  refine loop_view (sg_mono gX_ok (tabS_ok tblG_ok) _ _ noY noY_mono) (fun m tm H => ∃ i : Nat, m + i = 12 ∧ tm 0 = .pointer (some ⟨0, 0, none⟩) ∧ tm 3 = .slice (some ⟨1, 0, none⟩) (tvN l i).length 1 ∧ tm 4 = .int .i64 i ∧
    H = AH.of [some (.hi (.rset l)), some (.arr 3 (ints (tvN l i)))]) (m := 12) ?_ (by omega) ?_
  · refine round_wk [.nil 3] [0, 1] [some (.hi (.rset l)), some (.arr 3 (ints []))] [(3, .slice (some ⟨1, 0, none⟩) 0 1)] 12 (by omega) ?_ ?_ ?_ ⟨0, ?_⟩ <;> simp [tvN, ints]
    done
  rintro m tm H ⟨i, hm, t0, t3, t4, rfl⟩
  have hle := tvN_le l i
  by_cases hi : i < 12
  · have hi' : (i : Int) < 12 := by omega
    have hw : IntKind.i64.wrap ((i : Int) + 1) = ((i + 1 : Nat) : Int) := by rw [wrap_i64 (by omega) (by omega)]; omega
    have hr3 : ((tvN l i).length + 1) * 8 ≤ 140737488355328 ∧ (tvN l i).length ≤ 9223372036854775806 := by omega
    have htk := take_ints (tvN l i)
    cases hg : getE l i with
    | some y =>
      have hs : tvN l (i + 1) = tvN l i ++ [(i : Int)] := by rw [tvN_succ, if_pos (by simp [hasT, hg])]
      simp (implicitDefEqProofs := false) [tblG, st30, t0, t3, t4, hi', getT, hg, hl2, Ent.val, Ent.cells, hr3, htk, hw]
      refine round_plan [] [0, 4] [some (.hi (.rset l)), some (.arr 3 (ints (tvN l (i + 1))))] (m - 1) (by omega) ?_ ?_ ⟨i + 1, by omega, ?_⟩ <;> simp [t0, t3, t4, hs, ints_append, ints_single]
    | none =>
      have hs : tvN l (i + 1) = tvN l i := by rw [tvN_succ, if_neg (by simp [hasT, hg])]; simp
      simp (implicitDefEqProofs := false) [tblG, st30, t0, t3, t4, hi', getT, hg, hl2, Ent.val, Ent.cells, zeroE, hw]
      refine round_plan [] [0, 1] [some (.hi (.rset l)), some (.arr 3 (ints (tvN l (i + 1))))] (m - 1) (by omega) ?_ ?_ ⟨i + 1, by omega, ?_⟩ <;> simp [t0, t3, t4, hs]
  · have hi' : ¬ (i : Int) < 12 := by omega
    have hil : i = 12 := by omega
    subst hil
    simp (implicitDefEqProofs := false) [t0, t3, t4]
    refine ends_plan [] [0, 1] ?_ ?_ ?_ <;> simp
def st34 : CStep GD := fun args H => match args with
  | [x] => (ptr0 x).bind fun k => (getRset H k).map fun l => (l.length ≤ 8, .ret (.slice (some ⟨H.next, 0, none⟩) (tvN l 12).length 1), H.add (.arr 3 (ints (tvN l 12))))
  | _ => none
theorem st34_ok : CStepOk Try.prog cfg 34 st34 := by
  intro args H p r H' h hp
  unfold st34 at h
  split at h
  case h_2 => cases h
  simp only [Option.map_eq_some_iff, Option.bind_eq_some_iff] at h
  obtain ⟨k, hk, l, hs, h⟩ := h
  cases h
  rw [ptr0_inv hk]
  exact (runs34 l hp).atK (ro_none rfl) [k] (by simp) (by simp) (by simp [getRset_inv hs]) (by simp) (by simp) (by simp [upd_get (getRset_inv hs)])

/-! Both lists of variables are one. -/
theorem getE_isSome {l : List Ent} {t : Int} : (getE l t).isSome = true ↔ ∃ x ∈ l, x.t = t := by
  simp [getE, List.find?_isSome]
theorem tv_same {l : List Ent} (h : Good l) : sorted (tv l) = tvN l 12 := by
  have hnd : (tv l).Nodup := h.uniq
  have hr : ((List.range 12).map fun i : Nat => (i : Int)).Pairwise (· ≤ ·) := by decide
  have hsub : (tvN l 12).Sublist ((List.range 12).map fun i : Nat => (i : Int)) := (List.filter_sublist (l := List.range 12)).map _
  refine List.Perm.eq_of_pairwise (le := (· ≤ ·)) (fun a b _ _ h1 h2 => by omega) (sorted_pairwise _) (hr.sublist hsub) ?_
  refine (sorted_perm _).trans ((List.perm_ext_iff_of_nodup hnd ?_).2 fun a => ?_)
  · exact List.Pairwise.sublist hsub (by decide : ((List.range 12).map fun i : Nat => (i : Int)).Pairwise (· ≠ ·))
  · simp only [tv, tvN, List.mem_map, List.mem_filter, List.mem_range, hasT, getE_isSome]
    constructor
    · rintro ⟨x, hx, rfl⟩
      have := h.range x hx
      exact ⟨x.t.toNat, ⟨by omega, x, hx, by omega⟩, by omega⟩
    · rintro ⟨i, ⟨hi, x, hx, hxt⟩, rfl⟩
      exact ⟨x, hx, hxt⟩
end Ytlecfiofljigbaa
end Go.Proofs
/-
  Merge of the program, and of the reference.
-/
set_option linter.unusedSimpArgs false
set_option linter.unusedVariables false
set_option linter.unnecessarySimpa false
set_option linter.unusedSectionVars false
namespace Go.Proofs
namespace Ytlecfiofljigbaa
open Go.Abs
set_option linter.unusedSimpArgs false

def fresh (s : List Ent) (v : Value) : Bool := match v with
  | .int _ t => (getE s t).isNone
  | _ => false
def cntP (s : List Ent) (ps : List (Value × Value)) : Nat := (ps.filter fun p => fresh s p.1).length
def cntN (s o : List Ent) : Nat := (o.filter fun e => (getE s e.t).isNone).length
theorem cntP_perm {s : List Ent} {a b : List (Value × Value)} (h : a.Perm b) : cntP s a = cntP s b := (h.filter _).length_eq
theorem cntP_epairs (s o : List Ent) : cntP s (epairs o) = cntN s o := by
  unfold cntP cntN epairs
  rw [List.filter_map, List.length_map]
  rfl
theorem cntP_add (s : List Ent) (ps : List (Value × Value)) (t : Int) (v : Value) : cntP s (ps ++ [(.int .i64 t, v)]) = cntP s ps + if (getE s t).isNone then 1 else 0 := by
  unfold cntP
  rw [List.filter_append, List.length_append]
  simp only [List.filter_cons, List.filter_nil, fresh]
  split <;> simp
theorem cntP_le (s : List Ent) (ps : List (Value × Value)) : cntP s ps ≤ ps.length := List.length_filter_le _ _
theorem cntN_le (s o : List Ent) : cntN s o ≤ o.length := List.length_filter_le _ _
theorem cntN_succ {s o : List Ent} {i : Nat} {x : Ent} (h : o[i]? = some x) : cntN s (o.take (i + 1)) = cntN s (o.take i) + if (getE s x.t).isNone then 1 else 0 := by
  unfold cntN
  rw [List.take_add_one, h, List.filter_append, List.length_append]
  simp only [Option.toList_some, List.filter_cons, List.filter_nil]
  split <;> simp
def full (s o : List Ent) : Prop := 8 < s.length + cntN s o
instance (s o : List Ent) : Decidable (full s o) := by unfold full; infer_instance
def mergeCode (s o : List Ent) : Int := if full s o then 4 else 0
def mergeL (s o : List Ent) : List Ent := if full s o then s else o.foldl addL s
theorem Good.fold {s : List Ent} (h : Good s) (o : List Ent) : Good (o.foldl addL s) := by
  induction o generalizing s with
  | nil => exact h
  | cons e o ih => exact ih (h.add e)
theorem Good.merge {s : List Ent} (h : Good s) (o : List Ent) : Good (mergeL s o) := by
  unfold mergeL
  split
  · exact h
  · exact h.fold o

def tblM : List (FuncId × CStep GD) := [(25, st25), (14, st14)]
theorem tblM_ok : ∀ x ∈ tblM, CStepOk Try.prog cfg x.1 x.2 := by simp [tblM, st25_ok, st14_ok]

/-- Two sets are opened. -/
theorem Runs.openSets {f : FuncId} {args : List Value} {K : AEnd → AH GD → Prop} {c c' : Nat} {l l' : List Ent}
    (h : ∀ es cc es' cc', AlikeM (epairs l) es cc → AlikeM (epairs l') es' cc' → Runs Try.prog cfg f args (AH.of [some (.arr 57 [.slice (some ⟨2, 0, none⟩) l.length 1, .map (some 3)]), some (.arr 57 [.slice (some ⟨4, 0, none⟩) l'.length 1, .map (some 5)]), some (.arr 3 (tvars l)), some (.map es cc), some (.arr 3 (tvars l')), some (.map es' cc')]) K) :
    Runs Try.prog cfg f args (AH.of [some (.hi (.set c l)), some (.hi (.set c' l'))]) K := by
  have e : openK frag (AH.of [some (.hi (.set c l)), some (.hi (.set c' l'))]) 0 = some (AH.of [some (.arr 57 [.slice (some ⟨2, 0, none⟩) l.length 1, .map (some 3)]), some (.hi (.set c' l')), some (.arr 3 (tvars l)), some (.mapq (epairs l))]) := by
    simp [frag_set]
  have e2 : openK frag (AH.of [some (.arr 57 [.slice (some ⟨2, 0, none⟩) l.length 1, .map (some 3)]), some (.hi (.set c' l')), some (.arr 3 (tvars l)), some (.mapq (epairs l))]) 1 = some (AH.of [some (.arr 57 [.slice (some ⟨2, 0, none⟩) l.length 1, .map (some 3)]), some (.arr 57 [.slice (some ⟨4, 0, none⟩) l'.length 1, .map (some 5)]), some (.arr 3 (tvars l)), some (.mapq (epairs l)), some (.arr 3 (tvars l')), some (.mapq (epairs l'))]) := by
    simp [frag_set]
  refine Runs.opn 0 e (Runs.opn 1 e2 (Runs.expose 3 (ps := epairs l) rfl fun es cc hes => ?_))
  rw [of_upd _ _ _ (by simp)]
  refine Runs.expose 5 (ps := epairs l') rfl fun es' cc' hes' => ?_
  rw [of_upd _ _ _ (by simp)]
  exact h es cc es' cc' hes hes'

set_option maxHeartbeats 2000000 in
theorem runs21 (c c' : Nat) (s o : List Ent) (hs : Good s) (ho : Good o) : Runs Try.prog cfg 21 [.pointer (some ⟨0, 0, none⟩), .pointer (some ⟨1, 0, none⟩)] (AH.of [some (.hi (.set c s)), some (.hi (.set c' o))])
    fun r H' => r = .ret (.int .i64 (mergeCode s o)) ∧ H' = AH.of [some (.hi (.set c (mergeL s o))), some (.hi (.set c' o))] := by
  refine Runs.ends ?_
  refine Runs.openSets fun es cc eo co hes heo => ?_
  have hsl := hs.len
  have hol := ho.len
  have hel : es.length = s.length := by rw [hes.len, epairs_length]
  have heol : eo.length = o.length := by rw [heo.len, epairs_length]
  have hf := find_alike hes hs.uniq
  have hren := ren_alike hes
  have hreno := ren_alike heo
  refine runs_by (tbl := tblM) tblM_ok 10 0 (af := a21) rfl ?_
  rw [a21, b21, run_eq]
  refine ⟨by simp, ?_⟩
  simp (implicitDefEqProofs := false)
  refine loop_view (sg_mono gX_ok (tabS_ok tblM_ok) _ _ noY noY_mono) (fun m tm H => ∃ vis, m = leftN eo vis ∧ MMet eo vis ∧ vis.length + m ≤ eo.length ∧ tm 0 = .pointer (some ⟨0, 0, none⟩) ∧ tm 1 = .pointer (some ⟨1, 0, none⟩) ∧ tm 5 = .int .i64 (s.length + cntP s (pairs vis) : Nat) ∧ tm 26 = .pointer (some ⟨6, 0, none⟩) ∧
    H = AH.of [some (.arr 57 [.slice (some ⟨2, 0, none⟩) s.length 1, .map (some 3)]), some (.arr 57 [.slice (some ⟨4, 0, none⟩) o.length 1, .map (some 5)]), some (.arr 3 (tvars s)), some (.map es cc), some (.arr 3 (tvars o)), some (.map eo co), some (.miter 5 co (vis.map (·.born)) co)]) (m := leftN eo []) ?_ (by have := leftN_le eo []; omega) ?_
  · refine round_plan [] [0, 1, 2, 3, 4, 5, 6] [some (.arr 57 [.slice (some ⟨2, 0, none⟩) s.length 1, .map (some 3)]), some (.arr 57 [.slice (some ⟨4, 0, none⟩) o.length 1, .map (some 5)]), some (.arr 3 (tvars s)), some (.map es cc), some (.arr 3 (tvars o)), some (.map eo co), some (.miter 5 co [] co)] (leftN eo []) (by omega) ?_ ?_ ⟨[], rfl, MMet.nil eo, ?_, ?_⟩
    all_goals first | (simp [hren, hreno, hel, cntP, pairs]; done) | (have := leftN_le eo []; simpa using this)
  rintro m tm H ⟨vis, hm, hmet, hlen, t0, t1, t5, t26, rfl⟩
  have hold := heo.2.2
  have hc1 : cntP s (pairs vis) ≤ vis.length := by have := cntP_le s (pairs vis); simpa [pairs] using this
  simp (implicitDefEqProofs := false) [t0, t1, t5, t26]
  refine ⟨hold, fun hall => ?_, fun e he hn => ?_⟩
  · have hperm := hmet.all heo.2.1 fun e he => by
      obtain ⟨a, ha, hb⟩ := hall e he
      exact List.mem_map.2 ⟨a, ha, hb⟩
    have hcnt : cntP s (pairs vis) = cntN s o := by rw [cntP_perm ((pairs_perm hperm).trans heo.1), cntP_epairs]
    rw [hcnt]
    refine ⟨fun h8 => ?_, fun h8 => ?_⟩
    · have hfull : full s o := by unfold full; omega
      refine ends_plan [.pack (GD.set c s) 0 [2, 3], .pack (GD.set c' o) 1 [4, 5]] [0, 1] ?_ ?_ ?_ <;> simp [frag_set, AObj.mine, hes, heo, mergeCode, mergeL, hfull]
    · have hfull : ¬ full s o := by unfold full; omega
      simp (implicitDefEqProofs := false) only [tblM, st25]
      simp (implicitDefEqProofs := false)
      refine pack_first [.pack (GD.set c s) 0 [2, 3], .pack (GD.set c' o) 1 [4, 5]] ?_ ?_
      · simp [frag_set, AObj.mine, hes, heo]
      simp (implicitDefEqProofs := false) [st25, hol, ho.uniq, hfull]
      refine loop_view (sg_mono gX_ok (tabS_ok tblM_ok) _ _ noY noY_mono) (fun m tm H => ∃ i : Nat, m + i = o.length ∧ tm 0 = .pointer (some ⟨0, 0, none⟩) ∧ tm 47 = .slice (some ⟨7, 0, none⟩) o.length 1 ∧ tm 48 = .int .i64 o.length ∧ tm 49 = .int .i64 i ∧
        ∃ si, si = (o.take i).foldl addL s ∧ Good si ∧ H = AH.of [some (.hi (.set c si)), some (.hi (.set c' o)), none, none, none, none, none, some (.arr 32 (rows o))]) (m := o.length) ?_ (by omega) ?_
      · refine round_plan [] [0, 1, 2, 3, 4, 5, 6, 7] [some (.hi (.set c s)), some (.hi (.set c' o)), none, none, none, none, none, some (.arr 32 (rows o))] o.length (by omega) ?_ ?_ ⟨0, ?_⟩ <;> simp [t0, hs, ren_rows]
      rintro m tm H ⟨i, hm, t0, t47, t48, t49, si, hsi, hsg, rfl⟩
      by_cases hi : i < o.length
      · obtain ⟨x, hx⟩ : ∃ x, o[i]? = some x := ⟨o[i], List.getElem?_eq_getElem hi⟩
        have hi' : (i : Int) < o.length := by omega
        have hw := inc_i64 hi (by omega)
        have r3 := many_rows hx
        have hle : i * 3 + 3 ≤ (rows o).length := by rw [rows_length]; omega
        have hst : (o.take (i + 1)).foldl addL s = addL si x := by rw [List.take_add_one, hx, List.foldl_append, ← hsi]; rfl
        simp (implicitDefEqProofs := false) [tblM, st14, t0, t47, t48, t49, hi, hi', r3, hle, Ent.cells, hw, hsg.uniq]
        refine round_plan [] [0, 1, 2, 3, 4, 5, 6, 7] [some (.hi (.set c (addL si x))), some (.hi (.set c' o)), none, none, none, none, none, some (.arr 32 (rows o))] (m - 1) (by omega) ?_ ?_ ⟨i + 1, by omega, ?_⟩ <;> simp [t0, t47, t48, t49, hst, hsg.add x, ren_rows]
      · have hi' : ¬ (i : Int) < o.length := by omega
        have hil : o.length ≤ i := by omega
        have hm' : mergeL s o = si := by rw [mergeL, if_neg hfull, hsi, List.take_of_length_le hil]
        simp (implicitDefEqProofs := false) [t0, t47, t48, t49, hi']
        refine ends_plan [] [0, 1] ?_ ?_ ?_ <;> simp [mergeCode, hfull, hm']
  · have hfound := heo.found he
    obtain ⟨x, hx, hk, hv⟩ := key_of heo he
    have hn' : e.born ∉ vis.map (·.born) := fun h => by
      obtain ⟨a, ha, hb⟩ := List.mem_map.1 h
      exact hn a ha hb
    have hlt := leftN_add he hn'
    have hca : cntP s (pairs (vis ++ [e])) = cntP s (pairs vis) + if (getE s x.t).isNone then 1 else 0 := by
      rw [pairs_append]
      have : pairs [e] = [(.int .i64 x.t, e.val)] := by simp [pairs, hk]
      rw [this, cntP_add]
    cases hg : getE s x.t with
    | none =>
      have hw : IntKind.i64.wrap ((s.length : Int) + (cntP s (pairs vis) : Nat) + 1) = (s.length : Int) + (cntP s (pairs vis) : Nat) + 1 := wrap_i64 (by omega) (by omega)
      simp (implicitDefEqProofs := false) [hfound, hk, hv, hf, hg, t0, t1, t5, t26, hw]
      refine round_plan [] [0, 1, 2, 3, 4, 5, 6] [some (.arr 57 [.slice (some ⟨2, 0, none⟩) s.length 1, .map (some 3)]), some (.arr 57 [.slice (some ⟨4, 0, none⟩) o.length 1, .map (some 5)]), some (.arr 3 (tvars s)), some (.map es cc), some (.arr 3 (tvars o)), some (.map eo co), some (.miter 5 co ((vis ++ [e]).map (·.born)) co)] (leftN eo (vis ++ [e])) (by omega) ?_ ?_ ⟨vis ++ [e], rfl, hmet.add he hn', by simp; omega, ?_⟩
      all_goals simp [hren, hreno, t0, t1, t5, t26, hca, hg]
      omega
    | some y =>
      simp (implicitDefEqProofs := false) [hfound, hk, hv, hf, hg, t0, t1, t5, t26, Ent.val, Ent.cells]
      refine round_plan [] [0, 1, 2, 3, 4, 5, 6] [some (.arr 57 [.slice (some ⟨2, 0, none⟩) s.length 1, .map (some 3)]), some (.arr 57 [.slice (some ⟨4, 0, none⟩) o.length 1, .map (some 5)]), some (.arr 3 (tvars s)), some (.map es cc), some (.arr 3 (tvars o)), some (.map eo co), some (.miter 5 co ((vis ++ [e]).map (·.born)) co)] (leftN eo (vis ++ [e])) (by omega) ?_ ?_ ⟨vis ++ [e], rfl, hmet.add he hn', by simp; omega, ?_⟩
      all_goals simp [hren, hreno, t0, t1, t5, t26, hca, hg]
def stMerge2 : CStep GD := fun args H => match args with
  | [x, y] => (ptr0 x).bind fun k => (ptr0 y).bind fun k' => (getSet H k).bind fun s => (getSet H k').map fun o => (k ≠ k' ∧ Good s.2 ∧ Good o.2, .ret (.int .i64 (mergeCode s.2 o.2)), H.upd k (.hi (.set s.1 (mergeL s.2 o.2))))
  | _ => none
theorem stMerge2_ok : CStepOk Try.prog cfg 21 stMerge2 := by
  intro args H p r H' h hp
  unfold stMerge2 at h
  split at h
  case h_2 => cases h
  simp only [Option.map_eq_some_iff, Option.bind_eq_some_iff] at h
  obtain ⟨k, hk, k', hk', s, hs, o, ho, h⟩ := h
  cases h
  rw [ptr0_inv hk, ptr0_inv hk']
  exact (runs21 s.1 o.1 s.2 o.2 hp.2.1 hp.2.2).atK (ro_none rfl) [k, k'] (by simp [hp.1]) (by simp) (by simp [getSet_inv hs, getSet_inv ho]) (by simp) (by simp) (by simp [AObj.ren]; exact (upd_get (by rw [AH.get_upd, if_neg (Ne.symm hp.1)]; exact getSet_inv ho)).symm)

theorem ptr0_nil : ptr0 (.pointer none) = none := rfl
attribute [simp] ptr0_nil
def isNil : Value → Option Unit
  | .pointer none => some ()
  | _ => none
theorem isNil_eq : isNil (.pointer none) = some () := rfl
theorem isNil_ptr (k o : Nat) : isNil (.pointer (some ⟨k, o, none⟩)) = none := rfl
attribute [simp] isNil_eq isNil_ptr
theorem isNil_inv {v : Value} {u : Unit} (h : isNil v = some u) : v = .pointer none := by
  unfold isNil at h
  split at h
  · rfl
  · cases h
theorem runs_Merge1 (c : Nat) (s : List Ent) : Runs Try.prog cfg 21 [.pointer (some ⟨0, 0, none⟩), .pointer none] (AH.of [some (.hi (.set c s))])
    fun r H' => r = .ret (.int .i64 1) ∧ H' = AH.of [some (.hi (.set c s))] := by
  refine Runs.ends ?_
  refine runs_by (tbl := []) (by simp) 0 0 (af := a21) rfl ?_
  rw [a21, b21, run_eq]
  refine ⟨by simp, ?_⟩
  simp (implicitDefEqProofs := false)
  refine ends_plan [] [0] ?_ ?_ ?_ <;> simp
def stMerge1 : CStep GD := fun args H => match args with
  | [x, y] => (ptr0 x).bind fun k => (isNil y).bind fun _ => (getSet H k).map fun s => (True, .ret (.int .i64 1), H)
  | _ => none
theorem stMerge1_ok : CStepOk Try.prog cfg 21 stMerge1 := by
  intro args H p r H' h hp
  unfold stMerge1 at h
  split at h
  case h_2 => cases h
  simp only [Option.map_eq_some_iff, Option.bind_eq_some_iff] at h
  obtain ⟨k, hk, u, hu, s, hs, h⟩ := h
  cases h
  rw [ptr0_inv hk, isNil_inv hu]
  exact (runs_Merge1 s.1 s.2).atK (ro_none rfl) [k] (by simp) (by simp) (by simp [getSet_inv hs]) (by simp) (by simp) (by simp [upd_get (getSet_inv hs)])
def st21 : CStep GD := stMerge2.or stMerge1
theorem st21_ok : CStepOk Try.prog cfg 21 st21 := CStep.or_ok stMerge2_ok stMerge1_ok

/-! ### The reference -/
def tblMR : List (FuncId × CStep GD) := [(30, st30), (32, st32), (18, st18)]
theorem tblMR_ok : ∀ x ∈ tblMR, CStepOk Try.prog cfg x.1 x.2 := by simp [tblMR, st30_ok, st32_ok, st18_ok]
set_option maxHeartbeats 2000000 in
theorem runs22 (s o : List Ent) (hs : Good s) (ho : Good o) (hok : ∀ e ∈ o, e.Ok) : Runs Try.prog cfg 22 [.pointer (some ⟨0, 0, none⟩), .pointer (some ⟨1, 0, none⟩)] (AH.of [some (.hi (.rset s)), some (.hi (.rset o))])
    fun r H' => r = .ret (.int .i64 (mergeCode s o)) ∧ H' = AH.of [some (.hi (.rset (mergeL s o))), some (.hi (.rset o))] := by
  refine Runs.ends ?_
  refine Runs.opn 1 rfl ?_
  have hsl := hs.len
  have hol := ho.len
  refine runs_by (tbl := tblMR) tblMR_ok 10 0 (af := a22) rfl ?_
  rw [a22, b22, run_eq]
  refine ⟨by simp, ?_⟩
  simp (implicitDefEqProofs := false) [frag_rset]
  refine loop_view (sg_mono gX_ok (tabS_ok tblMR_ok) _ _ noY noY_mono) (fun m tm H => ∃ i : Nat, m + i = o.length ∧ tm 0 = .pointer (some ⟨0, 0, none⟩) ∧ tm 1 = .pointer (some ⟨1, 0, none⟩) ∧ tm 5 = .int .i64 (cntN s (o.take i)) ∧ tm 6 = .int .i64 i ∧
    H = AH.of [some (.hi (.rset s)), some (.arr 62 [.slice (some ⟨2, 0, none⟩) o.length 1]), some (.arr 32 (rows o))]) (m := o.length) ?_ (by omega) ?_
  · refine round_plan [] [0, 1, 2] [some (.hi (.rset s)), some (.arr 62 [.slice (some ⟨2, 0, none⟩) o.length 1]), some (.arr 32 (rows o))] o.length (by omega) ?_ ?_ ⟨0, ?_⟩ <;> simp [ren_rows, cntN]
  rintro m tm H ⟨i, hm, t0, t1, t5, t6, rfl⟩
  have hsl2 : s.length < 9223372036854775807 := by omega
  by_cases hi : i < o.length
  · obtain ⟨x, hx⟩ : ∃ x, o[i]? = some x := ⟨o[i], List.getElem?_eq_getElem hi⟩
    have hi' : (i : Int) < o.length := by omega
    have hw := inc_i64 hi (by omega)
    have hcn := cntN_succ (s := s) hx
    have hcl : cntN s (o.take i) ≤ 8 := by have := cntN_le s (o.take i); rw [List.length_take] at this; omega
    cases hg : getE s x.t with
    | none =>
      have hw2 : IntKind.i64.wrap ((cntN s (o.take i) : Int) + 1) = ((cntN s (o.take i) + 1 : Nat) : Int) := by rw [wrap_i64 (by omega) (by omega)]; omega
      simp (implicitDefEqProofs := false) [tblMR, st30, t0, t1, t5, t6, hi, hi', rows_at hx, hsl2, getT, hg, Ent.val, Ent.cells, zeroE, hw, hw2]
      refine round_plan [] [0, 1, 2] [some (.hi (.rset s)), some (.arr 62 [.slice (some ⟨2, 0, none⟩) o.length 1]), some (.arr 32 (rows o))] (m - 1) (by omega) ?_ ?_ ⟨i + 1, by omega, ?_⟩ <;> simp [t0, t1, t5, t6, hcn, hg, ren_rows]
    | some y =>
      simp (implicitDefEqProofs := false) [tblMR, st30, t0, t1, t5, t6, hi, hi', rows_at hx, hsl2, getT, hg, Ent.val, Ent.cells, zeroE, hw]
      refine round_plan [] [0, 1, 2] [some (.hi (.rset s)), some (.arr 62 [.slice (some ⟨2, 0, none⟩) o.length 1]), some (.arr 32 (rows o))] (m - 1) (by omega) ?_ ?_ ⟨i + 1, by omega, ?_⟩ <;> simp [t0, t1, t5, t6, hcn, hg, ren_rows]
  · have hi' : ¬ (i : Int) < o.length := by omega
    have hil : i = o.length := by omega
    subst hil
    have hcl : cntN s o ≤ 8 := by have := cntN_le s o; omega
    have hw : IntKind.i64.wrap ((s.length : Int) + (cntN s o : Nat)) = (s.length : Int) + (cntN s o : Nat) := wrap_i64 (by omega) (by omega)
    simp (implicitDefEqProofs := false) [t0, t1, t5, t6, hi', frag_rset, hw]
    refine ⟨fun h8 => ?_, fun h8 => ?_⟩
    · have hfull : full s o := by unfold full; omega
      refine ends_plan [.pack (GD.rset s) 0 [3], .pack (GD.rset o) 1 [2]] [0, 1] ?_ ?_ ?_ <;> simp [frag_rset, AObj.mine, mergeCode, mergeL, hfull]
    · have hfull : ¬ full s o := by unfold full; omega
      simp (implicitDefEqProofs := false) only [tblMR, st32]
      simp (implicitDefEqProofs := false)
      refine pack_first [.pack (GD.rset s) 0 [3], .pack (GD.rset o) 1 [2]] ?_ ?_
      · simp [frag_rset, AObj.mine]
      simp (implicitDefEqProofs := false) [st32, hol]
      refine loop_view (sg_mono gX_ok (tabS_ok tblMR_ok) _ _ noY noY_mono) (fun m tm H => ∃ i : Nat, m + i = o.length ∧ tm 0 = .pointer (some ⟨0, 0, none⟩) ∧ tm 9 = .slice (some ⟨4, 0, none⟩) o.length 1 ∧ tm 10 = .int .i64 i ∧
        ∃ si, si = (o.take i).foldl addL s ∧ Good si ∧ H = AH.of [some (.hi (.rset si)), some (.hi (.rset o)), none, none, some (.arr 32 (rows o))]) (m := o.length) ?_ (by omega) ?_
      · refine round_plan [] [0, 1, 2, 3, 4] [some (.hi (.rset s)), some (.hi (.rset o)), none, none, some (.arr 32 (rows o))] o.length (by omega) ?_ ?_ ⟨0, ?_⟩ <;> simp [t0, hs, ren_rows]
      rintro m tm H ⟨i, hm, t0, t9, t10, si, hsi, hsg, rfl⟩
      by_cases hi : i < o.length
      · obtain ⟨x, hx⟩ : ∃ x, o[i]? = some x := ⟨o[i], List.getElem?_eq_getElem hi⟩
        have hi' : (i : Int) < o.length := by omega
        have hw := inc_i64 hi (by omega)
        have r3 := many_rows hx
        have hle : i * 3 + 3 ≤ (rows o).length := by rw [rows_length]; omega
        have hxo : x.Ok := hok x (List.mem_of_getElem? hx)
        have hst : (o.take (i + 1)).foldl addL s = addL si x := by rw [List.take_add_one, hx, List.foldl_append, ← hsi]; rfl
        simp (implicitDefEqProofs := false) [tblMR, st18, t0, t9, t10, hi, hi', r3, hle, Ent.cells, hw, hsg.len, hxo.1, hxo.2]
        refine round_plan [] [0, 1, 2, 3, 4] [some (.hi (.rset (addL si x))), some (.hi (.rset o)), none, none, some (.arr 32 (rows o))] (m - 1) (by omega) ?_ ?_ ⟨i + 1, by omega, ?_⟩ <;> simp [t0, t9, t10, hst, hsg.add x, ren_rows]
      · have hi' : ¬ (i : Int) < o.length := by omega
        have hil : o.length ≤ i := by omega
        have hm' : mergeL s o = si := by rw [mergeL, if_neg hfull, hsi, List.take_of_length_le hil]
        simp (implicitDefEqProofs := false) [t0, t9, t10, hi']
        refine ends_plan [] [0, 1] ?_ ?_ ?_ <;> simp [mergeCode, hfull, hm']
def st22 : CStep GD := fun args H => match args with
  | [x, y] => (ptr0 x).bind fun k => (ptr0 y).bind fun k' => (getRset H k).bind fun s => (getRset H k').map fun o => (k ≠ k' ∧ Good s ∧ Good o ∧ ∀ e ∈ o, e.Ok, .ret (.int .i64 (mergeCode s o)), H.upd k (.hi (.rset (mergeL s o))))
  | _ => none
theorem st22_ok : CStepOk Try.prog cfg 22 st22 := by
  intro args H p r H' h hp
  unfold st22 at h
  split at h
  case h_2 => cases h
  simp only [Option.map_eq_some_iff, Option.bind_eq_some_iff] at h
  obtain ⟨k, hk, k', hk', s, hs, o, ho, h⟩ := h
  cases h
  rw [ptr0_inv hk, ptr0_inv hk']
  exact (runs22 s o hp.2.1 hp.2.2.1 hp.2.2.2).atK (ro_none rfl) [k, k'] (by simp [hp.1]) (by simp) (by simp [getRset_inv hs, getRset_inv ho]) (by simp) (by simp) (by simp [AObj.ren]; exact (upd_get (by rw [AH.get_upd, if_neg (Ne.symm hp.1)]; exact getRset_inv ho)).symm)
end Ytlecfiofljigbaa
end Go.Proofs
/-
  same.
-/
set_option linter.unusedSimpArgs false
set_option linter.unusedVariables false
set_option linter.unnecessarySimpa false
set_option linter.unusedSectionVars false
namespace Go.Proofs
namespace Ytlecfiofljigbaa
open Go.Abs
set_option linter.unusedSimpArgs false

def tblS : List (FuncId × CStep GD) := [(11, st11), (30, st30), (25, st25), (32, st32), (31, st31), (26, st26), (34, st34), (33, st33), (27, st27), (35, st35), (13, st13), (36, st36)]
theorem tblS_ok : ∀ x ∈ tblS, CStepOk Try.prog cfg x.1 x.2 := by simp [tblS, st11_ok, st30_ok, st25_ok, st32_ok, st31_ok, st26_ok, st34_ok, st33_ok, st27_ok, st35_ok, st13_ok, st36_ok]

set_option maxHeartbeats 2000000 in
theorem runs15 (c : Nat) (s : List Ent) (hs : Good s) : Runs Try.prog cfg 15 [.pointer (some ⟨0, 0, none⟩), .pointer (some ⟨1, 0, none⟩)] (AH.of [some (.hi (.set c s)), some (.hi (.rset s))])
    fun r H' => r = .ret (.bool true) ∧ H' = AH.of [some (.hi (.set c s)), some (.hi (.rset s))] := by
  refine Runs.ends ?_
  have hsl := hs.len
  have hu := hs.uniq
  refine runs_by (tbl := tblS) tblS_ok 16 0 (af := a15) rfl ?_
  rw [a15, b15, run_eq]
  refine ⟨by simp, ?_⟩
  simp (implicitDefEqProofs := false)
  have hsl2 : s.length < 9223372036854775807 := by omega
  refine loop_view (sg_mono gX_ok (tabS_ok tblS_ok) _ _ noY noY_mono) (fun m tm H => ∃ i : Nat, m + i = 14 ∧ tm 0 = .pointer (some ⟨0, 0, none⟩) ∧ tm 1 = .pointer (some ⟨1, 0, none⟩) ∧ tm 5 = .int .i64 ((i : Int) - 1) ∧
    H = AH.of [some (.hi (.set c s)), some (.hi (.rset s))]) (m := 14) ?_ (by omega) ?_
  · refine round_plan [] [0, 1] [some (.hi (.set c s)), some (.hi (.rset s))] 14 (by omega) ?_ ?_ ⟨0, ?_⟩ <;> simp
  rintro m tm H ⟨i, hm, t0, t1, t5, rfl⟩
  by_cases hi : i < 14
  · have hi' : (i : Int) - 1 ≤ 12 := by omega
    have hw : IntKind.i64.wrap (i : Int) = i := wrap_i64 (by omega) (by omega)
    simp (implicitDefEqProofs := false) [tblS, st11, st30, getT, Ent.val, Ent.cells, t0, t1, t5, hi', hu, hsl2, hw, aeqF, aggOf2]
    refine round_plan [] [0, 1] [some (.hi (.set c s)), some (.hi (.rset s))] (m - 1) (by omega) ?_ ?_ ⟨i + 1, ?_⟩ <;> simp [t0, t1, t5] <;> omega
  · have hi' : ¬ (i : Int) - 1 ≤ 12 := by omega
    have h1 : s.length ≤ 1000000 := by omega
    have h2 : (tvN s 12).length ≤ 1000000 := by have := tvN_le s 12; omega
    have h3 : s.length = (tvN s 12).length := by rw [← tv_same hs, (sorted_perm _).length_eq, tv_length]
    simp (implicitDefEqProofs := false) [tblS, st25, st32, st31, getEnts, st26, st34, st33, getInts, st27, st35, st13, st36, t0, t1, t5, hi', hu, hsl, h1, h2, h3, tv_same hs]
    refine ⟨by omega, ends_plan [] [0, 1] ?_ ?_ ?_⟩ <;> simp
def st15 : CStep GD := fun args H => match args with
  | [x, y] => (ptr0 x).bind fun k => (ptr0 y).bind fun k' => (getSet H k).bind fun s => (getRset H k').map fun l => (s.2 = l ∧ Good l, .ret (.bool true), H)
  | _ => none
theorem st15_ok : CStepOk Try.prog cfg 15 st15 := by
  intro args H p r H' h hp
  unfold st15 at h
  split at h
  case h_2 => cases h
  simp only [Option.map_eq_some_iff, Option.bind_eq_some_iff] at h
  obtain ⟨k, hk, k', hk', s, hs, o, ho, h⟩ := h
  cases h
  rw [ptr0_inv hk, ptr0_inv hk']
  have hs' := getSet_inv hs
  have ho' := getRset_inv ho
  rw [hp.1] at hs'
  have hne : k ≠ k' := fun e => by rw [e, ho'] at hs'; cases hs'
  exact (runs15 s.1 o hp.2).atK (ro_none rfl) [k, k'] (by simp [hne]) (by simp) (by simp [hs', ho']) (by simp) (by simp) (by simp [upd_get hs', upd_get ho'])
end Ytlecfiofljigbaa
end Go.Proofs
/-
  ReadsPlays, ReadsMerges, ReadsForks.
-/
set_option linter.unusedSimpArgs false
set_option linter.unusedVariables false
set_option linter.unnecessarySimpa false
set_option linter.unusedSectionVars false
namespace Go.Proofs
namespace Ytlecfiofljigbaa
open Go.Abs
set_option linter.unusedSimpArgs false

theorem addL_mem {l : List Ent} {e x : Ent} (h : x ∈ addL l e) : x ∈ l ∨ x = e := by
  unfold addL at h
  split at h
  · simpa using h
  · exact .inl h
theorem fold_mem {x : Ent} : ∀ {m l : List Ent}, x ∈ m.foldl addL l → x ∈ l ∨ x ∈ m
  | [], l, h => .inl h
  | e :: m, l, h => by
    rcases fold_mem (m := m) (l := addL l e) h with h | h
    · rcases addL_mem h with h | h
      · exact .inl h
      · exact .inr (by simp [h])
    · exact .inr (List.mem_cons_of_mem _ h)
theorem play_ok {l : List Ent} (hok : ∀ e ∈ l, e.Ok) : ∀ e ∈ playL l, e.Ok := fun e he => by
  rcases fold_mem (m := l.take 30) (l := []) he with h | h
  · cases h
  · exact hok e (List.mem_of_mem_take h)

def tbl22 : List (FuncId × CStep GD) := [(9, st9), (10, st10), (15, st15), (13, st13), (21, st21), (22, st22), (16, st16), (17, st17), (14, st14), (18, st18), (19, st19), (20, st20), (12, st12)]
theorem tbl22_ok : ∀ x ∈ tbl22, CStepOk Try.prog cfg x.1 x.2 := by simp [tbl22, st9_ok, st10_ok, st15_ok, st13_ok, st21_ok, st22_ok, st16_ok, st17_ok, st14_ok, st18_ok, st19_ok, st20_ok, st12_ok]

theorem runs5 (l : List Ent) (tg : Nat) (hok : ∀ e ∈ l, e.Ok) : Runs Try.prog cfg 5 [.slice (some ⟨0, 0, none⟩) l.length tg] (AH.of [some (.ro (rows l))])
    fun r H' => r = .ret (.bool true) ∧ H' = AH.of [some (.ro (rows l))] := by
  refine Runs.ends ?_
  refine runs_by (tbl := tbl22) tbl22_ok 0 0 (af := a5) rfl ?_
  rw [a5, b5, run_eq]
  refine ⟨by simp, ?_⟩
  have hg := Good.play l
  simp (implicitDefEqProofs := false) [tbl22, st9, st10, st15, getRows, hok, hg]
  refine ⟨hok, ends_plan [] [0] ?_ ?_ ?_⟩ <;> simp

set_option maxHeartbeats 1000000 in
theorem runs7 (l l2 : List Ent) (tg tg2 : Nat) (hok : ∀ e ∈ l, e.Ok) (hok2 : ∀ e ∈ l2, e.Ok) : Runs Try.prog cfg 7 [.slice (some ⟨0, 0, none⟩) l.length tg, .slice (some ⟨1, 0, none⟩) l2.length tg2] (AH.of [some (.ro (rows l)), some (.ro (rows l2))])
    fun r H' => r = .ret (.bool true) ∧ H' = AH.of [some (.ro (rows l)), some (.ro (rows l2))] := by
  refine Runs.ends ?_
  refine runs_by (tbl := tbl22) tbl22_ok 0 0 (af := a7) rfl ?_
  rw [a7, b7, run_eq]
  refine ⟨by simp, ?_⟩
  have hg := Good.play l
  have hg2 := Good.play l2
  have hp2 := play_ok hok2
  have hgm := hg.merge (playL l2)
  by_cases hf : full (playL l) (playL l2)
  · have hc : mergeCode (playL l) (playL l2) = 4 := by rw [mergeCode, if_pos hf]
    have hL : mergeL (playL l) (playL l2) = playL l := by rw [mergeL, if_pos hf]
    simp (implicitDefEqProofs := false) [tbl22, st9, st10, st15, st13, st21, stMerge2, stMerge1, CStep.or, st22, getRows, hok, hok2, hg, hg2, hp2, hc, hL]
    refine ⟨hok, hok2, hp2, ends_plan [] [0, 1] ?_ ?_ ?_⟩ <;> simp
  · have hc : mergeCode (playL l) (playL l2) = 0 := by rw [mergeCode, if_neg hf]
    simp (implicitDefEqProofs := false) [tbl22, st9, st10, st15, st13, st21, stMerge2, stMerge1, CStep.or, st22, getRows, hok, hok2, hg, hg2, hp2, hc, hgm]
    refine ⟨hok, hok2, hp2, ends_plan [] [0, 1] ?_ ?_ ?_⟩ <;> simp

set_option maxHeartbeats 1000000 in
theorem runs6 (l l2 : List Ent) (tg tg2 : Nat) (hok : ∀ e ∈ l, e.Ok) (hok2 : ∀ e ∈ l2, e.Ok) : Runs Try.prog cfg 6 [.slice (some ⟨0, 0, none⟩) l.length tg, .slice (some ⟨1, 0, none⟩) l2.length tg2] (AH.of [some (.ro (rows l)), some (.ro (rows l2))])
    fun r H' => r = .ret (.bool true) ∧ H' = AH.of [some (.ro (rows l)), some (.ro (rows l2))] := by
  refine Runs.ends ?_
  refine runs_by (tbl := tbl22) tbl22_ok 14 0 (af := a6) rfl ?_
  rw [a6, b6, run_eq]
  refine ⟨by simp, ?_⟩
  have hg := Good.play l
  generalize hs : playL l = s at hg
  have hu := hg.uniq
  have hl8 := hg.len
  simp (implicitDefEqProofs := false) [tbl22, st9, st10, st16, st17, getRows, hok, hu, hl8, hs]
  refine ⟨hok, ?_⟩
  refine loop_inv (sg_mono gX_ok (tabS_ok tbl22_ok) _ _ noY noY_mono) (fun m tm H => ∃ i, m + i = 12 ∧ i ≤ l2.length ∧ tm 1 = .slice (some ⟨1, 0, none⟩) l2.length tg2 ∧ tm 5 = .pointer (some ⟨2, 0, none⟩) ∧ tm 6 = .pointer (some ⟨3, 0, none⟩) ∧ tm 8 = .pointer (some ⟨4, 0, none⟩) ∧ tm 9 = .pointer (some ⟨5, 0, none⟩) ∧ tm 10 = .int .i64 (i : Nat) ∧
      ∃ f, Good f ∧ H = AH.of [some (.ro (rows l)), some (.ro (rows l2)), some (.hi (.set 0 s)), some (.hi (.rset s)), some (.hi (.set 0 f)), some (.hi (.rset f))])
    (m := 12) ⟨0, by simp; exact ⟨s, hg, rfl⟩⟩ (by omega) ?_
  rintro m tm H ⟨i, hm, hil, t1, t5, t6, t8, t9, t10, f, hfg, rfl⟩
  by_cases hi : i < l2.length ∧ i < 12
  · obtain ⟨hi, hi3⟩ := hi
    obtain ⟨x, hx⟩ : ∃ x, l2[i]? = some x := ⟨l2[i], List.getElem?_eq_getElem hi⟩
    have r3 := many_rows hx
    have hf8 := hfg.len
    have hfu := hfg.uniq
    have hle : i * 3 + 3 ≤ (rows l2).length := by rw [rows_length]; omega
    have hxo : x.Ok := hok2 x (List.mem_of_getElem? hx)
    have hi' : (i : Int) < l2.length := by omega
    have hi3' : (i : Int) < 12 := by omega
    have hw : IntKind.i64.wrap ((i : Int) + 1) = ((i + 1 : Nat) : Int) := by rw [wrap_i64 (by omega) (by omega)]; omega
    simp (implicitDefEqProofs := false) [tbl22, st14, st18, t1, t5, t6, t8, t9, t10, hi', hi3', hi, r3, hle, Ent.cells, hf8, hfu, hxo.1, hxo.2, hw]
    exact ⟨m - 1, by omega, i + 1, by omega, by omega, by omega, _, hfg.add x, rfl⟩
  · have hfl := hfg.len
    by_cases hi1 : i < l2.length
    · have hi' : (i : Int) < l2.length := by omega
      have hi3' : ¬ (i : Int) < 12 := by omega
      simp (implicitDefEqProofs := false) [tbl22, st15, st13, st19, st20, st12, t1, t5, t6, t8, t9, t10, hi', hi3', hg, hfg, good_nil]
      refine ⟨good_nil.goodL, ends_plan [] [0, 1] ?_ ?_ ?_⟩ <;> simp [brk]
    · have hi' : ¬ (i : Int) < l2.length := by omega
      simp (implicitDefEqProofs := false) [tbl22, st15, st13, st19, st20, st12, t1, t5, t6, t8, t9, t10, hi', hg, hfg, good_nil]
      refine ⟨good_nil.goodL, ends_plan [] [0, 1] ?_ ?_ ?_⟩ <;> simp [brk]
end Ytlecfiofljigbaa
end Go.Proofs
/-
  ReadsNone: a set that is none.
-/
set_option linter.unusedSimpArgs false
set_option linter.unusedVariables false
set_option linter.unnecessarySimpa false
set_option linter.unusedSectionVars false
namespace Go.Proofs
namespace Ytlecfiofljigbaa
open Go.Abs
set_option linter.unusedSimpArgs false

def tbl23 : List (FuncId × CStep GD) := [(10, st10), (24, st24)]
theorem tbl23_ok : ∀ x ∈ tbl23, CStepOk Try.prog cfg x.1 x.2 := by simp [tbl23, st10_ok, st24_ok]
set_option maxHeartbeats 4000000 in
theorem runs8 (t v n : Int) (h : List Int) (th : Nat) : Runs Try.prog cfg 8 [.agg #[.int .i64 t, .int .u64 v, .int .u64 n], .slice (some ⟨0, 0, none⟩) h.length th] (AH.of [some (.ro (us h))])
    fun r H' => r = .ret (.bool true) ∧ H' = AH.of [some (.ro (us h))] := by
  refine Runs.ends ?_
  refine runs_by (tbl := tbl23) tbl23_ok 1 3 (af := a8) rfl ?_
  rw [a8, b8, run_eq]
  refine ⟨by simp, ?_⟩
  simp (implicitDefEqProofs := false) [tbl23, forms19, a19, b19, forms11, a11, b11, forms23, a23, b23, forms25, a25, b25]
  refine loop_once (sg_mono gX_ok (tabS_ok tbl23_ok) _ _ noY noY_mono) (by omega) ?_
  simp (implicitDefEqProofs := false) [tbl23, st10, st24, forms14, a14, b14, forms21, a21, b21, forms25, a25, b25, forms26, a26, b26, forms27, a27, b27, aeqF, aggOf2]
  refine loop_once (sg_mono gX_ok (tabS_ok tbl23_ok) _ _ noY noY_mono) (by omega) ?_
  simp (implicitDefEqProofs := false) [tbl23, forms12, a12, b12, forms23, a23, b23, forms25, a25, b25]
  refine loop_once (sg_mono gX_ok (tabS_ok tbl23_ok) _ _ noY noY_mono) (by omega) ?_
  simp (implicitDefEqProofs := false) [tbl23, forms13, a13, b13, forms16, a16, b16]
  refine ends_plan [] [0] ?_ ?_ ?_ <;> simp [ren_us]
end Ytlecfiofljigbaa
end Go.Proofs
