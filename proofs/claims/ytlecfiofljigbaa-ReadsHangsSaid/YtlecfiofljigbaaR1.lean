/-
  What was read, as data.
-/
import Derived.Test.YtlecfiofljigbaaRF
import Derived.Test.YtlecfiofljigbaaA31
set_option linter.unusedSimpArgs false
set_option linter.unusedVariables false
set_option linter.unnecessarySimpa false
set_option linter.unusedSectionVars false
namespace Go.Proofs
namespace Ytlecfiofljigbaa
open Go.Abs

structure Ent where
  t : Int
  v : Int
  n : Int
  deriving DecidableEq

inductive RD where
  | set (c : Nat) (l : List Ent)
  | rset (l : List Ent)

def Ent.cells (e : Ent) : List Value := [.int .i64 e.t, .int .u64 e.v, .int .u64 e.n]
def Ent.val (e : Ent) : Value := .agg e.cells.toArray
def ents : Nat → List Ent → List MapEntry
  | _, [] => []
  | c, e :: l => ⟨.int .i64 e.t, e.val, c⟩ :: ents (c + 1) l
def tvars (l : List Ent) : List Value := l.map fun e => .int .i64 e.t
def rows (l : List Ent) : List Value := l.flatMap Ent.cells

def frag : RD → List (AObj RD)
  | .set c l => [.arr 57 [.slice (some ⟨1, 0, none⟩) l.length 1, .map (some 2)], .arr 3 (tvars l), .map (ents c l) (c + l.length)]
  | .rset l => [.arr 62 [.slice (some ⟨1, 0, none⟩) l.length 1], .arr 32 (rows l)]

theorem frag_set (c : Nat) (l : List Ent) : frag (.set c l) = [.arr 57 [.slice (some ⟨1, 0, none⟩) l.length 1, .map (some 2)], .arr 3 (tvars l), .map (ents c l) (c + l.length)] := rfl
theorem frag_rset (l : List Ent) : frag (.rset l) = [.arr 62 [.slice (some ⟨1, 0, none⟩) l.length 1], .arr 32 (rows l)] := rfl

/-! ### What the functions answer -/
def rightB (v : Int) : Bool := decide (bAndNot .u64 v 9223372036854775808 ≤ 9218868437227405312) || decide (v = 9221120237041090560)
def getE (l : List Ent) (t : Int) : Option Ent := l.find? fun e => e.t == t
def addCode (l : List Ent) (e : Ent) : Int :=
  if e.t < 0 ∨ 12 ≤ e.t ∨ 1099511627776 < e.n then 2
  else if !rightB e.v then 3
  else if (getE l e.t).isSome then 0
  else if (8 : Int) ≤ l.length then 4
  else 0
def addL (l : List Ent) (e : Ent) : List Ent :=
  if addCode l e = 0 ∧ (getE l e.t).isNone then l ++ [e] else l

/-! ### Plain facts of the rows -/
theorem tvars_length (l : List Ent) : (tvars l).length = l.length := by simp [tvars]
theorem tvars_ground (l : List Ent) : grounds (tvars l) = true := by
  induction l with
  | nil => rfl
  | cons e l ih => simp [tvars, grounds, ground] at ih ⊢; exact ih
theorem rows_cons (e : Ent) (l : List Ent) : rows (e :: l) = .int .i64 e.t :: .int .u64 e.v :: .int .u64 e.n :: rows l := rfl
theorem rows_length (l : List Ent) : (rows l).length = l.length * 3 := by
  induction l with
  | nil => rfl
  | cons e l ih => rw [rows_cons, List.length_cons, List.length_cons, List.length_cons, ih, List.length_cons]; omega
theorem rows_ground (l : List Ent) : grounds (rows l) = true := by
  induction l with
  | nil => rfl
  | cons e l ih => rw [rows_cons]; simp [grounds, ground, ih]
theorem ents_ground : ∀ (l : List Ent) (c : Nat), ∀ x ∈ ents c l, ground x.key = true ∧ ground x.val = true
  | [], _, x, h => by simp [ents] at h
  | e :: l, c, x, h => by
    rw [ents] at h
    rcases List.mem_cons.1 h with rfl | h
    · exact ⟨rfl, rfl⟩
    · exact ents_ground l (c + 1) x h
theorem ren_tvars (θ : Nat → Nat) (l : List Ent) : rens θ (tvars l) = tvars l := rens_ground θ _ (tvars_ground l)
theorem ren_rows (θ : Nat → Nat) (l : List Ent) : rens θ (rows l) = rows l := rens_ground θ _ (rows_ground l)
theorem ren_ents (θ : Nat → Nat) (l : List Ent) (c : Nat) : (ents c l).map (fun e => (⟨ren θ e.key, ren θ e.val, e.born⟩ : MapEntry)) = ents c l := ren_entries θ (ents_ground l c)
theorem tvars_add (l : List Ent) (e : Ent) : tvars (l ++ [e]) = tvars l ++ [.int .i64 e.t] := by simp [tvars]
theorem rows_add (l : List Ent) (e : Ent) : rows (l ++ [e]) = rows l ++ [.int .i64 e.t, .int .u64 e.v, .int .u64 e.n] := by simp [rows, Ent.cells]
theorem take_tvars (l : List Ent) : (tvars l).take l.length = tvars l := List.take_of_length_le (by simp [tvars_length])
theorem take_rows (l : List Ent) : (rows l).take (l.length * 3) = rows l := List.take_of_length_le (by simp [rows_length])
theorem many_rows {i : Nat} {x : Ent} : ∀ {l : List Ent}, l[i]? = some x → ((rows l).drop (i * 3)).take 3 = x.cells := by
  induction i with
  | zero =>
    intro l h
    cases l with
    | nil => simp at h
    | cons e l => simp at h; subst h; rfl
  | succ i ih =>
    intro l h
    cases l with
    | nil => simp at h
    | cons e l =>
      rw [rows_cons, show (i + 1) * 3 = i * 3 + 1 + 1 + 1 by omega]
      simpa using ih (l := l) (by simpa using h)

theorem find_ents (t : Int) : ∀ (l : List Ent) (c : Nat), findIn false (.int .i64 t) (ents c l) = some ((getE l t).map Ent.val)
  | [], c => rfl
  | e :: l, c => by
    rw [ents, findIn, sameK, find_ents t l]
    by_cases h : t = e.t
    · simp [h, getE]
    · have : (t == e.t) = false := by simpa using h
      have h2 : (e.t == t) = false := by simpa using fun x => h x.symm
      simp [this, h2, getE]

theorem put_ents (x : Ent) : ∀ (l : List Ent) (c : Nat), getE l x.t = none → putIn false (.int .i64 x.t) x.val (c + l.length) (ents c l) = some (ents c (l ++ [x]), c + (l.length + 1))
  | [], c, _ => rfl
  | e :: l, c, h => by
    have h1 : ¬ e.t = x.t := by
      intro he; simp [getE, he] at h
    have h2 : getE l x.t = none := by
      simp only [getE, List.find?_cons] at h ⊢
      split at h
      · cases h
      · exact h
    have h3 : (x.t == e.t) = false := by simpa using fun y => h1 y.symm
    have ih := put_ents x l (c + 1) h2
    rw [List.length_cons, show c + (l.length + 1) = c + 1 + l.length by omega, ents, putIn, sameK, if_neg Bool.false_ne_true, if_pos rfl, h3]
    simp only [ih, Option.map_some, List.cons_append, ents]
    rw [show c + 1 + (l.length + 1) = c + (l.length + 1 + 1) by omega]

/-! ### What is known, read off arguments and heaps -/
def ptr0 : Value → Option Nat
  | .pointer (some ⟨k, 0, none⟩) => some k
  | _ => none
def asEnt : Value → Option Ent
  | .agg ⟨[.int .i64 t, .int .u64 v, .int .u64 n]⟩ => some ⟨t, v, n⟩
  | _ => none
theorem ptr0_eq (k : Nat) : ptr0 (.pointer (some ⟨k, 0, none⟩)) = some k := rfl
theorem ptr0_inv {v : Value} {k : Nat} (h : ptr0 v = some k) : v = .pointer (some ⟨k, 0, none⟩) := by
  unfold ptr0 at h
  split at h
  · cases h; rfl
  · cases h
theorem asEnt_eq (t v n : Int) : asEnt (.agg #[.int .i64 t, .int .u64 v, .int .u64 n]) = some ⟨t, v, n⟩ := rfl
theorem asEnt_val (e : Ent) : asEnt e.val = some e := rfl
theorem asEnt_inv {v : Value} {e : Ent} (h : asEnt v = some e) : v = e.val := by
  unfold asEnt at h
  split at h
  · cases h; rfl
  · cases h
def getSet (H : AH RD) (k : Nat) : Option (Nat × List Ent) :=
  match H.get k with
  | some (.hi (.set c l)) => some (c, l)
  | _ => none
def getRset (H : AH RD) (k : Nat) : Option (List Ent) :=
  match H.get k with
  | some (.hi (.rset l)) => some l
  | _ => none
theorem getSet_inv {H : AH RD} {k : Nat} {x : Nat × List Ent} (h : getSet H k = some x) : H.get k = some (.hi (.set x.1 x.2)) := by
  unfold getSet at h
  split at h
  · rename_i h2; cases h; exact h2
  · cases h
theorem getRset_inv {H : AH RD} {k : Nat} {l : List Ent} (h : getRset H k = some l) : H.get k = some (.hi (.rset l)) := by
  unfold getRset at h
  split at h
  · rename_i h2; cases h; exact h2
  · cases h
attribute [simp] ptr0_eq asEnt_eq asEnt_val getSet getRset ren_tvars ren_rows ren_ents
abbrev cfg := cfgOf Try.prog frag
abbrev G := gX Try.prog frag

/-- The rule, over this seat's forms. -/
theorem runs_by {tbl : List (FuncId × CStep RD)} (h : ∀ x ∈ tbl, CStepOk Try.prog cfg x.1 x.2) (F d : Nat) {f : FuncId} {af : AF} (hf : forms f = some af) {args : List Value} {H : AH RD} {K : AEnd → AH RD → Prop}
    (hr : af.run (G (callX G (tabS (SeesG Try.prog cfg) tbl) forms F d)) F args H K) : Runs Try.prog cfg f args H K :=
  runs_of gX_ok hmix hext (tabS_ok h) forms_ok F d hf hr
end Ytlecfiofljigbaa
end Go.Proofs
