/-
  THE DATA, and how each lies.
-/
import Derived.Test.YteegnbbblcokdaaPF
import Derived.Test.YteegnbbblcokdaaPA3
import Derived.Test.YteegnbbblcokdaaRows
import Derived.Shelf.Strings.Search1
import Derived.Shelf.Strings.Search2
import Derived.Test.YteegnbbblcokdaaProg
set_option linter.unusedSimpArgs false
set_option linter.unusedVariables false
set_option linter.unnecessarySimpa false
set_option linter.unusedSectionVars false
namespace Go.Proofs
namespace Yteegnbbblcokdaa
open Go.Abs

structure Ent where
  t : Int
  v : Int
  n : Int
  deriving DecidableEq

inductive GD where
  | set (c : Nat) (l : List Ent)
  | rset (l : List Ent)
  | tab (ws : List Int) (c : Int)
  | rtab (ws : List Int) (c : Int)
  | vints (l : List Int)

def Ent.cells (e : Ent) : List Value := [.int .i64 e.t, .int .u64 e.v, .int .u64 e.n]
def Ent.val (e : Ent) : Value := .agg e.cells.toArray
def epairs (l : List Ent) : List (Value × Value) := l.map fun e => (.int .i64 e.t, e.val)
def tvars (l : List Ent) : List Value := l.map fun e => .int .i64 e.t
def rows (l : List Ent) : List Value := l.flatMap Ent.cells
def us (h : List Int) : List Value := h.map fun v => .int .u64 v

def frag : GD → List (AObj GD)
  | .set c l => [.arr 0 [.slice (some ⟨1, 0, none⟩) l.length 1, .map (some 2)], .arr 3 (tvars l), .mapq (epairs l)]
  | .rset l => [.arr 0 [.slice (some ⟨1, 0, none⟩) l.length 1], .arr 0 (rows l)]
  | .tab ws c => [.arr 0 [.int .u64 c, .slice (some ⟨1, 0, none⟩) ws.length 1], .arr 23 (us ws)]
  | .rtab ws c => [.arr 0 [.slice (some ⟨1, 0, none⟩) ws.length 1, .int .u64 c], .arr 23 (us ws)]
  | .vints l => [.arr 0 [.slice (some ⟨1, 0, none⟩) l.length 1], .arr 3 (ints l)]

theorem frag_set (c : Nat) (l : List Ent) : frag (.set c l) = [.arr 0 [.slice (some ⟨1, 0, none⟩) l.length 1, .map (some 2)], .arr 3 (tvars l), .mapq (epairs l)] := rfl
theorem frag_rset (l : List Ent) : frag (.rset l) = [.arr 0 [.slice (some ⟨1, 0, none⟩) l.length 1], .arr 0 (rows l)] := rfl
theorem frag_tab (ws : List Int) (c : Int) : frag (.tab ws c) = [.arr 0 [.int .u64 c, .slice (some ⟨1, 0, none⟩) ws.length 1], .arr 23 (us ws)] := rfl
theorem frag_rtab (ws : List Int) (c : Int) : frag (.rtab ws c) = [.arr 0 [.slice (some ⟨1, 0, none⟩) ws.length 1, .int .u64 c], .arr 23 (us ws)] := rfl
theorem frag_vints (l : List Int) : frag (.vints l) = [.arr 0 [.slice (some ⟨1, 0, none⟩) l.length 1], .arr 3 (ints l)] := rfl

abbrev cfg := cfgOf Try.prog frag
abbrev G := gX Try.prog frag

/-- The rule, over this seat's forms. -/
theorem runs_by {tbl : List (FuncId × CStep GD)} (h : ∀ x ∈ tbl, CStepOk Try.prog cfg x.1 x.2) (F d : Nat) {f : FuncId} {af : AF} (hf : forms f = some af) {args : List Value} {H : AH GD} {K : AEnd → AH GD → Prop}
    (hr : af.run (G (callX G (tabS (SeesG Try.prog cfg) tbl) forms F d noY) (callX G (tabS (SeesG Try.prog cfg) tbl) forms F d)) F args H K) : Runs Try.prog cfg f args H K :=
  runs_of gX_ok hmix hext (tabS_ok h) forms_ok F d hf hr
end Yteegnbbblcokdaa
end Go.Proofs
/-
  WHAT IS READ off arguments and heaps.
-/
set_option linter.unusedSimpArgs false
set_option linter.unusedVariables false
set_option linter.unnecessarySimpa false
set_option linter.unusedSectionVars false
namespace Go.Proofs
namespace Yteegnbbblcokdaa
open Go.Abs
set_option linter.unusedSimpArgs false

def ptr0 : Value → Option Nat
  | .pointer (some ⟨k, 0, none⟩) => some k
  | _ => none
theorem ptr0_eq (k : Nat) : ptr0 (.pointer (some ⟨k, 0, none⟩)) = some k := rfl
theorem ptr0_inv {v : Value} {k : Nat} (h : ptr0 v = some k) : v = .pointer (some ⟨k, 0, none⟩) := by
  unfold ptr0 at h
  split at h
  · cases h; rfl
  · cases h
def asU : Value → Option Int
  | .int .u64 v => some v
  | _ => none
def asI : Value → Option Int
  | .int .i64 v => some v
  | _ => none
theorem asU_eq (v : Int) : asU (.int .u64 v) = some v := rfl
theorem asI_eq (v : Int) : asI (.int .i64 v) = some v := rfl
theorem asU_inv {x : Value} {v : Int} (h : asU x = some v) : x = .int .u64 v := by
  unfold asU at h
  split at h
  · cases h; rfl
  · cases h
theorem asI_inv {x : Value} {v : Int} (h : asI x = some v) : x = .int .i64 v := by
  unfold asI at h
  split at h
  · cases h; rfl
  · cases h
theorem upd_get {H : AH GD} {k : Nat} {o : AObj GD} (h : H.get k = some o) : H.upd k o = H := by
  refine AH.ext' rfl fun j => ?_
  rw [AH.get_upd]
  split
  · rename_i e; subst e; exact h.symm
  · rfl
theorem us_set (h : List Int) (i : Nat) (v : Int) : (us h).set i (.int .u64 v) = us (h.set i v) := by simp [us, List.map_set]
theorem take_us (l : List Int) : (us l).take l.length = us l := List.take_of_length_le (by simp [us])
theorem us_length (h : List Int) : (us h).length = h.length := by simp [us]
theorem us_ground (h : List Int) : grounds (us h) = true := by
  induction h with
  | nil => rfl
  | cons v h ih => simp [us, grounds, ground] at ih ⊢; exact ih
theorem ren_us (θ : Nat → Nat) (h : List Int) : rens θ (us h) = us h := rens_ground θ _ (us_ground h)
theorem us_at {h : List Int} {i : Nat} {v : Int} (hv : h[i]? = some v) : (us h)[i]? = some (.int .u64 v) := by simp [us, hv]
def sl0 : Value → Option (Nat × Nat × Nat)
  | .slice (some ⟨k, 0, none⟩) n c => some (k, n, c)
  | _ => none
theorem sl0_eq (k n c : Nat) : sl0 (.slice (some ⟨k, 0, none⟩) n c) = some (k, n, c) := rfl
theorem sl0_inv {v : Value} {q : Nat × Nat × Nat} (h : sl0 v = some q) : v = .slice (some ⟨q.1, 0, none⟩) q.2.1 q.2.2 := by
  unfold sl0 at h
  split at h
  · cases h; rfl
  · cases h
def asUs : List Value → Option (List Int)
  | [] => some []
  | .int .u64 v :: l => (asUs l).map (v :: ·)
  | _ => none
theorem asUs_us : ∀ h : List Int, asUs (us h) = some h
  | [] => rfl
  | v :: h => by
    show (asUs (us h)).map (v :: ·) = _
    rw [asUs_us h]; rfl
theorem asUs_inv : ∀ {cs : List Value} {h : List Int}, asUs cs = some h → cs = us h
  | [], h, e => by cases e; rfl
  | v :: cs, h, e => by
    unfold asUs at e
    split at e
    · simp_all
    · rename_i v' l heq
      cases heq
      simp only [Option.map_eq_some_iff] at e
      obtain ⟨h', e1, rfl⟩ := e
      rw [asUs_inv e1]; rfl
    · cases e
/-- A row of words that nobody writes. -/
def getRo (H : AH GD) (k : Nat) : Option (List Int) :=
  match H.get k with
  | some (.ro cs) => asUs cs
  | _ => none
theorem getRo_inv {H : AH GD} {k : Nat} {h : List Int} (hg : getRo H k = some h) : H.get k = some (.ro (us h)) := by
  unfold getRo at hg
  split at hg
  · rename_i cs e; rw [e, asUs_inv hg]
  · cases hg
def getArr (H : AH GD) (k : Nat) : Option (TypeId × List Int) :=
  match H.get k with
  | some (.arr e cs) => (asUs cs).map fun h => (e, h)
  | _ => none
theorem getArr_inv {H : AH GD} {k : Nat} {x : TypeId × List Int} (hg : getArr H k = some x) : H.get k = some (.arr x.1 (us x.2)) := by
  unfold getArr at hg
  split at hg
  · rename_i e cs he
    simp only [Option.map_eq_some_iff] at hg
    obtain ⟨h, h1, rfl⟩ := hg
    rw [he, asUs_inv h1]
  · cases hg
theorem upd_upd (H : AH GD) (k : Nat) (o o' : AObj GD) : (H.upd k o).upd k o' = H.upd k o' := by
  refine AH.ext' rfl fun j => ?_
  simp only [AH.get_upd]
  split <;> rfl
theorem us_one (v : Int) : us [v] = [.int .u64 v] := rfl
theorem us_nil : us [] = [] := rfl
theorem us_append (a b : List Int) : us (a ++ b) = us a ++ us b := by simp [us]
def asInts : List Value → Option (List Int)
  | [] => some []
  | .int .i64 v :: l => (asInts l).map (v :: ·)
  | _ => none
theorem asInts_ints : ∀ h : List Int, asInts (ints h) = some h
  | [] => rfl
  | v :: h => by
    show (asInts (ints h)).map (v :: ·) = _
    rw [asInts_ints h]; rfl
theorem asInts_inv : ∀ {cs : List Value} {h : List Int}, asInts cs = some h → cs = ints h
  | [], h, e => by cases e; rfl
  | v :: cs, h, e => by
    unfold asInts at e
    split at e
    · simp_all
    · rename_i v' l heq
      cases heq
      simp only [Option.map_eq_some_iff] at e
      obtain ⟨h', e1, rfl⟩ := e
      rw [asInts_inv e1]; rfl
    · cases e
theorem ints_at {h : List Int} {i : Nat} {v : Int} (hv : h[i]? = some v) : (ints h)[i]? = some (.int .i64 v) := by simp [ints, hv]
theorem ints_get {h : List Int} {i : Nat} {v : Int} (hv : h[i]? = some v) (p : i < (ints h).length) : (ints h)[i]'p = .int .i64 v := by
  have := ints_at hv
  rw [List.getElem?_eq_getElem p] at this
  exact Option.some.inj this
theorem ints_append (a b : List Int) : ints (a ++ b) = ints a ++ ints b := by simp [ints]
theorem take_ints (l : List Int) : (ints l).take l.length = ints l := List.take_of_length_le (by simp)
/-- A row of whole numbers. -/
def getInts (H : AH GD) (k : Nat) : Option (TypeId × List Int) :=
  match H.get k with
  | some (.arr e cs) => (asInts cs).map fun h => (e, h)
  | _ => none
theorem getInts_inv {H : AH GD} {k : Nat} {x : TypeId × List Int} (hg : getInts H k = some x) : H.get k = some (.arr x.1 (ints x.2)) := by
  unfold getInts at hg
  split at hg
  · rename_i e cs he
    simp only [Option.map_eq_some_iff] at hg
    obtain ⟨h, h1, rfl⟩ := hg
    rw [he, asInts_inv h1]
  · cases hg
theorem inc_i64 {i n : Nat} (hi : i < n) (hn : n ≤ 1000000) : IntKind.i64.wrap ((i : Int) + 1) = ((i + 1 : Nat) : Int) := by rw [wrap_i64 (by omega) (by omega)]; omega
theorem same_none {α : Type} {a b : List α} (hl : a.length = b.length) (h : ∀ j, j < a.length → a[j]? = b[j]?) : a = b := by
  refine List.ext_getElem? fun j => ?_
  rcases Nat.lt_or_ge j a.length with hj | hj
  · exact h j hj
  · rw [List.getElem?_eq_none hj, List.getElem?_eq_none (by omega)]
theorem ints_single (v : Int) : ints [v] = [.int .i64 v] := rfl
theorem ptr0_nil : ptr0 (.pointer none) = none := rfl
def isNil : Value → Option Unit
  | .pointer none => some ()
  | _ => none
theorem isNil_eq : isNil (.pointer none) = some () := rfl
theorem isNil_ptr (k o : Nat) : isNil (.pointer (some ⟨k, o, none⟩)) = none := rfl
theorem isNil_inv {v : Value} {u : Unit} (h : isNil v = some u) : v = .pointer none := by
  unfold isNil at h
  split at h
  · rfl
  · cases h
/-! What numbers and texts alone come to: in any heap. -/
abbrev PStep := List Value → Option (Prop × Value)
def pureStep (f : PStep) : CStep GD := fun args H => (f args).map fun x => (x.1, .ret x.2, H)
theorem pure_ok {fid : FuncId} {f : PStep} (h : ∀ args p v, f args = some (p, v) → p → grounds args = true ∧ ground v = true ∧ Runs Try.prog cfg fid args (AH.of []) fun r H' => r = .ret v ∧ H' = AH.of []) : CStepOk Try.prog cfg fid (pureStep f) := by
  intro args H p r H' he hp
  simp only [pureStep, Option.map_eq_some_iff] at he
  obtain ⟨⟨p', v⟩, h1, h2⟩ := he
  cases h2
  obtain ⟨g1, g2, hr⟩ := h args p' v h1 hp
  exact hr.atK (ro_none rfl) [] (by simp) (by simp) trivial (by rw [rens_ground _ _ g1]) (by rw [renE_ret, ren_ground _ _ g2]) (by simp)
attribute [simp] ren_us ptr0_eq ptr0_nil asU_eq asI_eq sl0_eq asUs_us asUs asInts_ints isNil_eq isNil_ptr
end Yteegnbbblcokdaa
end Go.Proofs
/-
  What the arguments of laws read as: numbers, truth values.
-/
set_option linter.unusedSimpArgs false
set_option linter.unusedVariables false
set_option linter.unnecessarySimpa false
set_option linter.unusedSectionVars false
namespace Go.Proofs
namespace Yteegnbbblcokdaa
open Go.Abs Go.ChangeShapes Go.WideShapes Go.ChangeAt Go.RowKit
set_option linter.unusedSimpArgs false
set_option linter.unusedVariables false
set_option maxRecDepth 100000

theorem own : ownKnob Try.prog.godebug = none := by kernel_rfl
section
variable {H : Type} {enc : TypeId × Value → H} {w : World}
theorem wf_i64 {n : Int} (h : (Lit.int .i64 n).wf = true) : -9223372036854775808 ≤ n ∧ n ≤ 9223372036854775807 := by
  simpa [Lit.wf, IntKind.min, IntKind.max, IntKind.signed, IntKind.bits] using h
theorem wf_u64 {n : Int} (h : (Lit.int .u64 n).wf = true) : 0 ≤ n ∧ n < 18446744073709551616 := by
  have : 0 ≤ n ∧ n ≤ 18446744073709551615 := by simpa [Lit.wf, IntKind.min, IntKind.max, IntKind.signed, IntKind.bits] using h
  omega
theorem wf_u8 {n : Int} (h : (Lit.int .u8 n).wf = true) : 0 ≤ n ∧ n < 256 := by
  have : 0 ≤ n ∧ n ≤ 255 := by simpa [Lit.wf, IntKind.min, IntKind.max, IntKind.signed, IntKind.bits] using h
  omega
theorem wf_u16 {n : Int} (h : (Lit.int .u16 n).wf = true) : 0 ≤ n ∧ n < 65536 := by
  have : 0 ≤ n ∧ n ≤ 65535 := by simpa [Lit.wf, IntKind.min, IntKind.max, IntKind.signed, IntKind.bits] using h
  omega
theorem wf_u32 {n : Int} (h : (Lit.int .u32 n).wf = true) : 0 ≤ n ∧ n < 4294967296 := by
  have : 0 ≤ n ∧ n ≤ 4294967295 := by simpa [Lit.wf, IntKind.min, IntKind.max, IntKind.signed, IntKind.bits] using h
  omega
theorem us_oneC (l : List Int) : (us l).all (·.oneCell') = true := by simp [us, Value.oneCell']
theorem ints_oneC (l : List Int) : (ints l).all (·.oneCell') = true := by simp [ints, Value.oneCell']
theorem us_flat (h : List Int) : h.flatMap (fun v => [Value.int .u64 v]) = us h := by
  induction h with
  | nil => rfl
  | cons v h ih => rw [List.flatMap_cons, ih]; rfl
theorem ints_flat (h : List Int) : h.flatMap (fun v => [Value.int .i64 v]) = ints h := by
  induction h with
  | nil => rfl
  | cons v h ih => rw [List.flatMap_cons, ih]; rfl
end
end Yteegnbbblcokdaa
end Go.Proofs
/-
  VALUES: which are right; which are the same.
-/
set_option linter.unusedSimpArgs false
set_option linter.unusedVariables false
set_option linter.unnecessarySimpa false
set_option linter.unusedSectionVars false
namespace Go.Proofs
namespace Yteegnbbblcokdaa
open Go.Abs
set_option linter.unusedSimpArgs false

def rightB (v : Int) : Bool := decide (bAndNot .u64 v 9223372036854775808 ≤ 9218868437227405312) || decide (v = 9221120237041090560)
theorem runs28 (v : Int) (H : AH GD) : Runs Try.prog cfg 28 [.int .u64 v] H fun r H' => r = .ret (.bool (rightB v)) ∧ H' = H := by
  refine runs_by (tbl := []) (by simp) 0 0 (af := a28) rfl ?_
  rw [a28, b28, run_eq]
  refine ⟨by simp, ?_⟩
  simp (implicitDefEqProofs := false)
  repeat' (first | with_reducible apply And.intro | with_reducible intro _)
  all_goals (simp [rightB, *] <;> omega)
def st28 : CStep GD := fun args H => match args with
  | [x] => (asU x).map fun v => (True, .ret (.bool (rightB v)), H)
  | _ => none
theorem st28_ok : CStepOk Try.prog cfg 28 st28 := by
  intro args H p r H' h hp
  unfold st28 at h
  split at h
  case h_2 => cases h
  simp only [Option.map_eq_some_iff] at h
  obtain ⟨v, hv, h⟩ := h
  cases h
  rw [asU_inv hv]
  exact runs28 v H
theorem runs31 (v : Int) (h0 : 0 ≤ v) (h1 : v < 18446744073709551616) (H : AH GD) : Runs Try.prog cfg 31 [.int .u64 v] H fun r H' => r = .ret (.bool (rightB v)) ∧ H' = H := by
  refine runs_by (tbl := []) (by simp) 0 0 (af := a31) rfl ?_
  rw [a31, b31, run_eq]
  refine ⟨by simp, ?_⟩
  have e : abin .eql (.float .f64 v.toNat) (.float .f64 v.toNat) = some (.bool (decide (bAndNot .u64 v 9223372036854775808 ≤ 9218868437227405312))) := by
    simp only [abin, order_self, bAndNot_sign h0 h1]
    simp
    omega
  simp (implicitDefEqProofs := false) [e]
  repeat' (first | with_reducible apply And.intro | with_reducible intro _)
  all_goals (simp [rightB, *] <;> omega)
def st31 : CStep GD := fun args H => match args with
  | [x] => (asU x).map fun v => (0 ≤ v ∧ v < 18446744073709551616, .ret (.bool (rightB v)), H)
  | _ => none
theorem st31_ok : CStepOk Try.prog cfg 31 st31 := by
  intro args H p r H' h hp
  unfold st31 at h
  split at h
  case h_2 => cases h
  simp only [Option.map_eq_some_iff] at h
  obtain ⟨v, hv, h⟩ := h
  cases h
  rw [asU_inv hv]
  exact runs31 v hp.1 hp.2 H
end Yteegnbbblcokdaa
end Go.Proofs
/-
  CODE: what an operation has.
-/
set_option linter.unusedSimpArgs false
set_option linter.unusedVariables false
set_option linter.unnecessarySimpa false
set_option linter.unusedSectionVars false
namespace Go.Proofs
namespace Yteegnbbblcokdaa
open Go.Abs
set_option linter.unusedSimpArgs false

def usesA (o : Nat) : Bool := decide ((2 ≤ o ∧ o ≤ 7) ∨ o = 19 ∨ o = 20 ∨ o = 21 ∨ o = 23 ∨ o = 24)
def usesV (o : Nat) : Bool := decide (o = 1)
def wordL : List (List UInt8) := [[110, 111, 112], [112, 117, 115, 104], [108, 111, 99, 97, 108], [115, 101, 116], [103, 101, 116], [112, 117, 116], [103, 101, 116, 97, 116], [112, 117, 116, 97, 116], [97, 100, 100], [115, 117, 98], [109, 117, 108], [100, 105, 118], [110, 101, 103], [108, 101, 115, 115], [115, 97, 109, 101], [110, 111, 116], [100, 117, 112], [112, 111, 112], [115, 119, 97, 112], [106, 117, 109, 112], [122, 101, 114, 111], [97, 116, 111, 109, 105, 99], [101, 110, 100], [111, 114, 101, 108, 115, 101], [101, 108, 115, 101], [101, 110, 100, 111, 114], [114, 101, 116, 114, 121], [111, 117, 116], [104, 97, 108, 116]]
def popsL : List Int := [0, 0, 0, 1, 0, 1, 1, 2, 2, 2, 2, 2, 1, 2, 2, 1, 1, 1, 2, 0, 1, 0, 0, 0, 0, 0, 0, 1, 0]
def pushL : List Int := [0, 1, 1, 0, 1, 0, 1, 0, 1, 1, 1, 1, 1, 1, 1, 1, 2, 0, 2, 0, 0, 0, 0, 0, 0, 0, 0, 0, 0]
def wordO (o : Nat) : ByteArray := ⟨((wordL[o]?).getD []).toArray⟩
def popsO (o : Nat) : Int := (popsL[o]?).getD 0
def pushO (o : Nat) : Int := (pushL[o]?).getD 0
def formC (o : Nat) : List Value := [.string (wordO o), .bool (usesA o), .bool (usesV o), .int .i64 (popsO o), .int .i64 (pushO o)]

def FT : List Value := [.string ⟨#[110, 111, 112]⟩, .bool false, .bool false, .int .i64 0, .int .i64 0, .string ⟨#[112, 117, 115, 104]⟩, .bool false, .bool true, .int .i64 0, .int .i64 1, .string ⟨#[108, 111, 99, 97, 108]⟩, .bool true, .bool false, .int .i64 0, .int .i64 1, .string ⟨#[115, 101, 116]⟩, .bool true, .bool false, .int .i64 1, .int .i64 0, .string ⟨#[103, 101, 116]⟩, .bool true, .bool false, .int .i64 0, .int .i64 1, .string ⟨#[112, 117, 116]⟩, .bool true, .bool false, .int .i64 1, .int .i64 0, .string ⟨#[103, 101, 116, 97, 116]⟩, .bool true, .bool false, .int .i64 1, .int .i64 1, .string ⟨#[112, 117, 116, 97, 116]⟩, .bool true, .bool false, .int .i64 2, .int .i64 0, .string ⟨#[97, 100, 100]⟩, .bool false, .bool false, .int .i64 2, .int .i64 1, .string ⟨#[115, 117, 98]⟩, .bool false, .bool false, .int .i64 2, .int .i64 1, .string ⟨#[109, 117, 108]⟩, .bool false, .bool false, .int .i64 2, .int .i64 1, .string ⟨#[100, 105, 118]⟩, .bool false, .bool false, .int .i64 2, .int .i64 1, .string ⟨#[110, 101, 103]⟩, .bool false, .bool false, .int .i64 1, .int .i64 1, .string ⟨#[108, 101, 115, 115]⟩, .bool false, .bool false, .int .i64 2, .int .i64 1, .string ⟨#[115, 97, 109, 101]⟩, .bool false, .bool false, .int .i64 2, .int .i64 1, .string ⟨#[110, 111, 116]⟩, .bool false, .bool false, .int .i64 1, .int .i64 1, .string ⟨#[100, 117, 112]⟩, .bool false, .bool false, .int .i64 1, .int .i64 2, .string ⟨#[112, 111, 112]⟩, .bool false, .bool false, .int .i64 1, .int .i64 0, .string ⟨#[115, 119, 97, 112]⟩, .bool false, .bool false, .int .i64 2, .int .i64 2, .string ⟨#[106, 117, 109, 112]⟩, .bool true, .bool false, .int .i64 0, .int .i64 0, .string ⟨#[122, 101, 114, 111]⟩, .bool true, .bool false, .int .i64 1, .int .i64 0, .string ⟨#[97, 116, 111, 109, 105, 99]⟩, .bool true, .bool false, .int .i64 0, .int .i64 0, .string ⟨#[101, 110, 100]⟩, .bool false, .bool false, .int .i64 0, .int .i64 0, .string ⟨#[111, 114, 101, 108, 115, 101]⟩, .bool true, .bool false, .int .i64 0, .int .i64 0, .string ⟨#[101, 108, 115, 101]⟩, .bool true, .bool false, .int .i64 0, .int .i64 0, .string ⟨#[101, 110, 100, 111, 114]⟩, .bool false, .bool false, .int .i64 0, .int .i64 0, .string ⟨#[114, 101, 116, 114, 121]⟩, .bool false, .bool false, .int .i64 0, .int .i64 0, .string ⟨#[111, 117, 116]⟩, .bool false, .bool false, .int .i64 1, .int .i64 0, .string ⟨#[104, 97, 108, 116]⟩, .bool false, .bool false, .int .i64 0, .int .i64 0]
theorem FT_at : ∀ o, o < 29 → List.take 5 (List.drop (o * 5) FT) = formC o
  | 0, _ => rfl
  | 1, _ => rfl
  | 2, _ => rfl
  | 3, _ => rfl
  | 4, _ => rfl
  | 5, _ => rfl
  | 6, _ => rfl
  | 7, _ => rfl
  | 8, _ => rfl
  | 9, _ => rfl
  | 10, _ => rfl
  | 11, _ => rfl
  | 12, _ => rfl
  | 13, _ => rfl
  | 14, _ => rfl
  | 15, _ => rfl
  | 16, _ => rfl
  | 17, _ => rfl
  | 18, _ => rfl
  | 19, _ => rfl
  | 20, _ => rfl
  | 21, _ => rfl
  | 22, _ => rfl
  | 23, _ => rfl
  | 24, _ => rfl
  | 25, _ => rfl
  | 26, _ => rfl
  | 27, _ => rfl
  | 28, _ => rfl
  | n + 29, h => by omega
theorem grounds_form (o : Nat) : grounds (formC o) = true := rfl

set_option maxRecDepth 100000 in
set_option maxHeartbeats 4000000 in
theorem runs25 (o : Nat) (ho : o < 29) : Runs Try.prog cfg 25 [.int .u8 o] (AH.of [])
    fun r H' => r = .ret (.agg (formC o).toArray) ∧ H' = AH.of [] := by
  refine Runs.ends ?_
  refine runs_by (tbl := []) (by simp) 0 0 (af := a25) rfl ?_
  rw [a25, b25, run_eq]
  refine ⟨by simp, ?_⟩
  have e1 : IntKind.i64.wrap (o : Int) = o := wrap_i64 (by omega) (by omega)
  have e2 : ¬ 29 ≤ (o : Int) := by omega
  have e3 : (o : Int) < 29 := by omega
  have hk := FT_at o ho
  unfold FT formC at hk
  have e4 : o * 5 ≤ 140 := by omega
  have e5 : min 5 (145 - o * 5) = 5 := by omega
  simp (implicitDefEqProofs := false) [e1, e2, e3, ho, hk, e4, e5]
  refine ends_plan [] [] ?_ ?_ ?_ <;> simp [formC]
set_option maxRecDepth 100000 in
set_option maxHeartbeats 4000000 in
theorem runs_of_none (o : Nat) (ho : 29 ≤ o) (h2 : o < 256) : Runs Try.prog cfg 25 [.int .u8 o] (AH.of [])
    fun r H' => r = .ret (.agg (formC o).toArray) ∧ H' = AH.of [] := by
  refine Runs.ends ?_
  refine runs_by (tbl := []) (by simp) 0 0 (af := a25) rfl ?_
  rw [a25, b25, run_eq]
  refine ⟨by simp, ?_⟩
  have e1 : IntKind.i64.wrap (o : Int) = o := wrap_i64 (by omega) (by omega)
  have e2 : 29 ≤ (o : Int) := by omega
  have hf : formC o = [.string ⟨#[]⟩, .bool false, .bool false, .int .i64 0, .int .i64 0] := by
    have w : wordL[o]? = none := List.getElem?_eq_none (by simpa [wordL] using ho)
    have p1 : popsL[o]? = none := List.getElem?_eq_none (by simpa [popsL] using ho)
    have p2 : pushL[o]? = none := List.getElem?_eq_none (by simpa [pushL] using ho)
    have a1 : usesA o = false := by simp [usesA]; omega
    have a2 : usesV o = false := by simp [usesV]; omega
    simp [formC, wordO, popsO, pushO, w, p1, p2, a1, a2]
  simp (implicitDefEqProofs := false) [e1, e2]
  refine ends_plan [] [] ?_ ?_ ?_ <;> simp [hf]
def p25 : PStep
  | [.int .u8 o] => some (0 ≤ o ∧ o < 256, .agg #[.string (wordO o.toNat), .bool (usesA o.toNat), .bool (usesV o.toNat), .int .i64 (popsO o.toNat), .int .i64 (pushO o.toNat)])
  | _ => none
abbrev st25 := pureStep p25
theorem st25_ok : CStepOk Try.prog cfg 25 st25 := pure_ok fun args p v h hp => by
  unfold p25 at h
  split at h
  · cases h
    rename_i o
    have e : o = (o.toNat : Int) := by omega
    refine ⟨rfl, rfl, ?_⟩
    by_cases hl : o.toNat < 29
    · have := runs25 o.toNat hl
      rw [← e] at this; exact this
    · have := runs_of_none o.toNat (by omega) (by omega)
      rw [← e] at this; exact this
  · cases h
end Yteegnbbblcokdaa
end Go.Proofs
/-
  CODE: which instructions are right; what they use, and do.
-/
set_option linter.unusedSimpArgs false
set_option linter.unusedVariables false
set_option linter.unnecessarySimpa false
set_option linter.unusedSectionVars false
namespace Go.Proofs
namespace Yteegnbbblcokdaa
open Go.Abs
set_option linter.unusedSimpArgs false

structure Ins where
  o : Int
  a : Int
  v : Int
  deriving DecidableEq
def Ins.cells (i : Ins) : List Value := [.int .u8 i.o, .int .i64 i.a, .int .u64 i.v]
def Ins.Ok (i : Ins) : Prop := (0 ≤ i.o ∧ i.o < 256) ∧ (0 ≤ i.v ∧ i.v < 18446744073709551616)
def limitO (o : Int) : Int := if o = 2 ∨ o = 3 then 4 else if o = 4 ∨ o = 5 ∨ o = 6 ∨ o = 7 then 12 else 64
def rightI (i : Ins) : Bool := decide (i.o < 29 ∧ (usesA i.o.toNat = true ∨ i.a = 0) ∧ (usesV i.o.toNat = true ∨ i.v = 0) ∧ 0 ≤ i.a ∧ i.a < limitO i.o ∧ rightB i.v = true)
def p27 : PStep
  | [.int .u8 o] => some (True, .int .i64 (limitO o))
  | _ => none
abbrev st27 := pureStep p27
theorem st27_ok : CStepOk Try.prog cfg 27 st27 := pure_ok fun args p v h hp => by
  unfold p27 at h
  split at h
  case h_2 => cases h
  rename_i o
  cases h
  refine ⟨rfl, rfl, ?_⟩
  refine Runs.ends ?_
  refine runs_by (tbl := []) (by simp) 0 0 (af := a27) rfl ?_
  rw [a27, b27, run_eq]
  refine ⟨by simp, ?_⟩
  simp (implicitDefEqProofs := false)
  repeat' (first | with_reducible apply And.intro | with_reducible intro _)
  all_goals (refine ends_plan [] [] ?_ ?_ ?_ <;> simp [limitO, *] <;> omega)
def p30 : PStep
  | [.int .u8 o] => some (True, .int .i64 (limitO o))
  | _ => none
abbrev st30 := pureStep p30
theorem st30_ok : CStepOk Try.prog cfg 30 st30 := pure_ok fun args p v h hp => by
  unfold p30 at h
  split at h
  case h_2 => cases h
  rename_i o
  cases h
  refine ⟨rfl, rfl, ?_⟩
  refine Runs.ends ?_
  refine runs_by (tbl := []) (by simp) 0 0 (af := a30) rfl ?_
  rw [a30, b30, run_eq]
  refine ⟨by simp, ?_⟩
  simp (implicitDefEqProofs := false)
  repeat' (first | with_reducible apply And.intro | with_reducible intro _)
  all_goals (refine ends_plan [] [] ?_ ?_ ?_ <;> simp [limitO, *] <;> omega)

def tblK : List (FuncId × CStep GD) := [(25, st25), (27, st27), (28, st28)]
theorem tblK_ok : ∀ x ∈ tblK, CStepOk Try.prog cfg x.1 x.2 := by simp [tblK, st25_ok, st27_ok, st28_ok]

theorem wordO_nil (o : Nat) : wordO o = ⟨#[]⟩ ↔ 29 ≤ o := by
  constructor
  · intro h
    apply Nat.le_of_not_lt
    intro hl
    revert h
    have : ∀ k < 29, wordO k ≠ ⟨#[]⟩ := by decide
    exact this o hl
  · intro h
    have w : wordL[o]? = none := List.getElem?_eq_none (by simpa [wordL] using h)
    simp [wordO, w]
set_option maxHeartbeats 2000000 in
theorem runs9 (o a v : Int) (ho : 0 ≤ o ∧ o < 256) : Runs Try.prog cfg 9 [.agg #[.int .u8 o, .int .i64 a, .int .u64 v]] (AH.of [])
    fun r H' => r = .ret (.bool (rightI ⟨o, a, v⟩)) ∧ H' = AH.of [] := by
  refine Runs.ends ?_
  refine runs_by (tbl := tblK) tblK_ok 0 0 (af := a9) rfl ?_
  rw [a9, b9, run_eq]
  refine ⟨by simp, ?_⟩
  have hn : wordO o.toNat = ⟨#[]⟩ ↔ 29 ≤ o := by rw [wordO_nil]; omega
  simp (implicitDefEqProofs := false) [tblK, pureStep, p25, p27, st28, ho, hn]
  repeat' (first | with_reducible apply And.intro | with_reducible intro _)
  all_goals (refine ends_plan [] [] ?_ ?_ ?_ <;> simp [rightI, *] <;> omega)
def p9 : PStep
  | [.agg ⟨[.int .u8 o, .int .i64 a, .int .u64 v]⟩] => some (0 ≤ o ∧ o < 256, .bool (rightI ⟨o, a, v⟩))
  | _ => none
abbrev st9 := pureStep p9
theorem st9_ok : CStepOk Try.prog cfg 9 st9 := pure_ok fun args p v h hp => by
  unfold p9 at h
  split at h
  · cases h; exact ⟨rfl, rfl, runs9 _ _ _ hp⟩
  · cases h

/-! ### Uses, Effect, Word of the program -/
def p11 : PStep
  | [.int .u8 o] => some (0 ≤ o ∧ o < 256, .tuple #[.bool (usesA o.toNat), .bool (usesV o.toNat)])
  | _ => none
abbrev st11 := pureStep p11
theorem st11_ok : CStepOk Try.prog cfg 11 st11 := pure_ok fun args p v h hp => by
  unfold p11 at h
  split at h
  case h_2 => cases h
  rename_i o
  cases h
  refine ⟨rfl, rfl, ?_⟩
  refine Runs.ends ?_
  refine runs_by (tbl := tblK) tblK_ok 0 0 (af := a11) rfl ?_
  rw [a11, b11, run_eq]
  refine ⟨by simp, ?_⟩
  simp (implicitDefEqProofs := false) [tblK, pureStep, p25, hp]
  refine ends_plan [] [] ?_ ?_ ?_ <;> simp
def p13 : PStep
  | [.int .u8 o] => some (0 ≤ o ∧ o < 256, .tuple #[.int .i64 (popsO o.toNat), .int .i64 (pushO o.toNat)])
  | _ => none
abbrev st13 := pureStep p13
theorem st13_ok : CStepOk Try.prog cfg 13 st13 := pure_ok fun args p v h hp => by
  unfold p13 at h
  split at h
  case h_2 => cases h
  rename_i o
  cases h
  refine ⟨rfl, rfl, ?_⟩
  refine Runs.ends ?_
  refine runs_by (tbl := tblK) tblK_ok 0 0 (af := a13) rfl ?_
  rw [a13, b13, run_eq]
  refine ⟨by simp, ?_⟩
  simp (implicitDefEqProofs := false) [tblK, pureStep, p25, hp]
  refine ends_plan [] [] ?_ ?_ ?_ <;> simp
def p19 : PStep
  | [.int .u8 o] => some (0 ≤ o ∧ o < 256, .string (wordO o.toNat))
  | _ => none
abbrev st19 := pureStep p19
theorem st19_ok : CStepOk Try.prog cfg 19 st19 := pure_ok fun args p v h hp => by
  unfold p19 at h
  split at h
  case h_2 => cases h
  rename_i o
  cases h
  refine ⟨rfl, rfl, ?_⟩
  refine Runs.ends ?_
  refine runs_by (tbl := tblK) tblK_ok 0 0 (af := a19) rfl ?_
  rw [a19, b19, run_eq]
  refine ⟨by simp, ?_⟩
  simp (implicitDefEqProofs := false) [tblK, pureStep, p25, hp]
  refine ends_plan [] [] ?_ ?_ ?_ <;> simp
end Yteegnbbblcokdaa
end Go.Proofs
/-
  CODE: the reference: Uses, Effect, Right, Word.
-/
set_option linter.unusedSimpArgs false
set_option linter.unusedVariables false
set_option linter.unnecessarySimpa false
set_option linter.unusedSectionVars false
namespace Go.Proofs
namespace Yteegnbbblcokdaa
open Go.Abs
set_option linter.unusedSimpArgs false

theorem form_none {o : Nat} (ho : 29 ≤ o) : usesA o = false ∧ usesV o = false ∧ popsO o = 0 ∧ pushO o = 0 := by
  have p1 : popsL[o]? = none := List.getElem?_eq_none (by simpa [popsL] using ho)
  have p2 : pushL[o]? = none := List.getElem?_eq_none (by simpa [pushL] using ho)
  have a1 : usesA o = false := by simp [usesA]; omega
  have a2 : usesV o = false := by simp [usesV]; omega
  exact ⟨a1, a2, by simp [popsO, p1], by simp [pushO, p2]⟩
def p12 : PStep
  | [.int .u8 o] => some (0 ≤ o ∧ o < 256, .tuple #[.bool (usesA o.toNat), .bool (usesV o.toNat)])
  | _ => none
abbrev st12 := pureStep p12
set_option maxHeartbeats 8000000 in
theorem st12_ok : CStepOk Try.prog cfg 12 st12 := pure_ok fun args p v h hp => by
  unfold p12 at h
  split at h
  case h_2 => cases h
  rename_i o
  cases h
  refine ⟨rfl, rfl, ?_⟩
  refine Runs.ends ?_
  refine runs_by (tbl := []) (by simp) 0 0 (af := a12) rfl ?_
  rw [a12, b12, run_eq]
  refine ⟨by simp, ?_⟩
  by_cases h29 : 29 ≤ o
  · have hne : ∀ k, k < 29 → ¬ o = k := fun k hk e => by omega
    have hf := form_none (o := o.toNat) (by omega)
    simp (implicitDefEqProofs := false) [hne, h29]
    refine ends_plan [] [] ?_ ?_ ?_ <;> simp [hf.1, hf.2.1, hf.2.2.1, hf.2.2.2]
  · obtain rfl | rfl | rfl | rfl | rfl | rfl | rfl | rfl | rfl | rfl | rfl | rfl | rfl | rfl | rfl | rfl | rfl | rfl | rfl | rfl | rfl | rfl | rfl | rfl | rfl | rfl | rfl | rfl | rfl : o = 0 ∨ o = 1 ∨ o = 2 ∨ o = 3 ∨ o = 4 ∨ o = 5 ∨ o = 6 ∨ o = 7 ∨ o = 8 ∨ o = 9 ∨ o = 10 ∨ o = 11 ∨ o = 12 ∨ o = 13 ∨ o = 14 ∨ o = 15 ∨ o = 16 ∨ o = 17 ∨ o = 18 ∨ o = 19 ∨ o = 20 ∨ o = 21 ∨ o = 22 ∨ o = 23 ∨ o = 24 ∨ o = 25 ∨ o = 26 ∨ o = 27 ∨ o = 28 := by omega
    all_goals
      simp (implicitDefEqProofs := false)
      refine ends_plan [] [] ?_ ?_ ?_ <;> simp [usesA, usesV]
def p14 : PStep
  | [.int .u8 o] => some (0 ≤ o ∧ o < 256, .tuple #[.int .i64 (popsO o.toNat), .int .i64 (pushO o.toNat)])
  | _ => none
abbrev st14 := pureStep p14
set_option maxHeartbeats 8000000 in
theorem st14_ok : CStepOk Try.prog cfg 14 st14 := pure_ok fun args p v h hp => by
  unfold p14 at h
  split at h
  case h_2 => cases h
  rename_i o
  cases h
  refine ⟨rfl, rfl, ?_⟩
  refine Runs.ends ?_
  refine runs_by (tbl := []) (by simp) 0 0 (af := a14) rfl ?_
  rw [a14, b14, run_eq]
  refine ⟨by simp, ?_⟩
  by_cases h29 : 29 ≤ o
  · have hne : ∀ k, k < 29 → ¬ o = k := fun k hk e => by omega
    have hf := form_none (o := o.toNat) (by omega)
    simp (implicitDefEqProofs := false) [hne, h29]
    refine ends_plan [] [] ?_ ?_ ?_ <;> simp [hf.1, hf.2.1, hf.2.2.1, hf.2.2.2]
  · obtain rfl | rfl | rfl | rfl | rfl | rfl | rfl | rfl | rfl | rfl | rfl | rfl | rfl | rfl | rfl | rfl | rfl | rfl | rfl | rfl | rfl | rfl | rfl | rfl | rfl | rfl | rfl | rfl | rfl : o = 0 ∨ o = 1 ∨ o = 2 ∨ o = 3 ∨ o = 4 ∨ o = 5 ∨ o = 6 ∨ o = 7 ∨ o = 8 ∨ o = 9 ∨ o = 10 ∨ o = 11 ∨ o = 12 ∨ o = 13 ∨ o = 14 ∨ o = 15 ∨ o = 16 ∨ o = 17 ∨ o = 18 ∨ o = 19 ∨ o = 20 ∨ o = 21 ∨ o = 22 ∨ o = 23 ∨ o = 24 ∨ o = 25 ∨ o = 26 ∨ o = 27 ∨ o = 28 := by omega
    all_goals
      simp (implicitDefEqProofs := false)
      refine ends_plan [] [] ?_ ?_ ?_ <;> simp [popsO, pushO, popsL, pushL]

theorem limit_pos (o : Int) : 0 < limitO o := by
  unfold limitO
  split
  · decide
  · split <;> decide
def tblKR : List (FuncId × CStep GD) := [(12, st12), (30, st30), (31, st31)]
theorem tblKR_ok : ∀ x ∈ tblKR, CStepOk Try.prog cfg x.1 x.2 := by simp [tblKR, st12_ok, st30_ok, st31_ok]
set_option maxHeartbeats 2000000 in
theorem runs18 (o a v : Int) (ho : 0 ≤ o ∧ o < 256) (hv : 0 ≤ v ∧ v < 18446744073709551616) : Runs Try.prog cfg 18 [.agg #[.int .u8 o, .int .i64 a, .int .u64 v]] (AH.of [])
    fun r H' => r = .ret (.bool (rightI ⟨o, a, v⟩)) ∧ H' = AH.of [] := by
  refine Runs.ends ?_
  refine runs_by (tbl := tblKR) tblKR_ok 0 0 (af := a18) rfl ?_
  rw [a18, b18, run_eq]
  refine ⟨by simp, ?_⟩
  simp (implicitDefEqProofs := false) [tblKR, pureStep, p12, p30, st31, ho, hv.1, hv.2]
  repeat' (first | with_reducible apply And.intro | with_reducible intro _)
  all_goals (refine ends_plan [] [] ?_ ?_ ?_ <;> simp [rightI, *] <;> first | omega | (have h1 : o < 29 := (by omega); have h2 : 0 < limitO o := limit_pos o; simp [h1, h2]))
def p18 : PStep
  | [.agg ⟨[.int .u8 o, .int .i64 a, .int .u64 v]⟩] => some ((0 ≤ o ∧ o < 256) ∧ (0 ≤ v ∧ v < 18446744073709551616), .bool (rightI ⟨o, a, v⟩))
  | _ => none
abbrev st18 := pureStep p18
theorem st18_ok : CStepOk Try.prog cfg 18 st18 := pure_ok fun args p v h hp => by
  unfold p18 at h
  split at h
  · cases h; exact ⟨rfl, rfl, runs18 _ _ _ hp.1 hp.2⟩
  · cases h
end Yteegnbbblcokdaa
end Go.Proofs
/-
  CODE: the reference's Word; ReadWord of both.
-/
set_option linter.unusedSimpArgs false
set_option linter.unusedVariables false
set_option linter.unnecessarySimpa false
set_option linter.unusedSectionVars false
namespace Go.Proofs
namespace Yteegnbbblcokdaa
open Go.Abs
set_option linter.unusedSimpArgs false

def WT : List Value := [.string ⟨#[110, 111, 112]⟩, .string ⟨#[112, 117, 115, 104]⟩, .string ⟨#[108, 111, 99, 97, 108]⟩, .string ⟨#[115, 101, 116]⟩, .string ⟨#[103, 101, 116]⟩, .string ⟨#[112, 117, 116]⟩, .string ⟨#[103, 101, 116, 97, 116]⟩, .string ⟨#[112, 117, 116, 97, 116]⟩, .string ⟨#[97, 100, 100]⟩, .string ⟨#[115, 117, 98]⟩, .string ⟨#[109, 117, 108]⟩, .string ⟨#[100, 105, 118]⟩, .string ⟨#[110, 101, 103]⟩, .string ⟨#[108, 101, 115, 115]⟩, .string ⟨#[115, 97, 109, 101]⟩, .string ⟨#[110, 111, 116]⟩, .string ⟨#[100, 117, 112]⟩, .string ⟨#[112, 111, 112]⟩, .string ⟨#[115, 119, 97, 112]⟩, .string ⟨#[106, 117, 109, 112]⟩, .string ⟨#[122, 101, 114, 111]⟩, .string ⟨#[97, 116, 111, 109, 105, 99]⟩, .string ⟨#[101, 110, 100]⟩, .string ⟨#[111, 114, 101, 108, 115, 101]⟩, .string ⟨#[101, 108, 115, 101]⟩, .string ⟨#[101, 110, 100, 111, 114]⟩, .string ⟨#[114, 101, 116, 114, 121]⟩, .string ⟨#[111, 117, 116]⟩, .string ⟨#[104, 97, 108, 116]⟩]
theorem WT_at : ∀ o, o < 29 → WT[o]? = some (.string (wordO o))
  | 0, _ => rfl
  | 1, _ => rfl
  | 2, _ => rfl
  | 3, _ => rfl
  | 4, _ => rfl
  | 5, _ => rfl
  | 6, _ => rfl
  | 7, _ => rfl
  | 8, _ => rfl
  | 9, _ => rfl
  | 10, _ => rfl
  | 11, _ => rfl
  | 12, _ => rfl
  | 13, _ => rfl
  | 14, _ => rfl
  | 15, _ => rfl
  | 16, _ => rfl
  | 17, _ => rfl
  | 18, _ => rfl
  | 19, _ => rfl
  | 20, _ => rfl
  | 21, _ => rfl
  | 22, _ => rfl
  | 23, _ => rfl
  | 24, _ => rfl
  | 25, _ => rfl
  | 26, _ => rfl
  | 27, _ => rfl
  | 28, _ => rfl
  | n + 29, h => by omega
set_option maxRecDepth 100000 in
set_option maxHeartbeats 400000 in
theorem runs20 (o : Nat) (ho : o < 256) : Runs Try.prog cfg 20 [.int .u8 o] (AH.of [])
    fun r H' => r = .ret (.string (wordO o)) ∧ H' = AH.of [] := by
  refine Runs.ends ?_
  have e1 : IntKind.i64.wrap (o : Int) = o := wrap_i64 (by omega) (by omega)
  by_cases h29 : o < 29
  · have e2 : ¬ 29 ≤ (o : Int) := by omega
    have e3 : (o : Int) < 29 := by omega
    have hk := WT_at o h29
    unfold WT at hk
    refine runs_by (tbl := []) (by simp) 0 0 (af := a20) rfl ?_
    rw [a20, b20, run_eq]
    refine ⟨by simp, ?_⟩
    simp (implicitDefEqProofs := false) [e1, e2, e3]
    simp (implicitDefEqProofs := false) only [hk]
    simp (implicitDefEqProofs := false)
    refine ends_plan [] [] ?_ ?_ ?_ <;> simp
  · have e2 : 29 ≤ (o : Int) := by omega
    have w : wordL[o]? = none := List.getElem?_eq_none (by simpa [wordL] using h29)
    refine runs_by (tbl := []) (by simp) 0 0 (af := a20) rfl ?_
    rw [a20, b20, run_eq]
    refine ⟨by simp, ?_⟩
    simp (implicitDefEqProofs := false) [e1, e2]
    refine ends_plan [] [] ?_ ?_ ?_ <;> simp [wordO, w]
end Yteegnbbblcokdaa
end Go.Proofs
/-
  CODE: the operation of a word.
-/
set_option linter.unusedSimpArgs false
set_option linter.unusedVariables false
set_option linter.unnecessarySimpa false
set_option linter.unusedSectionVars false
namespace Go.Proofs
namespace Yteegnbbblcokdaa
open Go.Abs
set_option linter.unusedSimpArgs false

def readL (s : ByteArray) (l : List Nat) : Option Nat := l.find? fun o => decide (wordO o = s)
def readW (s : ByteArray) : Option Nat := readL s (List.range 29)
def p20 : PStep
  | [.int .u8 o] => some (0 ≤ o ∧ o < 256, .string (wordO o.toNat))
  | _ => none
abbrev st20 := pureStep p20
theorem st20_ok : CStepOk Try.prog cfg 20 st20 := pure_ok fun args p v h hp => by
  unfold p20 at h
  split at h
  · cases h
    rename_i o
    have e : o = (o.toNat : Int) := by omega
    have := runs20 o.toNat (by omega)
    rw [← e] at this
    exact ⟨rfl, rfl, this⟩
  · cases h

theorem readL_succ (s : ByteArray) (n : Nat) : readL s (List.range (n + 1)) = (readL s (List.range n)).or (if wordO n = s then some n else none) := by
  unfold readL
  rw [List.range_succ, List.find?_append]
  simp [List.find?_cons]
  split <;> simp_all
set_option maxHeartbeats 1000000 in
theorem runs17 (s : ByteArray) : Runs Try.prog cfg 17 [.string s] (AH.of [])
    fun r H' => r = .ret (.tuple #[.int .u8 ((readW s).getD 0 : Nat), .bool (readW s).isSome]) ∧ H' = AH.of [] := by
  refine Runs.ends ?_
  have ok : ∀ x ∈ [(20, st20)], CStepOk Try.prog cfg x.1 x.2 := by simp [st20_ok]
  refine runs_by (tbl := [(20, st20)]) ok 30 0 (af := a17) rfl ?_
  rw [a17, b17, run_eq]
  refine ⟨by simp, ?_⟩
  simp (implicitDefEqProofs := false)
  refine loop_inv (sg_mono gX_ok (tabS_ok ok) _ _ noY noY_mono) (fun m tm H => ∃ i : Nat, m + i = 29 ∧ readL s (List.range i) = none ∧ tm 0 = .string s ∧ tm 4 = .int .u8 i ∧ H = AH.of []) (m := 29) ⟨0, by simp [readL]⟩ (by omega) ?_
  rintro m tm H ⟨i, hm, hno, t0, t4, rfl⟩
  have hs := readL_succ s i
  rw [hno] at hs
  by_cases hi : i < 29
  · have hi' : (i : Int) ≤ 28 := by omega
    have h1 : (0 : Int) ≤ i ∧ (i : Int) < 256 := by omega
    have hw : IntKind.u8.wrap ((i : Int) + 1) = ((i + 1 : Nat) : Int) := by
      simp [IntKind.wrap, IntKind.bits, IntKind.signed]; omega
    simp (implicitDefEqProofs := false) [pureStep, p20, t0, t4, hi', h1, hw]
    refine ⟨fun he => ?_, fun he => ?_⟩
    · have hr : readW s = some i := by
        have h2 : readL s (List.range (i + 1)) = some i := by rw [hs, if_pos he]; rfl
        have h3 : ∀ k, readL s (List.range (i + 1 + k)) = some i := by
          intro k
          induction k with
          | zero => exact h2
          | succ k ih => rw [← Nat.add_assoc, readL_succ, ih]; rfl
        have := h3 (28 - i)
        rwa [show i + 1 + (28 - i) = 29 by omega] at this
      refine ends_plan [] [] ?_ ?_ ?_ <;> simp [hr]
    · rw [if_neg he] at hs
      exact ⟨m - 1, by omega, i + 1, by omega, by simpa using hs, by omega⟩
  · have hi' : ¬ (i : Int) ≤ 28 := by omega
    have hil : i = 29 := by omega
    subst hil
    have hr : readW s = none := hno
    simp (implicitDefEqProofs := false) [t0, t4]
    refine ends_plan [] [] ?_ ?_ ?_ <;> simp [hr]
def p17 : PStep
  | [.string s] => some (True, .tuple #[.int .u8 ((readW s).getD 0 : Nat), .bool (readW s).isSome])
  | _ => none
abbrev st17 := pureStep p17
theorem st17_ok : CStepOk Try.prog cfg 17 st17 := pure_ok fun args p v h hp => by
  unfold p17 at h
  split at h
  · cases h; exact ⟨rfl, rfl, runs17 _⟩
  · cases h

/-! ### words, ReadWord of the program -/
def went (o : Nat) : MapEntry := ⟨.string (wordO o), .int .u8 o, o⟩
theorem find_words (s : ByteArray) : ∀ l : List Nat, findIn true (.string s) (l.map went) = some ((readL s l).map fun o : Nat => Value.int .u8 o)
  | [] => rfl
  | o :: l => by
    have ih := find_words s l
    have hk : sameK true (.string s) (went o).key = some (decide (s = wordO o)) := sameK_s _ _
    rw [List.map_cons, findIn, hk]
    by_cases h : s = wordO o
    · have h2 : wordO o = s := h.symm
      simp [h, readL, went]
    · have h2 : ¬ wordO o = s := fun e => h e.symm
      simp only [h, decide_false]
      rw [ih]
      simp [readL, List.find?_cons, h2]
theorem words_unlike : ∀ n, n < 29 → readL (wordO n) (List.range n) = none := by decide
def wents (n : Nat) : List MapEntry := (List.range n).map went
theorem wents_succ (n : Nat) : wents (n + 1) = wents n ++ [⟨.string (wordO n), .int .u8 n, n⟩] := by simp [wents, List.range_succ, went]
theorem put_words {n : Nat} (h : n < 29) : putIn true (.string (wordO n)) (.int .u8 n) n (wents n) = some (wents n ++ [⟨.string (wordO n), .int .u8 n, n⟩], n + 1) :=
  put_new (by rw [wents, find_words, words_unlike n h]; rfl)
theorem ren_wents (θ : Nat → Nat) (n : Nat) : (wents n).map (fun e => (⟨ren θ e.key, ren θ e.val, e.born⟩ : MapEntry)) = wents n := by
  simp only [wents, List.map_map]
  exact List.map_congr_left fun o _ => rfl
set_option maxHeartbeats 1000000 in
theorem runs29 : Runs Try.prog cfg 29 [] (AH.of [])
    fun r H' => r = .ret (.map (some 0)) ∧ H' = AH.of [some (.map (wents 29) 29)] := by
  refine Runs.ends ?_
  have ok : ∀ x ∈ [(19, st19)], CStepOk Try.prog cfg x.1 x.2 := by simp [st19_ok]
  refine runs_by (tbl := [(19, st19)]) ok 30 0 (af := a29) rfl ?_
  rw [a29, b29, run_eq]
  refine ⟨by simp, ?_⟩
  simp (implicitDefEqProofs := false)
  refine loop_inv (sg_mono gX_ok (tabS_ok ok) _ _ noY noY_mono) (fun m tm H => ∃ i : Nat, m + i = 29 ∧ tm 1 = .map (some 0) ∧ tm 2 = .int .u8 i ∧ H = AH.of [some (.map (wents i) i)]) (m := 29) ⟨0, by simp [wents]⟩ (by omega) ?_
  rintro m tm H ⟨i, hm, t1, t2, rfl⟩
  by_cases hi : i < 29
  · have hi' : (i : Int) ≤ 28 := by omega
    have h1 : (0 : Int) ≤ i ∧ (i : Int) < 256 := by omega
    have hw : IntKind.u8.wrap ((i : Int) + 1) = ((i + 1 : Nat) : Int) := by
      simp [IntKind.wrap, IntKind.bits, IntKind.signed]; omega
    have hp := put_words hi
    simp (implicitDefEqProofs := false) [pureStep, p19, t1, t2, hi', h1, hw, hp]
    exact ⟨m - 1, by omega, i + 1, by omega, by omega, by rw [wents_succ]⟩
  · have hi' : ¬ (i : Int) ≤ 28 := by omega
    have hil : i = 29 := by omega
    subst hil
    simp (implicitDefEqProofs := false) [t1, t2]
    refine ends_plan [] [0] ?_ ?_ ?_ <;> simp [ren_wents]
def st29 : CStep GD := fun args H => match args with
  | [] => some (True, .ret (.map (some H.next)), H.add (.map (wents 29) 29))
  | _ => none
theorem st29_ok : CStepOk Try.prog cfg 29 st29 := by
  intro args H p r H' h hp
  unfold st29 at h
  split at h
  case h_2 => cases h
  cases h
  exact runs29.atK (ro_none rfl) [] (by simp) (by simp) trivial (by simp) (by simp) (by simp [ren_wents])

def p15 : PStep
  | [.string s] => some (True, .tuple #[.int .u8 ((readW s).getD 0 : Nat), .bool (readW s).isSome])
  | _ => none
abbrev st15 := pureStep p15
theorem st15_ok : CStepOk Try.prog cfg 15 st15 := pure_ok fun args p v h hp => by
  unfold p15 at h
  split at h
  case h_2 => cases h
  rename_i s
  cases h
  refine ⟨rfl, rfl, ?_⟩
  refine Runs.ends ?_
  have hf : findIn true (.string s) (wents 29) = some ((readW s).map fun o : Nat => Value.int .u8 o) := find_words s _
  cases hr : readW s with
  | none =>
    rw [hr] at hf
    refine runs_by (tbl := [(29, st29)]) (by simp [st29_ok]) 0 0 (af := a15) rfl ?_
    rw [a15, b15, run_eq]
    refine ⟨by simp, ?_⟩
    simp (implicitDefEqProofs := false) [st29, hf]
    refine ends_plan [] [] ?_ ?_ ?_ <;> simp
  | some o =>
    rw [hr] at hf
    refine runs_by (tbl := [(29, st29)]) (by simp [st29_ok]) 0 0 (af := a15) rfl ?_
    rw [a15, b15, run_eq]
    refine ⟨by simp, ?_⟩
    simp (implicitDefEqProofs := false) [st29, hf]
    refine ends_plan [] [] ?_ ?_ ?_ <;> simp
end Yteegnbbblcokdaa
end Go.Proofs
/-
  CODE: the bytes of instructions.
-/
set_option linter.unusedSimpArgs false
set_option linter.unusedVariables false
set_option linter.unnecessarySimpa false
set_option linter.unusedSectionVars false
namespace Go.Proofs
namespace Yteegnbbblcokdaa
open Go.Abs
set_option linter.unusedSimpArgs false

theorem wrap_u8 (x : Int) : IntKind.u8.wrap x = x % 256 := by simp [IntKind.wrap, IntKind.bits, IntKind.signed]
def be (v : Int) (k : Nat) : Int := v / 2 ^ (8 * (7 - k)) % 256
def be8 (v : Int) (n : Nat) : List Int := (List.range n).map (be v)
theorem be8_succ (v : Int) (n : Nat) : be8 v (n + 1) = be8 v n ++ [be v n] := by simp [be8, List.range_succ]
def bytesI (i : Ins) : List Int := [i.o] ++ (if usesA i.o.toNat then [i.a] else []) ++ (if usesV i.o.toNat then be8 i.v 8 else [])
def encB (l : List Ins) : List Int := l.flatMap bytesI
def encOk (l : List Ins) : Bool := l.all rightI
def bs (l : List Int) : List Value := l.map fun v => .int .u8 v
theorem bs_length (l : List Int) : (bs l).length = l.length := by simp [bs]
theorem bs_append (a b : List Int) : bs (a ++ b) = bs a ++ bs b := by simp [bs]
theorem bs_single (v : Int) : bs [v] = [.int .u8 v] := rfl
theorem bs_pair (v w : Int) : bs [v, w] = [.int .u8 v, .int .u8 w] := rfl
theorem take_bs (l : List Int) : (bs l).take l.length = bs l := List.take_of_length_le (by simp [bs])
theorem bs_ground (h : List Int) : grounds (bs h) = true := by
  induction h with
  | nil => rfl
  | cons v h ih => show (ground (.int .u8 v) && grounds (bs h)) = true; rw [ih]; rfl
theorem ren_bs (θ : Nat → Nat) (h : List Int) : rens θ (bs h) = bs h := rens_ground θ _ (bs_ground h)
def inss (l : List Ins) : List Value := l.flatMap Ins.cells
theorem inss_cons (d : Ins) (l : List Ins) : inss (d :: l) = .int .u8 d.o :: .int .i64 d.a :: .int .u64 d.v :: inss l := rfl
theorem inss_length (l : List Ins) : (inss l).length = l.length * 3 := by
  induction l with
  | nil => rfl
  | cons e l ih => rw [inss_cons]; simp [ih]; omega
theorem inss_ground (l : List Ins) : grounds (inss l) = true := by
  induction l with
  | nil => rfl
  | cons e l ih => rw [inss_cons]; simpa [grounds, ground] using ih
theorem ren_inss (θ : Nat → Nat) (l : List Ins) : rens θ (inss l) = inss l := rens_ground θ _ (inss_ground l)
attribute [simp] ren_bs ren_inss
theorem many_inss {i : Nat} {x : Ins} : ∀ {l : List Ins}, l[i]? = some x → ((inss l).drop (i * 3)).take 3 = x.cells := by
  induction i with
  | zero =>
    intro l h
    cases l with
    | nil => cases h
    | cons e l => simp at h; subst h; rfl
  | succ i ih =>
    intro l h
    cases l with
    | nil => cases h
    | cons e l =>
      rw [inss_cons]
      have : (i + 1) * 3 = i * 3 + 3 := by omega
      rw [this]
      exact ih (by simpa using h)
theorem bytesI_le (i : Ins) : (bytesI i).length ≤ 10 := by
  unfold bytesI be8
  split <;> split <;> simp
theorem encB_le (l : List Ins) : (encB l).length ≤ 10 * l.length := by
  induction l with
  | nil => simp [encB]
  | cons e l ih =>
    have := bytesI_le e
    simp only [encB, List.flatMap_cons, List.length_append, List.length_cons] at ih ⊢
    omega
theorem encB_succ {l : List Ins} {i : Nat} {x : Ins} (h : l[i]? = some x) : encB (l.take (i + 1)) = encB (l.take i) ++ bytesI x := by
  rw [List.take_add_one, h]
  simp [encB]

def tblE : List (FuncId × CStep GD) := [(9, st9), (25, st25)]
theorem tblE_ok : ∀ x ∈ tblE, CStepOk Try.prog cfg x.1 x.2 := by simp [tblE, st9_ok, st25_ok]
def encR (l : List Ins) (k : Nat) : AEnd := if encOk l then .ret (.tuple #[.slice (some ⟨k, 0, none⟩) (encB l).length 1, .int .i64 0]) else .ret (.tuple #[.slice none 0 0, .int .i64 3])
theorem right_arg {i : Ins} (h : rightI i = true) : 0 ≤ i.a ∧ i.a < 64 := by
  have h := of_decide_eq_true h
  have hl : limitO i.o ≤ 64 := by
    unfold limitO
    split
    · decide
    · split <;> decide
  omega
def isB (E : List Int) (o v : Int) (k : Nat) (B : List Int) : Prop := B = E ++ [o] ++ be8 v k
theorem encOk_bad {l : List Ins} {i : Nat} {x : Ins} (h : l[i]? = some x) (hx : rightI x = false) : encOk l = false := by
  unfold encOk
  rw [List.all_eq_false]
  exact ⟨x, List.mem_of_getElem? h, by simp [hx]⟩
set_option maxHeartbeats 4000000 in
theorem runs7 (l : List Ins) (tg : Nat) (hok : ∀ e ∈ l, e.Ok) (n : Nat) (hn : n ≤ l.length) (hl : n ≤ 1000) : Runs Try.prog cfg 7 [.slice (some ⟨0, 0, none⟩) n tg] (AH.of [some (.ro (inss l))])
    fun r H' => r = encR (l.take n) 1 ∧ H' = AH.of [some (.ro (inss l)), some (.arr 5 (if encOk (l.take n) then bs (encB (l.take n)) else []))] := by
  refine Runs.ends ?_
  refine runs_by (tbl := tblE) tblE_ok 1001 0 (af := a7) rfl ?_
  rw [a7, b7, run_eq]
  refine ⟨by simp, ?_⟩
  simp (implicitDefEqProofs := false)
  refine loop_view (sg_mono gX_ok (tabS_ok tblE_ok) _ _ noY noY_mono) (fun m tm H => ∃ i : Nat, m + i = n ∧ (∀ j x, j < i → l[j]? = some x → rightI x = true) ∧ tm 4 = .slice (some ⟨1, 0, none⟩) (encB (l.take i)).length 1 ∧ tm 9 = .slice (some ⟨0, 0, none⟩) n tg ∧ tm 10 = .int .i64 n ∧ tm 11 = .int .i64 i ∧
    H = AH.of [some (.ro (inss l)), some (.arr 5 (bs (encB (l.take i))))]) (m := n) ?_ (by omega) ?_
  · refine round_wk [.nil 5] [0, 1] [some (.ro (inss l)), some (.arr 5 (bs []))] [(4, .slice (some ⟨1, 0, none⟩) 0 1)] n (by omega) ?_ ?_ ?_ ⟨0, ?_⟩ <;> simp [encB, bs]
    done
  rintro m tm H ⟨i, hm, hall, t4, t9, t10, t11, rfl⟩
  by_cases hi : i < n
  · obtain ⟨x, hx⟩ : ∃ x, l[i]? = some x := ⟨l[i]'(by omega), List.getElem?_eq_getElem (by omega)⟩
    have hi' : (i : Int) < n := by omega
    have hwr := inc_i64 hi (by omega)
    have r3 := many_inss hx
    have hle : i * 3 + 3 ≤ (inss l).length := by rw [inss_length]; omega
    have hxo : x.Ok := hok x (List.mem_of_getElem? hx)
    have hsuc := encB_succ hx
    have hlen : (encB (l.take i)).length ≤ 10 * i := by
      have := encB_le (l.take i); rw [List.length_take] at this; omega
    have hr3 : ((encB (l.take i)).length + 1) ≤ 140737488355328 ∧ (encB (l.take i)).length ≤ 9223372036854775806 := by omega
    cases hrx : rightI x with
    | false =>
      have hbad : encOk (l.take n) = false := encOk_bad (i := i) (by rw [List.getElem?_take, if_pos hi]; exact hx) hrx
      simp (implicitDefEqProofs := false) [tblE, pureStep, p9, t4, t9, t10, t11, hi, hi', r3, hle, Ins.cells, hxo.1, hrx]
      simp only [encR, hbad]
      refine ends_plan [.nil 5] [0, 3] ?_ ?_ ?_ <;> simp
    | true =>
      have hall' : ∀ j y, j < i + 1 → l[j]? = some y → rightI y = true := fun j y hj hy => by
        by_cases e : j = i
        · subst e; rw [hx] at hy; cases hy; exact hrx
        · exact hall j y (by omega) hy
      cases hV : usesV x.o.toNat with
      | true =>
        have hA : usesA x.o.toNat = false := by
          have : x.o.toNat = 1 := by simpa [usesV] using hV
          rw [this]; decide
        simp (implicitDefEqProofs := false) [tblE, pureStep, p9, p25, t4, t9, t10, t11, hi, hi', r3, hle, Ins.cells, hxo.1, hrx, hA, hV, bs_length, take_bs, hr3]
        have hb : bytesI x = [x.o] ++ be8 x.v 8 := by simp [bytesI, hA, hV]
        have hvv := hxo.2
        refine loop_view (sg_mono gX_ok (tabS_ok tblE_ok) _ _ noY noY_mono) (fun m2 tm H => ∃ k : Nat, m2 + k = 8 ∧ ∃ q : Nat, tm 4 = .slice (some ⟨q, 0, none⟩) ((encB (l.take i)).length + 1 + k) 1 ∧ tm 6 = .pointer (some ⟨2, 0, none⟩) ∧ tm 9 = .slice (some ⟨0, 0, none⟩) n tg ∧ tm 10 = .int .i64 n ∧ tm 11 = .int .i64 i ∧ tm 36 = .int .i64 k ∧
          ∃ B : List Int, isB (encB (l.take i)) x.o x.v k B ∧
          ((q = 5 ∧ H = AH.of [some (.ro (inss l)), none, some (.arr 26 [.int .u8 x.o, .int .i64 x.a, .int .u64 x.v]), none, none, some (.arr 5 (bs B))]) ∨
           (q = 6 ∧ H = AH.of [some (.ro (inss l)), none, some (.arr 26 [.int .u8 x.o, .int .i64 x.a, .int .u64 x.v]), none, none, none, some (.arr 5 (bs B))]))) (m := 8) ?_ (by omega) ?_
        · refine round_plan [] [0, 1, 2, 3, 4, 5] [some (.ro (inss l)), none, some (.arr 26 [.int .u8 x.o, .int .i64 x.a, .int .u64 x.v]), none, none, some (.arr 5 (bs (encB (l.take i) ++ [x.o])))] 8 (by omega) ?_ ?_ ⟨0, by omega, 5, ?_, ?_, ?_, ?_, ?_, ?_, encB (l.take i) ++ [x.o], by simp [isB, be8], .inl ⟨rfl, rfl⟩⟩ <;> simp [t9, t10, t11, be8, bs_append, bs_single]
        rintro m2 tm2 H2 ⟨k, hm2, q, u4, u6, u9, u10, u11, u36, B, hB0, hH⟩
        have hB : B = encB (l.take i) ++ [x.o] ++ be8 x.v k := hB0
        have hlk : (bs B).length = (encB (l.take i)).length + 1 + k := by rw [hB]; simp [bs_length, be8]; omega
        have htk2 : (bs B).take ((encB (l.take i)).length + 1 + k) = bs B := List.take_of_length_le (by omega)
        have hBn : encB (l.take i) ++ [x.o] ++ be8 x.v (k + 1) = B ++ [be x.v k] := by rw [be8_succ, hB]; simp
        by_cases hk8 : k < 8
        · have hk8' : (k : Int) < 8 := by omega
          have hwk := inc_i64 hk8 (by omega)
          have hr4 : (encB (l.take i)).length + 1 + k + 1 ≤ 140737488355328 ∧ (encB (l.take i)).length + 1 + k ≤ 9223372036854775806 := by omega
          have hw7 : IntKind.i64.wrap (7 - (k : Int)) = ((7 - k : Nat) : Int) := by rw [wrap_i64 (by omega) (by omega)]; omega
          have hw8 : IntKind.i64.wrap (8 * ((7 - k : Nat) : Int)) = 8 * ((7 - k : Nat) : Int) := wrap_i64 (by omega) (by omega)
          have hneg : ¬ (8 * ((7 - k : Nat) : Int) < 0) := by omega
          have hsh : min (8 * ((7 - k : Nat) : Int)).toNat 64 = 8 * (7 - k) := by omega
          have hfd := Int.fdiv_eq_ediv_of_nonneg x.v (b := 2 ^ (8 * (7 - k))) (Int.le_of_lt (Int.pow_pos (by omega)))
          have hbe : x.v / 2 ^ (8 * (7 - k)) % 256 = be x.v k := rfl
          rcases hH with ⟨rfl, rfl⟩ | ⟨rfl, rfl⟩
          · simp (implicitDefEqProofs := false) [u4, u6, u9, u10, u11, u36, hk8', hlk, htk2, hr4, hw7, hw8, hneg, hsh, hfd, wrap_u8, hbe, hwk, IntKind.bits]
            refine round_plan [] [0, 1, 2, 3, 4, 5, 7] [some (.ro (inss l)), none, some (.arr 26 [.int .u8 x.o, .int .i64 x.a, .int .u64 x.v]), none, none, none, some (.arr 5 (bs (B ++ [be x.v k])))] (m2 - 1) (by omega) ?_ ?_ ⟨k + 1, by omega, 6, ?_, ?_, ?_, ?_, ?_, ?_, B ++ [be x.v k], hBn.symm, .inr ⟨rfl, rfl⟩⟩ <;> simp [u4, u6, u9, u10, u11, u36, bs_append, bs_single] <;> omega
          · simp (implicitDefEqProofs := false) [u4, u6, u9, u10, u11, u36, hk8', hlk, htk2, hr4, hw7, hw8, hneg, hsh, hfd, wrap_u8, hbe, hwk, IntKind.bits]
            refine round_plan [] [0, 1, 2, 3, 4, 5, 8] [some (.ro (inss l)), none, some (.arr 26 [.int .u8 x.o, .int .i64 x.a, .int .u64 x.v]), none, none, none, some (.arr 5 (bs (B ++ [be x.v k])))] (m2 - 1) (by omega) ?_ ?_ ⟨k + 1, by omega, 6, ?_, ?_, ?_, ?_, ?_, ?_, B ++ [be x.v k], hBn.symm, .inr ⟨rfl, rfl⟩⟩ <;> simp [u4, u6, u9, u10, u11, u36, bs_append, bs_single] <;> omega
        · have hk8' : ¬ (k : Int) < 8 := by omega
          have hke : k = 8 := by omega
          subst hke
          have hBe : B = encB (l.take (i + 1)) := by rw [hB, hsuc, hb]; simp
          have hl2 : (encB (l.take i)).length + 1 + 8 = (encB (l.take (i + 1))).length := by rw [hsuc, hb]; simp [be8]
          rcases hH with ⟨rfl, rfl⟩ | ⟨rfl, rfl⟩
          · simp (implicitDefEqProofs := false) [u4, u6, u9, u10, u11, u36, hwr]
            refine round_plan [] [0, 5] [some (.ro (inss l)), some (.arr 5 (bs (encB (l.take (i + 1)))))] (m - 1) (by omega) ?_ ?_ ⟨i + 1, by omega, hall', ?_⟩ <;> simp [u4, u6, u9, u10, u11, hBe, hl2]
          · simp (implicitDefEqProofs := false) [u4, u6, u9, u10, u11, u36, hwr]
            refine round_plan [] [0, 6] [some (.ro (inss l)), some (.arr 5 (bs (encB (l.take (i + 1)))))] (m - 1) (by omega) ?_ ?_ ⟨i + 1, by omega, hall', ?_⟩ <;> simp [u4, u6, u9, u10, u11, hBe, hl2]
      | false =>
        cases hA : usesA x.o.toNat with
        | true =>
          have hb : bytesI x = [x.o, x.a] := by simp [bytesI, hA, hV]
          have hwa : IntKind.u8.wrap x.a = x.a := by have := right_arg hrx; rw [wrap_u8]; omega
          have hr5 : (encB (l.take i)).length + 1 + 1 ≤ 140737488355328 ∧ (encB (l.take i)).length + 1 ≤ 9223372036854775806 := by omega
          have htk3 : (bs (encB (l.take i)) ++ [Value.int .u8 x.o]).take ((encB (l.take i)).length + 1) = bs (encB (l.take i)) ++ [Value.int .u8 x.o] := List.take_of_length_le (by simp [bs_length])
          simp (implicitDefEqProofs := false) [tblE, pureStep, p9, p25, t4, t9, t10, t11, hi, hi', r3, hle, Ins.cells, hxo.1, hrx, hA, hV, bs_length, take_bs, hr3, hr5, htk3, hwa, hwr]
          refine ⟨by omega, ?_⟩
          refine round_plan [] [0, 7] [some (.ro (inss l)), some (.arr 5 (bs (encB (l.take (i + 1)))))] (m - 1) (by omega) ?_ ?_ ⟨i + 1, by omega, hall', ?_⟩ <;> simp [t4, t9, t10, t11, hsuc, hb, bs_append, bs_pair]
        | false =>
          have hb : bytesI x = [x.o] := by simp [bytesI, hA, hV]
          simp (implicitDefEqProofs := false) [tblE, pureStep, p9, p25, t4, t9, t10, t11, hi, hi', r3, hle, Ins.cells, hxo.1, hrx, hA, hV, bs_length, take_bs, hr3, hwr]
          refine round_plan [] [0, 5] [some (.ro (inss l)), some (.arr 5 (bs (encB (l.take (i + 1)))))] (m - 1) (by omega) ?_ ?_ ⟨i + 1, by omega, hall', ?_⟩ <;> simp [t4, t9, t10, t11, hsuc, hb, bs_append, bs_single]
  · have hi' : ¬ (i : Int) < n := by omega
    have hil : l.take i = l.take n := by congr 1; omega
    have hok2 : encOk (l.take n) = true := by
      unfold encOk
      rw [List.all_eq_true]
      intro x hx
      obtain ⟨j, hj⟩ := List.getElem?_of_mem hx
      rw [List.getElem?_take] at hj
      split at hj
      · exact hall j x (by omega) hj
      · cases hj
    simp (implicitDefEqProofs := false) [t4, t9, t10, t11, hi', hil]
    simp only [encR, hok2]
    refine ends_plan [] [0, 1] ?_ ?_ ?_ <;> simp

/-! As a contract: over a row of one's own, or one that nobody writes. -/
def asInss : List Value → Option (List Ins)
  | [] => some []
  | .int .u8 o :: .int .i64 a :: .int .u64 v :: l => (asInss l).map (⟨o, a, v⟩ :: ·)
  | _ => none
theorem asInss_inss : ∀ l : List Ins, asInss (inss l) = some l
  | [] => rfl
  | e :: l => by
    show (asInss (inss l)).map (_ :: ·) = _
    rw [asInss_inss l]; rfl
theorem asInss_inv : ∀ {cs : List Value} {l : List Ins}, asInss cs = some l → cs = inss l
  | cs, l, e => by
    unfold asInss at e
    split at e
    · cases e; rfl
    · simp only [Option.map_eq_some_iff] at e
      obtain ⟨l', e1, rfl⟩ := e
      rw [asInss_inv e1]; rfl
    · cases e
attribute [simp] asInss_inss
end Yteegnbbblcokdaa
end Go.Proofs
/-
  CODE: Encode as a contract.
-/
set_option linter.unusedSimpArgs false
set_option linter.unusedVariables false
set_option linter.unnecessarySimpa false
set_option linter.unusedSectionVars false
namespace Go.Proofs
namespace Yteegnbbblcokdaa
open Go.Abs
set_option linter.unusedSimpArgs false

theorem renE_encR (θ : Nat → Nat) (l : List Ins) (k : Nat) : renE θ (encR l k) = encR l (θ k) := by
  unfold encR
  split
  · rw [renE_ret]; simp [ren]
  · rw [renE_ret]; simp [ren]
def encO (l : List Ins) : AObj GD := .arr 5 (if encOk l then bs (encB l) else [])
theorem ren_encO (θ : Nat → Nat) (l : List Ins) : (encO l).ren θ = encO l := by
  unfold encO
  split
  · rw [ren_arr, ren_bs]
  · rfl
theorem encode_ro {H : AH GD} {k tg : Nat} {l : List Ins} (hk : H.get k = some (.ro (inss l))) (hok : ∀ e ∈ l, e.Ok) {n : Nat} (hn : n ≤ l.length) (hl : n ≤ 1000) :
    Runs Try.prog cfg 7 [.slice (some ⟨k, 0, none⟩) n tg] H fun r H' => r = encR (l.take n) H.next ∧ H' = H.add (encO (l.take n)) :=
  (runs7 l tg hok n hn hl).atK (ro_same fun i cs hi => by rcases i with _ | _ | i <;> simp at hi ⊢; exact hi) [k] (by simp) (by simp) (by simp [hk]) (by simp) (by rw [renE_encR]; simp [sh]) (by
    have := ren_encO (sh 1 H.next [k]) (l.take n)
    unfold encO at this ⊢
    simp [upd_get hk, this])
theorem encode_arr {H : AH GD} {k tg : Nat} {e : TypeId} {l : List Ins} (hk : H.get k = some (.arr e (inss l))) (hkn : k < H.next) (hok : ∀ e ∈ l, e.Ok) {n : Nat} (hn : n ≤ l.length) (hl : n ≤ 1000) :
    Runs Try.prog cfg 7 [.slice (some ⟨k, 0, none⟩) n tg] H fun r H' => r = encR (l.take n) H.next ∧ H' = H.add (encO (l.take n)) := by
  refine Runs.borrow k hk ((encode_ro (H := H.upd k (.ro (inss l))) (by rw [AH.get_upd, if_pos rfl]) hok hn hl).mono ?_)
  rintro r H' ⟨h1, rfl⟩
  refine ⟨by rw [AH.get_add, AH.next_upd, if_neg (by omega), AH.get_upd, if_pos rfl], fun j cs2 hj hcs hne => ⟨cs2, ?_, hne⟩, by rw [h1, AH.next_upd], ?_⟩
  · rw [AH.get_add, AH.next_upd] at hcs
    split at hcs
    · unfold encO at hcs; cases hcs
    · rw [AH.get_upd, if_neg hj] at hcs; exact hcs
  · refine AH.ext' (by simp) fun j => ?_
    rw [AH.get_upd, AH.get_add, AH.get_add, AH.next_upd, AH.get_upd]
    by_cases h : j = k
    · subst h; rw [if_pos rfl, if_neg (by omega), hk]
    · rw [if_neg h, if_neg h]
def st7 : CStep GD := fun args H => match args with
  | [.slice (some ⟨k, 0, none⟩) n tg] => match H.get k with
    | some (.ro cs) => (asInss cs).map fun l => (n ≤ l.length ∧ (∀ e ∈ l, e.Ok) ∧ n ≤ 1000, encR (l.take n) H.next, H.add (encO (l.take n)))
    | some (.arr e cs) => (asInss cs).map fun l => (k < H.next ∧ n ≤ l.length ∧ (∀ e ∈ l, e.Ok) ∧ n ≤ 1000, encR (l.take n) H.next, H.add (encO (l.take n)))
    | _ => none
  | _ => none
theorem st7_ok : CStepOk Try.prog cfg 7 st7 := by
  intro args H p r H' h hp
  unfold st7 at h
  split at h
  case h_2 => cases h
  split at h
  · simp only [Option.map_eq_some_iff] at h
    obtain ⟨l, hl, h⟩ := h
    rename_i k n tg x cs hk
    cases h
    rw [asInss_inv hl] at hk
    obtain ⟨h1, h2, h3⟩ := hp
    exact encode_ro hk h2 h1 h3
  · simp only [Option.map_eq_some_iff] at h
    obtain ⟨l, hl, h⟩ := h
    rename_i k n tg x e cs hk
    cases h
    rw [asInss_inv hl] at hk
    obtain ⟨h0, h1, h2, h3⟩ := hp
    exact encode_arr hk h0 h2 h1 h3
  · cases h
end Yteegnbbblcokdaa
end Go.Proofs
/-
  CODE: the reference's Encode.
-/
set_option linter.unusedSimpArgs false
set_option linter.unusedVariables false
set_option linter.unnecessarySimpa false
set_option linter.unusedSectionVars false
namespace Go.Proofs
namespace Yteegnbbblcokdaa
open Go.Abs
set_option linter.unusedSimpArgs false

theorem inss_at {l : List Ins} {i : Nat} {x : Ins} (h : l[i]? = some x) : (inss l)[i * 3]? = some (.int .u8 x.o) ∧ (inss l)[i * 3 + 1]? = some (.int .i64 x.a) ∧ (inss l)[i * 3 + 2]? = some (.int .u64 x.v) := by
  have h3 := many_inss h
  have g : ∀ j, j < 3 → (inss l)[i * 3 + j]? = x.cells[j]? := fun j hj => by
    rw [← h3, List.getElem?_take, if_pos hj, List.getElem?_drop]
  exact ⟨g 0 (by omega), g 1 (by omega), g 2 (by omega)⟩
def dv (v : Int) (j : Nat) : Int := v / 256 ^ j
theorem dv_succ (v : Int) (j : Nat) : dv v j / 256 = dv v (j + 1) := by
  unfold dv
  rw [Int.ediv_ediv_of_nonneg (Int.le_of_lt (Int.pow_pos (by omega))), Int.pow_succ]
theorem dv_be (v : Int) {k : Nat} : dv v (7 - k) % 256 = be v k := by
  unfold dv be
  have h : (2 : Int) ^ 8 = 256 := by decide
  rw [Int.pow_mul, h]
theorem dv_range {v : Int} (h0 : 0 ≤ v) (h1 : v < 18446744073709551616) (j : Nat) : 0 ≤ dv v j ∧ dv v j < 18446744073709551616 := by
  have hp : (0 : Int) < 256 ^ j := Int.pow_pos (by omega)
  exact ⟨Int.ediv_nonneg h0 (Int.le_of_lt hp), Int.lt_of_le_of_lt (Int.ediv_le_self _ h0) h1⟩

def tblER : List (FuncId × CStep GD) := [(18, st18), (12, st12)]
theorem tblER_ok : ∀ x ∈ tblER, CStepOk Try.prog cfg x.1 x.2 := by simp [tblER, st18_ok, st12_ok]
set_option maxHeartbeats 8000000 in
theorem runs21 (l : List Ins) (tg : Nat) (hok : ∀ e ∈ l, e.Ok) (n : Nat) (hn : n ≤ l.length) (hl : n ≤ 1000) : Runs Try.prog cfg 21 [.slice (some ⟨0, 0, none⟩) n tg] (AH.of [some (.ro (inss l))])
    fun r H' => r = encR (l.take n) 1 ∧ H' = AH.of [some (.ro (inss l)), some (encO (l.take n))] := by
  refine Runs.ends ?_
  refine runs_by (tbl := tblER) tblER_ok 1001 0 (af := a21) rfl ?_
  rw [a21, b21, run_eq]
  refine ⟨by simp, ?_⟩
  simp (implicitDefEqProofs := false)
  refine loop_view (sg_mono gX_ok (tabS_ok tblER_ok) _ _ noY noY_mono) (fun m tm H => ∃ i : Nat, m + i = n ∧ (∀ j x, j < i → l[j]? = some x → rightI x = true) ∧ tm 0 = .slice (some ⟨0, 0, none⟩) n tg ∧ tm 4 = .slice (some ⟨1, 0, none⟩) (encB (l.take i)).length 1 ∧ tm 5 = .int .i64 i ∧
    H = AH.of [some (.ro (inss l)), some (.arr 5 (bs (encB (l.take i))))]) (m := n) ?_ (by omega) ?_
  · refine round_wk [.nil 5] [0, 1] [some (.ro (inss l)), some (.arr 5 (bs []))] [(4, .slice (some ⟨1, 0, none⟩) 0 1)] n (by omega) ?_ ?_ ?_ ⟨0, ?_⟩ <;> simp [encB, bs]
    done
  rintro m tm H ⟨i, hm, hall, t0, t4, t5, rfl⟩
  by_cases hi : i < n
  · obtain ⟨x, hx⟩ : ∃ x, l[i]? = some x := ⟨l[i]'(by omega), List.getElem?_eq_getElem (by omega)⟩
    have hi' : (i : Int) < n := by omega
    have hwr := inc_i64 hi (by omega)
    have r3 := many_inss hx
    obtain ⟨x0, x1, x2⟩ := inss_at hx
    have hle : i * 3 + 3 ≤ (inss l).length := by rw [inss_length]; omega
    have hxo : x.Ok := hok x (List.mem_of_getElem? hx)
    have hsuc := encB_succ hx
    have hlen : (encB (l.take i)).length ≤ 10 * i := by
      have := encB_le (l.take i); rw [List.length_take] at this; omega
    have hr3 : ((encB (l.take i)).length + 1) ≤ 140737488355328 ∧ (encB (l.take i)).length ≤ 9223372036854775806 := by omega
    cases hrx : rightI x with
    | false =>
      have hbad : encOk (l.take n) = false := encOk_bad (i := i) (by rw [List.getElem?_take, if_pos hi]; exact hx) hrx
      simp (implicitDefEqProofs := false) [tblER, pureStep, p18, t0, t4, t5, hi, hi', r3, hle, Ins.cells, hxo.1, hxo.2, hrx]
      simp only [encR, encO, hbad]
      refine ends_plan [.nil 5] [0, 2] ?_ ?_ ?_ <;> simp
    | true =>
      have hall' : ∀ j y, j < i + 1 → l[j]? = some y → rightI y = true := fun j y hj hy => by
        by_cases e : j = i
        · subst e; rw [hx] at hy; cases hy; exact hrx
        · exact hall j y (by omega) hy
      cases hV : usesV x.o.toNat with
      | true =>
        have hA : usesA x.o.toNat = false := by
          have : x.o.toNat = 1 := by simpa [usesV] using hV
          rw [this]; decide
        simp (implicitDefEqProofs := false) [tblER, pureStep, p18, p12, t0, t4, t5, hi, hi', r3, x0, x1, x2, hle, Ins.cells, hxo.1, hxo.2, hrx, hA, hV, bs_length, take_bs, hr3]
        have hb : bytesI x = [x.o] ++ be8 x.v 8 := by simp [bytesI, hA, hV]
        refine loop_view (sg_mono gX_ok (tabS_ok tblER_ok) _ _ noY noY_mono) (fun m2 tm H => ∃ k : Nat, m2 + k = 8 ∧ tm 0 = .slice (some ⟨0, 0, none⟩) n tg ∧ tm 5 = .int .i64 i ∧ tm 7 = .bool true ∧ tm 8 = .int .i64 (7 - (k : Int)) ∧ ∃ q : Nat, tm 4 = .slice (some ⟨q, 0, none⟩) ((encB (l.take i)).length + 1 + k) 1 ∧
          ∃ B : List Int, isB (encB (l.take i)) x.o x.v k B ∧
          ((q = 3 ∧ H = AH.of [some (.ro (inss l)), none, none, some (.arr 5 (bs B))]) ∨
           (q = 4 ∧ H = AH.of [some (.ro (inss l)), none, none, none, some (.arr 5 (bs B))]))) (m := 8) ?_ (by omega) ?_
        · refine round_plan [] [0, 1, 2, 3] [some (.ro (inss l)), none, none, some (.arr 5 (bs (encB (l.take i) ++ [x.o])))] 8 (by omega) ?_ ?_ ⟨0, by omega, ?_, ?_, ?_, ?_, 3, ?_, encB (l.take i) ++ [x.o], by simp [isB, be8], .inl ⟨rfl, rfl⟩⟩ <;> simp [t0, t5, be8, bs_append, bs_single]
        rintro m2 tm2 H2 ⟨k, hm2, u0, u5, u7, u8, q, u4, B, hB0, hH⟩
        have hB : B = encB (l.take i) ++ [x.o] ++ be8 x.v k := hB0
        have hlk : (bs B).length = (encB (l.take i)).length + 1 + k := by rw [hB]; simp [bs_length, be8]; omega
        have htk2 : (bs B).take ((encB (l.take i)).length + 1 + k) = bs B := List.take_of_length_le (by omega)
        have hBn : encB (l.take i) ++ [x.o] ++ be8 x.v (k + 1) = B ++ [be x.v k] := by rw [be8_succ, hB]; simp
        by_cases hk8 : k < 8
        · have hk8' : (0 : Int) ≤ 7 - (k : Int) := by omega
          have hk9p : (k : Int) ≤ 7 := by omega
          have hr4 : (encB (l.take i)).length + 1 + k + 1 ≤ 140737488355328 ∧ (encB (l.take i)).length + 1 + k ≤ 9223372036854775806 := by omega
          have hwk : IntKind.i64.wrap (7 - (k : Int) - 1) = 7 - ((k + 1 : Nat) : Int) := by rw [wrap_i64 (by omega) (by omega)]; omega
          rcases hH with ⟨rfl, rfl⟩ | ⟨rfl, rfl⟩
          · simp (implicitDefEqProofs := false) [u0, u4, u5, u7, u8, hk8', hk9p, hi, hi', x0, x1, x2]
            refine loop_inv (sg_mono gX_ok (tabS_ok tblER_ok) _ _ noY noY_mono) (fun m3 tm H => ∃ j : Nat, m3 + j = 7 - k ∧ tm 0 = .slice (some ⟨0, 0, none⟩) n tg ∧ tm 4 = .slice (some ⟨3, 0, none⟩) ((encB (l.take i)).length + 1 + k) 1 ∧ tm 5 = .int .i64 i ∧ tm 7 = .bool true ∧ tm 8 = .int .i64 (7 - (k : Int)) ∧ tm 9 = .int .u64 (dv x.v j) ∧ tm 10 = .int .i64 j ∧ H = AH.of [some (.ro (inss l)), none, none, some (.arr 5 (bs B))]) (m := 7 - k) ⟨0, by omega, by simp [u0, u4, u5, u7, u8, dv]⟩ (by omega) ?_
            rintro m3 tm3 H3 ⟨j, hm3, w0, w4, w5, w7, w8, w9, w10, rfl⟩
            have hdr := dv_range hxo.2.1 hxo.2.2 j
            by_cases hj : j < 7 - k
            · have hj' : (j : Int) < 7 - (k : Int) := by omega
              have hwj : IntKind.i64.wrap ((j : Int) + 1) = ((j + 1 : Nat) : Int) := by rw [wrap_i64 (by omega) (by omega)]; omega
              have htd : (dv x.v j).tdiv 256 = dv x.v (j + 1) := by rw [Int.tdiv_eq_ediv_of_nonneg hdr.1, dv_succ]
              have hdr2 := dv_range hxo.2.1 hxo.2.2 (j + 1)
              have hwd : IntKind.u64.wrap (dv x.v (j + 1)) = dv x.v (j + 1) := wrap_u64 hdr2.1 hdr2.2
              simp (implicitDefEqProofs := false) [w0, w4, w5, w7, w8, w9, w10, hj', hwj, htd, hwd]
              exact ⟨m3 - 1, by omega, j + 1, by omega, by omega⟩
            · have hj' : ¬ (j : Int) < 7 - (k : Int) := by omega
              have hje : j = 7 - k := by omega
              have htm : (dv x.v j).tmod 256 = be x.v k := by rw [Int.tmod_eq_emod_of_nonneg hdr.1, hje, dv_be]
              have hw8 : IntKind.u8.wrap (be x.v k) = be x.v k := by rw [wrap_u8]; unfold be; omega
              simp (implicitDefEqProofs := false) [w0, w4, w5, w7, w8, w9, w10, hj', htm, hw8, hlk, htk2, hr4, hwk]
              refine round_plan [] [0, 1, 2, 3, 5] [some (.ro (inss l)), none, none, none, some (.arr 5 (bs (B ++ [be x.v k])))] (m2 - 1) (by omega) ?_ ?_ ⟨k + 1, by omega, ?_, ?_, ?_, ?_, 4, ?_, B ++ [be x.v k], hBn.symm, .inr ⟨rfl, rfl⟩⟩ <;> simp [w0, w4, w5, w7, w8, bs_append, bs_single] <;> omega
          · simp (implicitDefEqProofs := false) [u0, u4, u5, u7, u8, hk8', hk9p, hi, hi', x0, x1, x2]
            refine loop_inv (sg_mono gX_ok (tabS_ok tblER_ok) _ _ noY noY_mono) (fun m3 tm H => ∃ j : Nat, m3 + j = 7 - k ∧ tm 0 = .slice (some ⟨0, 0, none⟩) n tg ∧ tm 4 = .slice (some ⟨4, 0, none⟩) ((encB (l.take i)).length + 1 + k) 1 ∧ tm 5 = .int .i64 i ∧ tm 7 = .bool true ∧ tm 8 = .int .i64 (7 - (k : Int)) ∧ tm 9 = .int .u64 (dv x.v j) ∧ tm 10 = .int .i64 j ∧ H = AH.of [some (.ro (inss l)), none, none, none, some (.arr 5 (bs B))]) (m := 7 - k) ⟨0, by omega, by simp [u0, u4, u5, u7, u8, dv]⟩ (by omega) ?_
            rintro m3 tm3 H3 ⟨j, hm3, w0, w4, w5, w7, w8, w9, w10, rfl⟩
            have hdr := dv_range hxo.2.1 hxo.2.2 j
            by_cases hj : j < 7 - k
            · have hj' : (j : Int) < 7 - (k : Int) := by omega
              have hwj : IntKind.i64.wrap ((j : Int) + 1) = ((j + 1 : Nat) : Int) := by rw [wrap_i64 (by omega) (by omega)]; omega
              have htd : (dv x.v j).tdiv 256 = dv x.v (j + 1) := by rw [Int.tdiv_eq_ediv_of_nonneg hdr.1, dv_succ]
              have hdr2 := dv_range hxo.2.1 hxo.2.2 (j + 1)
              have hwd : IntKind.u64.wrap (dv x.v (j + 1)) = dv x.v (j + 1) := wrap_u64 hdr2.1 hdr2.2
              simp (implicitDefEqProofs := false) [w0, w4, w5, w7, w8, w9, w10, hj', hwj, htd, hwd]
              exact ⟨m3 - 1, by omega, j + 1, by omega, by omega⟩
            · have hj' : ¬ (j : Int) < 7 - (k : Int) := by omega
              have hje : j = 7 - k := by omega
              have htm : (dv x.v j).tmod 256 = be x.v k := by rw [Int.tmod_eq_emod_of_nonneg hdr.1, hje, dv_be]
              have hw8 : IntKind.u8.wrap (be x.v k) = be x.v k := by rw [wrap_u8]; unfold be; omega
              simp (implicitDefEqProofs := false) [w0, w4, w5, w7, w8, w9, w10, hj', htm, hw8, hlk, htk2, hr4, hwk]
              refine round_plan [] [0, 1, 2, 3, 6] [some (.ro (inss l)), none, none, none, some (.arr 5 (bs (B ++ [be x.v k])))] (m2 - 1) (by omega) ?_ ?_ ⟨k + 1, by omega, ?_, ?_, ?_, ?_, 4, ?_, B ++ [be x.v k], hBn.symm, .inr ⟨rfl, rfl⟩⟩ <;> simp [w0, w4, w5, w7, w8, bs_append, bs_single] <;> omega
        · have hk8' : ¬ (0 : Int) ≤ 7 - (k : Int) := by omega
          have hk9 : ¬ (k : Int) ≤ 7 := by omega
          have hke : k = 8 := by omega
          have hBe : B = encB (l.take (i + 1)) := by rw [hB, hsuc, hb, hke]; simp
          have hl2 : (encB (l.take i)).length + 1 + k = (encB (l.take (i + 1))).length := by rw [hsuc, hb, hke]; simp [be8]
          rcases hH with ⟨rfl, rfl⟩ | ⟨rfl, rfl⟩
          · simp (implicitDefEqProofs := false) [u0, u4, u5, u7, u8, hk8', hk9, hwr]
            refine round_plan [] [0, 3] [some (.ro (inss l)), some (.arr 5 (bs (encB (l.take (i + 1)))))] (m - 1) (by omega) ?_ ?_ ⟨i + 1, by omega, hall', ?_⟩ <;> simp [u0, u4, u5, u7, u8, hBe, hl2]
          · simp (implicitDefEqProofs := false) [u0, u4, u5, u7, u8, hk8', hk9, hwr]
            refine round_plan [] [0, 4] [some (.ro (inss l)), some (.arr 5 (bs (encB (l.take (i + 1)))))] (m - 1) (by omega) ?_ ?_ ⟨i + 1, by omega, hall', ?_⟩ <;> simp [u0, u4, u5, u7, u8, hBe, hl2]
      | false =>
        cases hA : usesA x.o.toNat with
        | true =>
          have hb : bytesI x = [x.o, x.a] := by simp [bytesI, hA, hV]
          have hwa : IntKind.u8.wrap x.a = x.a := by have := right_arg hrx; rw [wrap_u8]; omega
          have hr5 : (encB (l.take i)).length + 1 + 1 ≤ 140737488355328 ∧ (encB (l.take i)).length + 1 ≤ 9223372036854775806 := by omega
          have htk3 : (bs (encB (l.take i)) ++ [Value.int .u8 x.o]).take ((encB (l.take i)).length + 1) = bs (encB (l.take i)) ++ [Value.int .u8 x.o] := List.take_of_length_le (by simp [bs_length])
          simp (implicitDefEqProofs := false) [tblER, pureStep, p18, p12, t0, t4, t5, hi, hi', r3, x0, x1, x2, hle, Ins.cells, hxo.1, hxo.2, hrx, hA, hV, bs_length, take_bs, hr3, hr5, htk3, hwa]
          refine ⟨by omega, ?_⟩
          refine loop_once (sg_mono gX_ok (tabS_ok tblER_ok) _ _ noY noY_mono) (by omega) ?_
          simp (implicitDefEqProofs := false) [t0, t4, t5, hwr]
          refine round_plan [] [0, 5] [some (.ro (inss l)), some (.arr 5 (bs (encB (l.take (i + 1)))))] (m - 1) (by omega) ?_ ?_ ⟨i + 1, by omega, hall', ?_⟩ <;> simp [t0, t4, t5, hsuc, hb, bs_append, bs_pair]
        | false =>
          have hb : bytesI x = [x.o] := by simp [bytesI, hA, hV]
          simp (implicitDefEqProofs := false) [tblER, pureStep, p18, p12, t0, t4, t5, hi, hi', r3, x0, x1, x2, hle, Ins.cells, hxo.1, hxo.2, hrx, hA, hV, bs_length, take_bs, hr3]
          refine loop_once (sg_mono gX_ok (tabS_ok tblER_ok) _ _ noY noY_mono) (by omega) ?_
          simp (implicitDefEqProofs := false) [t0, t4, t5, hwr]
          refine round_plan [] [0, 3] [some (.ro (inss l)), some (.arr 5 (bs (encB (l.take (i + 1)))))] (m - 1) (by omega) ?_ ?_ ⟨i + 1, by omega, hall', ?_⟩ <;> simp [t0, t4, t5, hsuc, hb, bs_append, bs_single]
  · have hi' : ¬ (i : Int) < n := by omega
    have hil : l.take i = l.take n := by congr 1; omega
    have hok2 : encOk (l.take n) = true := by
      unfold encOk
      rw [List.all_eq_true]
      intro x hx
      obtain ⟨j, hj⟩ := List.getElem?_of_mem hx
      rw [List.getElem?_take] at hj
      split at hj
      · exact hall j x (by omega) hj
      · cases hj
    simp (implicitDefEqProofs := false) [t0, t4, t5, hi', hil]
    simp only [encR, encO, hok2]
    refine ends_plan [] [0, 1] ?_ ?_ ?_ <;> simp
end Yteegnbbblcokdaa
end Go.Proofs
/-
  DERIVED: THE SHELF's CONTRACTS AT THIS DUMP, IN PLAIN WORDS (tools/lay-plain.mjs out of 'TryShelf.lean', which tools/lay-shelf.mjs wrote): THE SAME DECLARATIONS UNDER THE SAME NAMES: 'import', 'namespace', 'open', 'def', 'theorem' AND NOTHING ELSE: no command of the shelf's: FOR A HAND-IN. Each laying: the table of numbers ('.._ren') and one theorem, a field a fact of the dump's own or the kernel's comparison; each contract: ONE APPLICATION.
-/
namespace Go.Proofs
open Go.Shelf
def Try.lays219_ren : Go.Shelf.Ren := ⟨fun | 219 => 40 | 217 => 42 | 225 => 43 | 224 => 44 | 267 => 45 | 266 => 46 | 314 => 47 | n => n, fun | 9 => 9 | 3 => 3 | 4 => 4 | 5 => 5 | 46 => 71 | 146 => 81 | 51 => 80 | n => n, fun | 1 => 1 | n => n⟩
theorem Try.lays219 : Go.Proofs.Lays.n219 Try.prog Try.lays219_ren := {
  mixed := by kernel_rfl
  f217 := Try.func42.trans (congrArg some (by kernel_rfl))
  f219 := Try.func40.trans (congrArg some (by kernel_rfl))
  f224 := Try.func44.trans (congrArg some (by kernel_rfl))
  f225 := Try.func43.trans (congrArg some (by kernel_rfl))
  f266 := Try.func46.trans (congrArg some (by kernel_rfl))
  f267 := Try.func45.trans (congrArg some (by kernel_rfl))
  f314 := Try.func47.trans (congrArg some (by kernel_rfl))
  t3 := Try.underlying3
  a3 := Try.isAgg3
  z3 := Try.sizeOf3
  v3 := Try.zeroValue3
  t4 := Try.underlying4
  a4 := Try.isAgg4
  z4 := Try.sizeOf4
  v4 := Try.zeroValue4
  t5 := Try.underlying5
  a5 := Try.isAgg5
  z5 := Try.sizeOf5
  v5 := Try.zeroValue5
  t9 := Try.underlying9
  a9 := Try.isAgg9
  z9 := Try.sizeOf9
  v9 := Try.zeroValue9
  t46 := Try.underlying71
  a46 := Try.isAgg71
  z46 := Try.sizeOf71
  v46 := Try.zeroValue71
  t51 := Try.underlying80
  a51 := Try.isAgg80
  z51 := Try.sizeOf80
  v51 := Try.zeroValue80
  t146 := Try.underlying81
  a146 := Try.isAgg81
  z146 := Try.sizeOf81
  v146 := Try.zeroValue81
  g1 := by kernel_rfl }
open Go.RowKit Go.Lib in
/-- internal/stringslite.Index (what strings.Index calls) AT A substr OF ONE BYTE c: IT RETURNS 'Lib.indexByte s c'; the world is as it was. (LAID: no walk: one application.) -/
theorem Try.stringslite_Index_one (s : ByteArray) (c : UInt8) (w : World) :
    Calls Try.prog 40 #[.string s, .string ⟨#[c]⟩] w fun e w' => e = .returned (.int .i64 (Lib.indexByte s.data.toList c)) ∧ w' = w := Any.stringslite_Index_one Try.lays219 s c w
end Go.Proofs
/-
  CODE: the reference's Encode as a contract; live.
-/
set_option linter.unusedSimpArgs false
set_option linter.unusedVariables false
set_option linter.unnecessarySimpa false
set_option linter.unusedSectionVars false
namespace Go.Proofs
namespace Yteegnbbblcokdaa
open Go.Abs
set_option linter.unusedSimpArgs false

theorem encodeR_ro {H : AH GD} {k tg : Nat} {l : List Ins} (hk : H.get k = some (.ro (inss l))) (hok : ∀ e ∈ l, e.Ok) {n : Nat} (hn : n ≤ l.length) (hl : n ≤ 1000) :
    Runs Try.prog cfg 21 [.slice (some ⟨k, 0, none⟩) n tg] H fun r H' => r = encR (l.take n) H.next ∧ H' = H.add (encO (l.take n)) :=
  (runs21 l tg hok n hn hl).atK (ro_same fun i cs hi => by rcases i with _ | _ | i <;> simp [encO] at hi ⊢; exact hi) [k] (by simp) (by simp) (by simp [hk]) (by simp) (by rw [renE_encR]; simp [sh]) (by
    have := ren_encO (sh 1 H.next [k]) (l.take n)
    unfold encO at this ⊢
    simp [upd_get hk, this])
theorem encodeR_arr {H : AH GD} {k tg : Nat} {e : TypeId} {l : List Ins} (hk : H.get k = some (.arr e (inss l))) (hkn : k < H.next) (hok : ∀ e ∈ l, e.Ok) {n : Nat} (hn : n ≤ l.length) (hl : n ≤ 1000) :
    Runs Try.prog cfg 21 [.slice (some ⟨k, 0, none⟩) n tg] H fun r H' => r = encR (l.take n) H.next ∧ H' = H.add (encO (l.take n)) := by
  refine Runs.borrow k hk ((encodeR_ro (H := H.upd k (.ro (inss l))) (by rw [AH.get_upd, if_pos rfl]) hok hn hl).mono ?_)
  rintro r H' ⟨h1, rfl⟩
  refine ⟨by rw [AH.get_add, AH.next_upd, if_neg (by omega), AH.get_upd, if_pos rfl], fun j cs2 hj hcs hne => ⟨cs2, ?_, hne⟩, by rw [h1, AH.next_upd], ?_⟩
  · rw [AH.get_add, AH.next_upd] at hcs
    split at hcs
    · unfold encO at hcs; cases hcs
    · rw [AH.get_upd, if_neg hj] at hcs; exact hcs
  · refine AH.ext' (by simp) fun j => ?_
    rw [AH.get_upd, AH.get_add, AH.get_add, AH.next_upd, AH.get_upd]
    by_cases h : j = k
    · subst h; rw [if_pos rfl, if_neg (by omega), hk]
    · rw [if_neg h, if_neg h]
def st21 : CStep GD := fun args H => match args with
  | [.slice (some ⟨k, 0, none⟩) n tg] => match H.get k with
    | some (.ro cs) => (asInss cs).map fun l => (n ≤ l.length ∧ (∀ e ∈ l, e.Ok) ∧ n ≤ 1000, encR (l.take n) H.next, H.add (encO (l.take n)))
    | some (.arr e cs) => (asInss cs).map fun l => (k < H.next ∧ n ≤ l.length ∧ (∀ e ∈ l, e.Ok) ∧ n ≤ 1000, encR (l.take n) H.next, H.add (encO (l.take n)))
    | _ => none
  | _ => none
theorem st21_ok : CStepOk Try.prog cfg 21 st21 := by
  intro args H p r H' h hp
  unfold st21 at h
  split at h
  case h_2 => cases h
  split at h
  · simp only [Option.map_eq_some_iff] at h
    obtain ⟨l, hl, h⟩ := h
    rename_i k n tg x cs hk
    cases h
    rw [asInss_inv hl] at hk
    obtain ⟨h1, h2, h3⟩ := hp
    exact encodeR_ro hk h2 h1 h3
  · simp only [Option.map_eq_some_iff] at h
    obtain ⟨l, hl, h⟩ := h
    rename_i k n tg x e cs hk
    cases h
    rw [asInss_inv hl] at hk
    obtain ⟨h0, h1, h2, h3⟩ := hp
    exact encodeR_arr hk h0 h2 h1 h3
  · cases h

/-! ### live -/
theorem index_in : ∀ args w, (callFunc 40 args).run Try.prog w = .ok (.enter 40 args) w := callable_of Try.func40 (by kernel_rfl) (by kernel_rfl)
def p40 : PStep
  | [.string s, .string ⟨⟨[c]⟩⟩] => some (True, .int .i64 (Lib.indexByte s.data.toList c))
  | _ => none
abbrev st40 := pureStep p40
theorem st40_ok : CStepOk Try.prog cfg 40 st40 := pure_ok fun args p v h hp => by
  unfold p40 at h
  split at h
  · cases h
    exact ⟨rfl, rfl, runs_still index_in rfl rfl (fun w => Try.stringslite_Index_one _ _ w) _⟩
  · cases h
theorem small17 : Runs Try.prog cfg 34 [.string ⟨#[49, 55]⟩] (AH.of []) fun r H' => r = .ret (.tuple #[.int .i64 17, .bool true]) ∧ H' = AH.of [] := by
  refine Runs.ends ?_
  refine runs_by (tbl := []) (by simp) 5 0 (af := a34) rfl ?_
  rw [a34, b34, run_eq]
  refine ⟨by simp, ?_⟩
  simp (implicitDefEqProofs := false)
  refine loop_inv (sg_mono gX_ok (tabS_ok (by simp)) _ _ noY noY_mono) (fun m tm H => tm 0 = .string ⟨#[49, 55]⟩ ∧ tm 8 = .pointer (some ⟨0, 0, none⟩) ∧ ((m = 2 ∧ tm 4 = .int .i64 0 ∧ H = AH.of [some (.siter ⟨#[49, 55]⟩ 0)]) ∨ (m = 1 ∧ tm 4 = .int .i64 1 ∧ H = AH.of [some (.siter ⟨#[49, 55]⟩ 1)]) ∨ (m = 0 ∧ tm 4 = .int .i64 17 ∧ H = AH.of [some (.siter ⟨#[49, 55]⟩ 2)]))) (m := 2) (by simp) (by omega) ?_
  have d0 : Utf8.decode ⟨#[49, 55]⟩ 0 = (49, 1) := by decide
  have d1 : Utf8.decode ⟨#[49, 55]⟩ 1 = (55, 1) := by decide
  have ds : (⟨#[49, 55]⟩ : ByteArray).size = 2 := rfl
  rintro m tm H ⟨t0, t8, ⟨rfl, t4, rfl⟩ | ⟨rfl, t4, rfl⟩ | ⟨rfl, t4, rfl⟩⟩
  · simp (implicitDefEqProofs := false) [t0, t8, t4, d0, ds, IntKind.wrap, IntKind.bits, IntKind.signed]
  · simp (implicitDefEqProofs := false) [t0, t8, t4, d1, ds, IntKind.wrap, IntKind.bits, IntKind.signed]
  · simp (implicitDefEqProofs := false) [t0, t8, t4, ds]
    refine ends_plan [] [] ?_ ?_ ?_ <;> simp
def p34 : PStep
  | [.string s] => if s = ⟨#[49, 55]⟩ then some (True, .tuple #[.int .i64 17, .bool true]) else none
  | _ => none
abbrev st34 := pureStep p34
theorem st34_ok : CStepOk Try.prog cfg 34 st34 := pure_ok fun args p v h hp => by
  unfold p34 at h
  split at h
  · split at h
    · rename_i hs
      cases h; subst hs; exact ⟨rfl, rfl, small17⟩
    · cases h
  · cases h
def tblJ : List (FuncId × CStep GD) := [(7, st7), (13, st13), (15, st15), (25, st25), (9, st9), (34, st34), (40, st40)]
theorem tblJ_ok : ∀ x ∈ tblJ, CStepOk Try.prog cfg x.1 x.2 := by simp [tblJ, st7_ok, st13_ok, st15_ok, st25_ok, st9_ok, st34_ok, st40_ok]
set_option maxHeartbeats 2000000 in
set_option maxRecDepth 100000 in
theorem runs8 : Runs Try.prog cfg 8 [] (AH.of []) fun r H' => r = .ret (.bool true) ∧ H' = AH.of [] := by
  refine Runs.ends ?_
  refine runs_by (tbl := tblJ) tblJ_ok 5 4 (af := a8) rfl ?_
  rw [a8, b8, run_eq]
  refine ⟨by simp, ?_⟩
  have e1 : encR [⟨4, 3, 0⟩] = fun k => .ret (.tuple #[.slice (some ⟨k, 0, none⟩) 2 1, .int .i64 0]) := rfl
  have e2 : encO [⟨4, 3, 0⟩] = .arr 5 [.int .u8 4, .int .u8 3] := rfl
  have e3 : asInss [.int .u8 4, .int .i64 3, .int .u64 0] = some [⟨4, 3, 0⟩] := rfl
  have e4 : Ins.Ok ⟨4, 3, 0⟩ := ⟨by decide, by decide⟩
  have e5 : Lib.indexByte [106, 117, 109, 112, 32, 49, 55] 32 = 4 := by decide
  have e6 : (⟨#[106, 117, 109, 112, 32, 49, 55]⟩ : ByteArray).size = 7 := rfl
  have e7 : (⟨#[106, 117, 109, 112, 32, 49, 55]⟩ : ByteArray).extract 0 4 = ⟨#[106, 117, 109, 112]⟩ := by decide
  have e8 : (⟨#[106, 117, 109, 112, 32, 49, 55]⟩ : ByteArray).extract 5 7 = ⟨#[49, 55]⟩ := by decide
  have e9 : (⟨#[32]⟩ : ByteArray).size = 1 := rfl
  have e10 : readW ⟨#[106, 117, 109, 112]⟩ = some 19 := by decide
  have e11 : IntKind.i64.wrap 5 = 5 := by decide
  have e14 : rightI ⟨19, 17, 0⟩ = true := by decide
  have e15 : popsO 7 = 2 := rfl
  have e16 : pushO 7 = 0 := rfl
  have e17 : bytesOf? [.int .u8 4, .int .u8 3] = some [4, 3] := rfl
  have e12 : usesA 19 = true := by decide
  have e13 : usesV 19 = false := by decide
  simp (implicitDefEqProofs := false) [tblJ, st7, e1, e2, e3, e4, e5, e6, e7, e8, e9, e10, e11, e12, e13, forms26, a26, b26, forms33, a33, b33, forms37, a37, b37, pureStep, p40, p15, p25, p34, p9, p13, e14, e15, e16, e17]
  refine ends_plan [] [] ?_ ?_ ?_ <;> simp
end Yteegnbbblcokdaa
end Go.Proofs
/-
  CODE: the laws of the bytes: unlike, joined.
-/
set_option linter.unusedSimpArgs false
set_option linter.unusedVariables false
set_option linter.unnecessarySimpa false
set_option linter.unusedSectionVars false
namespace Go.Proofs
namespace Yteegnbbblcokdaa
open Go.Abs
set_option linter.unusedSimpArgs false

def st8 : CStep GD := fun args H => match args with
  | [] => some (True, .ret (.bool true), H)
  | _ => none
theorem st8_ok : CStepOk Try.prog cfg 8 st8 := by
  intro args H p r H' h hp
  unfold st8 at h
  split at h
  case h_2 => cases h
  cases h
  exact runs8.atK (ro_none rfl) [] (by simp) (by simp) trivial (by simp) (by simp) (by simp)

theorem runs10 (k n tg : Nat) (H : AH GD) : Runs Try.prog cfg 10 [.slice (some ⟨k, 0, none⟩) n tg] H
    fun r H' => r = .ret (.slice (some ⟨k, 0, none⟩) (min n 60) tg) ∧ H' = H := by
  by_cases h : 60 < n
  · have h1 : (60 : Int) < n := by omega
    have h2 : (60 : Int) ≤ n := by omega
    have h3 : min n 60 = 60 := by omega
    refine runs_by (tbl := []) (by simp) 0 0 (af := a10) rfl ?_
    rw [a10, b10, run_eq]
    refine ⟨by simp, ?_⟩
    simp (implicitDefEqProofs := false) [h1, h2, h3]
  · have h1 : ¬ (60 : Int) < n := by omega
    have h3 : min n 60 = n := by omega
    refine runs_by (tbl := []) (by simp) 0 0 (af := a10) rfl ?_
    rw [a10, b10, run_eq]
    refine ⟨by simp, ?_⟩
    simp (implicitDefEqProofs := false) [h1, h3]
def st10 : CStep GD := fun args H => match args with
  | [.slice (some ⟨k, 0, none⟩) n tg] => some (True, .ret (.slice (some ⟨k, 0, none⟩) (min n 60) tg), H)
  | _ => none
theorem st10_ok : CStepOk Try.prog cfg 10 st10 := by
  intro args H p r H' h hp
  unfold st10 at h
  split at h
  case h_2 => cases h
  cases h
  exact runs10 _ _ _ H

theorem encR_ok {l : List Ins} (h : encOk l = true) (k : Nat) : encR l k = .ret (.tuple #[.slice (some ⟨k, 0, none⟩) (encB l).length 1, .int .i64 0]) := by rw [encR, if_pos h]
theorem encR_bad {l : List Ins} (h : encOk l = false) (k : Nat) : encR l k = .ret (.tuple #[.slice none 0 0, .int .i64 3]) := by rw [encR, if_neg (by rw [h]; decide)]
theorem encO_ok {l : List Ins} (h : encOk l = true) : encO l = .arr 5 (bs (encB l)) := by rw [encO, if_pos h]
theorem encO_bad {l : List Ins} (h : encOk l = false) : encO l = .arr 5 [] := by rw [encO, if_neg (by rw [h]; decide)]
theorem encOk_append (a b : List Ins) : encOk (a ++ b) = (encOk a && encOk b) := by simp [encOk]
theorem encB_append (a b : List Ins) : encB (a ++ b) = encB a ++ encB b := by simp [encB]
theorem inss_append (a b : List Ins) : inss (a ++ b) = inss a ++ inss b := by simp [inss]
theorem inss_take (l : List Ins) (n : Nat) : (inss l).take (n * 3) = inss (l.take n) := by
  induction n generalizing l with
  | zero => simp [inss]
  | succ n ih =>
    cases l with
    | nil => simp [inss]
    | cons e l =>
      rw [inss_cons, show (n + 1) * 3 = n * 3 + 3 by omega]
      simp only [List.take_succ_cons, ih]
      rfl
theorem asInss_app (a b : List Ins) : asInss (inss a ++ inss b) = some (a ++ b) := by rw [← inss_append, asInss_inss]
def u8L (l : List Int) : List UInt8 := l.map fun n => UInt8.ofNat n.toNat
theorem bytesOf_bs : ∀ l : List Int, bytesOf? (bs l) = some (u8L l)
  | [] => rfl
  | v :: l => by
    show (bytesOf? (bs l)).map (_ :: ·) = _
    rw [bytesOf_bs l]; rfl

theorem add_bytes (x y : List UInt8) (h : x.length + y.length ≤ 9223372036854775807) : abin .add (.string ⟨x.toArray⟩) (.string ⟨y.toArray⟩) = some (.string ⟨(x ++ y).toArray⟩) := by
  show (if (⟨x.toArray⟩ : ByteArray).size + (⟨y.toArray⟩ : ByteArray).size ≤ 9223372036854775807 then some (Value.string (⟨x.toArray⟩ ++ ⟨y.toArray⟩)) else none) = _
  have hs : (⟨x.toArray⟩ : ByteArray).size + (⟨y.toArray⟩ : ByteArray).size ≤ 9223372036854775807 := by
    show x.toArray.size + y.toArray.size ≤ _
    simpa using h
  rw [if_pos hs]
  congr 2
theorem u8L_append (a b : List Int) : u8L (a ++ b) = u8L a ++ u8L b := by simp [u8L]
theorem u8L_length (a : List Int) : (u8L a).length = a.length := by simp [u8L]
def tblQ : List (FuncId × CStep GD) := [(7, st7), (8, st8), (10, st10), (9, st9)]
theorem tblQ_ok : ∀ x ∈ tblQ, CStepOk Try.prog cfg x.1 x.2 := by simp [tblQ, st7_ok, st8_ok, st10_ok, st9_ok]
set_option maxHeartbeats 4000000 in
theorem runs4 (l m : List Ins) (tg tg2 : Nat) (hok : ∀ e ∈ l, e.Ok) (hok2 : ∀ e ∈ m, e.Ok) : Runs Try.prog cfg 4 [.slice (some ⟨0, 0, none⟩) l.length tg, .slice (some ⟨1, 0, none⟩) m.length tg2] (AH.of [some (.ro (inss l)), some (.ro (inss m))])
    fun r H' => r = .ret (.bool true) ∧ H' = AH.of [some (.ro (inss l)), some (.ro (inss m))] := by
  refine Runs.ends ?_
  obtain ⟨a, ha⟩ : ∃ a, min l.length 60 = a := ⟨_, rfl⟩
  obtain ⟨b, hb⟩ : ∃ b, min m.length 60 = b := ⟨_, rfl⟩
  have h1 : a ≤ l.length ∧ a ≤ 60 := by omega
  have h2 : b ≤ m.length ∧ b ≤ 60 := by omega
  have h3 : a ≤ 1000 ∧ b ≤ 1000 ∧ a + b ≤ 1000 := by omega
  obtain ⟨L, hL⟩ : ∃ L, l.take a = L := ⟨_, rfl⟩
  obtain ⟨M, hM⟩ : ∃ M, m.take b = M := ⟨_, rfl⟩
  have hLl : L.length = a := by rw [← hL, List.length_take]; omega
  have hMl : M.length = b := by rw [← hM, List.length_take]; omega
  have i1 : (inss l).take (a * 3) = inss L := by rw [inss_take, hL]
  have i2 : (inss m).take (b * 3) = inss M := by rw [inss_take, hM]
  have i3 : (inss L).take (a * 3) = inss L := by rw [inss_take, List.take_of_length_le (by omega)]
  have i4 : (L ++ M).take (a + b) = L ++ M := List.take_of_length_le (by simp; omega)
  have j1 : a * 3 ≤ (inss l).length ∧ b * 3 ≤ (inss m).length ∧ a * 3 ≤ (inss L).length := by rw [inss_length, inss_length, inss_length]; omega
  have j2 : a * 24 ≤ 140737488355328 ∧ a ≤ 9223372036854775807 := by omega
  have j3 : (a + b) * 24 ≤ 140737488355328 ∧ a + b ≤ 9223372036854775807 := by omega
  have okLM : ∀ e ∈ L ++ M, e.Ok := fun e he => by
    rcases List.mem_append.1 he with h | h
    · exact hok e (List.mem_of_mem_take (hL ▸ h))
    · exact hok2 e (List.mem_of_mem_take (hM ▸ h))
  have k1 : (encB L).length ≤ 600 := by have := encB_le L; omega
  have k2 : (encB M).length ≤ 600 := by have := encB_le M; omega
  have hadd : (u8L (encB L)).length + (u8L (encB M)).length ≤ 9223372036854775807 := by rw [u8L_length, u8L_length]; omega
  have hsum : abin .add (.string ⟨(u8L (encB L)).toArray⟩) (.string ⟨(u8L (encB M)).toArray⟩) = some (.string ⟨(u8L (encB (L ++ M))).toArray⟩) := by rw [add_bytes _ _ hadd, ← u8L_append, ← encB_append]
  cases hl : encOk L with
  | true =>
    cases hm : encOk M with
    | true =>
      have hlm : encOk (L ++ M) = true := by rw [encOk_append, hl, hm]; rfl
      refine runs_by (tbl := tblQ) tblQ_ok 0 0 (af := a4) rfl ?_
      rw [a4, b4, run_eq]
      refine ⟨by simp, ?_⟩
      simp (implicitDefEqProofs := false) [tblQ, st7, st8, st10, ha, hb, hL, hM, h1, h2, h3, i1, i2, i3, i4, j1, j2, j3, asInss_app, encR_ok hl, encR_ok hm, encR_ok hlm, encO_ok hl, encO_ok hm, encO_ok hlm, hLl, hMl, bs_length, take_bs, bytesOf_bs, hsum]
      refine ⟨hok, hok2, fun e he => okLM e (List.mem_append.2 he), ends_plan [] [0, 1] ?_ ?_ ?_⟩ <;> simp
    | false =>
      have hlm : encOk (L ++ M) = false := by rw [encOk_append, hm, Bool.and_false]
      refine runs_by (tbl := tblQ) tblQ_ok 0 0 (af := a4) rfl ?_
      rw [a4, b4, run_eq]
      refine ⟨by simp, ?_⟩
      simp (implicitDefEqProofs := false) [tblQ, st7, st8, st10, ha, hb, hL, hM, h1, h2, h3, i1, i2, i3, i4, j1, j2, j3, asInss_app, encR_ok hl, encR_bad hm, encR_bad hlm, encO_ok hl, encO_bad hm, encO_bad hlm, hLl, hMl, bs_length, take_bs, bytesOf_bs]
      refine ⟨hok, hok2, fun e he => okLM e (List.mem_append.2 he), ends_plan [] [0, 1] ?_ ?_ ?_⟩ <;> simp
  | false =>
    have hlm : encOk (L ++ M) = false := by rw [encOk_append, hl, Bool.false_and]
    cases hm : encOk M with
    | true =>
      refine runs_by (tbl := tblQ) tblQ_ok 0 0 (af := a4) rfl ?_
      rw [a4, b4, run_eq]
      refine ⟨by simp, ?_⟩
      simp (implicitDefEqProofs := false) [tblQ, st7, st8, st10, ha, hb, hL, hM, h1, h2, h3, i1, i2, i3, i4, j1, j2, j3, asInss_app, encR_bad hl, encR_ok hm, encR_bad hlm, encO_bad hl, encO_ok hm, encO_bad hlm, hLl, hMl, bs_length, take_bs, bytesOf_bs]
      refine ⟨hok, hok2, fun e he => okLM e (List.mem_append.2 he), ends_plan [] [0, 1] ?_ ?_ ?_⟩ <;> simp
    | false =>
      refine runs_by (tbl := tblQ) tblQ_ok 0 0 (af := a4) rfl ?_
      rw [a4, b4, run_eq]
      refine ⟨by simp, ?_⟩
      simp (implicitDefEqProofs := false) [tblQ, st7, st8, st10, ha, hb, hL, hM, h1, h2, h3, i1, i2, i3, i4, j1, j2, j3, asInss_app, encR_bad hl, encR_bad hm, encR_bad hlm, encO_bad hl, encO_bad hm, encO_bad hlm, hLl, hMl, bs_length, take_bs, bytesOf_bs]
      refine ⟨hok, hok2, fun e he => okLM e (List.mem_append.2 he), ends_plan [] [0, 1] ?_ ?_ ?_⟩ <;> simp
end Yteegnbbblcokdaa
end Go.Proofs
/-
  CODE: unlike right instructions have unlike bytes, and none's begin another's.
-/
set_option linter.unusedSimpArgs false
set_option linter.unusedVariables false
set_option linter.unnecessarySimpa false
set_option linter.unusedSectionVars false
namespace Go.Proofs
namespace Yteegnbbblcokdaa
open Go.Abs
set_option linter.unusedSimpArgs false

theorem be_inj {v w : Int} (hv : 0 ≤ v ∧ v < 18446744073709551616) (hw : 0 ≤ w ∧ w < 18446744073709551616) (h : ∀ k, k < 8 → be v k = be w k) : v = w := by
  have key : ∀ j, j ≤ 8 → dv v (8 - j) = dv w (8 - j) := by
    intro j
    induction j with
    | zero =>
      intro _
      have p : (256 : Int) ^ 8 = 18446744073709551616 := by decide
      unfold dv
      rw [p, Int.ediv_eq_zero_of_lt hv.1 hv.2, Int.ediv_eq_zero_of_lt hw.1 hw.2]
    | succ j ih =>
      intro hj
      have i := ih (by omega)
      have e1 := dv_succ v (8 - (j + 1))
      have e2 := dv_succ w (8 - (j + 1))
      have h8 : 8 - (j + 1) + 1 = 8 - j := by omega
      rw [h8] at e1 e2
      have b1 := dv_be v (k := j)
      have b2 := dv_be w (k := j)
      have h7 : 7 - j = 8 - (j + 1) := by omega
      rw [h7] at b1 b2
      have b3 := h j (by omega)
      omega
  have := key 8 (by omega)
  simpa [dv] using this
theorem be8_inj {v w : Int} (hv : 0 ≤ v ∧ v < 18446744073709551616) (hw : 0 ≤ w ∧ w < 18446744073709551616) (h : be8 v 8 = be8 w 8) : v = w := by
  refine be_inj hv hw fun k hk => ?_
  have h1 : (be8 v 8)[k]? = some (be v k) := by simp [be8, hk]
  have h2 : (be8 w 8)[k]? = some (be w k) := by simp [be8, hk]
  rw [h, h2] at h1
  exact (Option.some.inj h1).symm

theorem bytesI_byte {i : Ins} (hi : i.Ok) (hr : rightI i = true) : ∀ b ∈ bytesI i, 0 ≤ b ∧ b < 256 := by
  have ha := right_arg hr
  intro b hb
  unfold bytesI at hb
  simp only [List.mem_append, List.mem_singleton] at hb
  rcases hb with (rfl | hb) | hb
  · exact hi.1
  · split at hb
    · simp at hb; subst hb; omega
    · cases hb
  · split at hb
    · simp only [be8, List.mem_map, List.mem_range] at hb
      obtain ⟨k, _, rfl⟩ := hb
      unfold be; omega
    · cases hb
theorem u8_inj : ∀ {a b : List Int}, (∀ x ∈ a, 0 ≤ x ∧ x < 256) → (∀ x ∈ b, 0 ≤ x ∧ x < 256) → u8L a = u8L b → a = b
  | [], [], _, _, _ => rfl
  | [], y :: b, _, _, h => by simp [u8L] at h
  | x :: a, [], _, _, h => by simp [u8L] at h
  | x :: a, y :: b, ha, hb, h => by
    simp only [u8L, List.map_cons, List.cons.injEq] at h
    have hx := ha x List.mem_cons_self
    have hy := hb y List.mem_cons_self
    have e : x.toNat = y.toNat := by
      have := congrArg UInt8.toNat h.1
      simp [UInt8.toNat_ofNat'] at this
      omega
    have : x = y := by omega
    rw [this, u8_inj (fun z hz => ha z (List.mem_cons_of_mem _ hz)) (fun z hz => hb z (List.mem_cons_of_mem _ hz)) h.2]
/-- Whose bytes begin another one's is that one. -/
theorem begins_eq {i j : Ins} (hi : i.Ok) (hj : j.Ok) (ri : rightI i = true) (rj : rightI j = true) (h : (bytesI j).take (bytesI i).length = bytesI i) : i = j := by
  have ho : i.o = j.o := by
    have : ((bytesI j).take (bytesI i).length)[0]? = (bytesI i)[0]? := by rw [h]
    rw [List.getElem?_take] at this
    simp [bytesI] at this
    exact this.symm
  have hlen : (bytesI j).length = (bytesI i).length := by simp only [bytesI, ho]; split <;> split <;> simp [be8]
  rw [List.take_of_length_le (by omega)] at h
  have di := of_decide_eq_true ri
  have dj := of_decide_eq_true rj
  simp only [bytesI, ho, List.append_assoc, List.cons_append, List.nil_append, List.cons.injEq, true_and] at h
  have hav : i.a = j.a ∧ i.v = j.v := by
    by_cases hA : usesA j.o.toNat = true
    · by_cases hV : usesV j.o.toNat = true
      · exfalso
        have h1 : j.o.toNat = 1 := by simpa [usesV] using hV
        rw [h1] at hA; revert hA; decide
      · simp [hA, hV] at h
        rw [ho] at di
        exact ⟨h.symm, by have := di.2.2.1; have := dj.2.2.1; simp [hV] at *; omega⟩
    · by_cases hV : usesV j.o.toNat = true
      · simp [hA, hV] at h
        rw [ho] at di
        exact ⟨by have := di.2.1; have := dj.2.1; simp [hA] at *; omega, (be8_inj hj.2 hi.2 h).symm⟩
      · rw [ho] at di
        exact ⟨by have := di.2.1; have := dj.2.1; simp [hA] at *; omega, by have := di.2.2.1; have := dj.2.2.1; simp [hV] at *; omega⟩
  cases i; cases j
  simp_all
end Yteegnbbblcokdaa
end Go.Proofs
/-
  CODE: the law of the unlike.
-/
set_option linter.unusedSimpArgs false
set_option linter.unusedVariables false
set_option linter.unnecessarySimpa false
set_option linter.unusedSectionVars false
namespace Go.Proofs
namespace Yteegnbbblcokdaa
open Go.Abs
set_option linter.unusedSimpArgs false

theorem str_inj {a b : List UInt8} : ((⟨a.toArray⟩ : ByteArray) = ⟨b.toArray⟩) ↔ a = b := by
  constructor
  · intro h
    have h := congrArg ByteArray.data h
    simpa using h
  · intro h; rw [h]
theorem ins_eq (x y : Ins) : aeqF [(0, 1, false, .int), (1, 1, false, .int), (2, 1, false, .int)] [.int .u8 x.o, .int .i64 x.a, .int .u64 x.v] [.int .u8 y.o, .int .i64 y.a, .int .u64 y.v] = some (decide (x = y)) := by
  obtain ⟨a, b, c⟩ := x
  obtain ⟨a', b', c'⟩ := y
  have beq : ∀ x y : Int, (x == y) = decide (x = y) := fun x y => by by_cases h : x = y <;> simp [h]
  simp [aeqF, beq]
  by_cases h1 : a = a' <;> by_cases h2 : b = b' <;> by_cases h3 : c = c' <;> simp [h1, h2, h3]
theorem asInss_one (o a v : Int) : asInss [.int .u8 o, .int .i64 a, .int .u64 v] = some [⟨o, a, v⟩] := rfl
theorem encOk_one (i : Ins) : encOk [i] = rightI i := by simp [encOk]
theorem encB_one (i : Ins) : encB [i] = bytesI i := by simp [encB]
theorem bs_take (l : List Int) (n : Nat) : (bs l).take n = bs (l.take n) := by simp [bs, List.map_take]
set_option maxHeartbeats 4000000 in
theorem runs3 (i j : Ins) (hi : i.Ok) (hj : j.Ok) : Runs Try.prog cfg 3 [.agg #[.int .u8 i.o, .int .i64 i.a, .int .u64 i.v], .agg #[.int .u8 j.o, .int .i64 j.a, .int .u64 j.v]] (AH.of [])
    fun r H' => r = .ret (.bool true) ∧ H' = AH.of [] := by
  refine Runs.ends ?_
  have t1 : ∀ x : Ins, [x].take 1 = [x] := fun _ => rfl
  have o1 : ∀ e ∈ [i], e.Ok := by simpa using hi
  have o2 : ∀ e ∈ [j], e.Ok := by simpa using hj
  cases ri : rightI i with
  | false =>
    cases rj : rightI j with
    | false =>
      have ei := encR_bad (l := [i]) (by rw [encOk_one, ri])
      have ej := encR_bad (l := [j]) (by rw [encOk_one, rj])
      have fi := encO_bad (l := [i]) (by rw [encOk_one, ri])
      have fj := encO_bad (l := [j]) (by rw [encOk_one, rj])
      refine runs_by (tbl := tblQ) tblQ_ok 0 0 (af := a3) rfl ?_
      rw [a3, b3, run_eq]
      refine ⟨by simp, ?_⟩
      simp (implicitDefEqProofs := false) [tblQ, st7, st8, pureStep, p9, asInss_one, hi, hj, hi.1, hj.1, ei, ej, fi, fj, ri, rj, encB_one, bs_length, bytesOf_bs, bs_take, str_inj, ins_eq, aggOf2]
      refine ends_plan [] [] ?_ ?_ ?_ <;> simp
    | true =>
      have ei := encR_bad (l := [i]) (by rw [encOk_one, ri])
      have ej := encR_ok (l := [j]) (by rw [encOk_one, rj])
      have fi := encO_bad (l := [i]) (by rw [encOk_one, ri])
      have fj := encO_ok (l := [j]) (by rw [encOk_one, rj])
      refine runs_by (tbl := tblQ) tblQ_ok 0 0 (af := a3) rfl ?_
      rw [a3, b3, run_eq]
      refine ⟨by simp, ?_⟩
      simp (implicitDefEqProofs := false) [tblQ, st7, st8, pureStep, p9, asInss_one, hi, hj, hi.1, hj.1, ei, ej, fi, fj, ri, rj, encB_one, bs_length, bytesOf_bs, bs_take, str_inj, ins_eq, aggOf2]
      refine ends_plan [] [] ?_ ?_ ?_ <;> simp
  | true =>
    cases rj : rightI j with
    | false =>
      have ei := encR_ok (l := [i]) (by rw [encOk_one, ri])
      have ej := encR_bad (l := [j]) (by rw [encOk_one, rj])
      have fi := encO_ok (l := [i]) (by rw [encOk_one, ri])
      have fj := encO_bad (l := [j]) (by rw [encOk_one, rj])
      refine runs_by (tbl := tblQ) tblQ_ok 0 0 (af := a3) rfl ?_
      rw [a3, b3, run_eq]
      refine ⟨by simp, ?_⟩
      simp (implicitDefEqProofs := false) [tblQ, st7, st8, pureStep, p9, asInss_one, hi, hj, hi.1, hj.1, ei, ej, fi, fj, ri, rj, encB_one, bs_length, bytesOf_bs, bs_take, str_inj, ins_eq, aggOf2]
      refine ends_plan [] [] ?_ ?_ ?_ <;> simp
    | true =>
      by_cases e : i = j
      · subst e
        have ei := encR_ok (l := [i]) (by rw [encOk_one, ri])
        have ej := encR_ok (l := [i]) (by rw [encOk_one, rj])
        have fi := encO_ok (l := [i]) (by rw [encOk_one, ri])
        have fj := encO_ok (l := [i]) (by rw [encOk_one, rj])
        refine runs_by (tbl := tblQ) tblQ_ok 0 0 (af := a3) rfl ?_
        rw [a3, b3, run_eq]
        refine ⟨by simp, ?_⟩
        simp (implicitDefEqProofs := false) [tblQ, st7, st8, pureStep, p9, asInss_one, hi, hj, hi.1, hj.1, ei, ej, fi, fj, ri, rj, encB_one, bs_length, bytesOf_bs, bs_take, str_inj, ins_eq, aggOf2]
        refine ends_plan [] [] ?_ ?_ ?_ <;> simp
      · have bi := bytesI_byte hi ri
        have bj := bytesI_byte hj rj
        have s2 : ¬ u8L ((bytesI j).take (bytesI i).length) = u8L (bytesI i) := fun h => e (begins_eq hi hj ri rj (u8_inj (fun x hx => bj x (List.mem_of_mem_take hx)) bi h))
        have s1 : ¬ u8L (bytesI i) = u8L (bytesI j) := fun h => by
          have h2 := u8_inj bi bj h
          exact e (begins_eq hi hj ri rj (by rw [h2, List.take_length]))
        have s3 : ¬ (i.o = j.o ∧ i.a = j.a ∧ i.v = j.v) := fun h => e (by cases i; cases j; simp_all)
        by_cases hlen : (bytesI i).length ≤ (bytesI j).length
        · have hlen' : ((bytesI i).length : Int) ≤ (bytesI j).length := by omega
          have ei := encR_ok (l := [i]) (by rw [encOk_one, ri])
          have ej := encR_ok (l := [j]) (by rw [encOk_one, rj])
          have fi := encO_ok (l := [i]) (by rw [encOk_one, ri])
          have fj := encO_ok (l := [j]) (by rw [encOk_one, rj])
          refine runs_by (tbl := tblQ) tblQ_ok 0 0 (af := a3) rfl ?_
          rw [a3, b3, run_eq]
          refine ⟨by simp, ?_⟩
          simp (implicitDefEqProofs := false) [tblQ, st7, st8, pureStep, p9, asInss_one, hi, hj, hi.1, hj.1, ei, ej, fi, fj, ri, rj, encB_one, bs_length, bytesOf_bs, bs_take, str_inj, ins_eq, aggOf2, hlen, hlen', s1, s2, s3, e]
          refine ends_plan [] [] ?_ ?_ ?_ <;> simp
        · have hlen' : ¬ ((bytesI i).length : Int) ≤ (bytesI j).length := by omega
          have ei := encR_ok (l := [i]) (by rw [encOk_one, ri])
          have ej := encR_ok (l := [j]) (by rw [encOk_one, rj])
          have fi := encO_ok (l := [i]) (by rw [encOk_one, ri])
          have fj := encO_ok (l := [j]) (by rw [encOk_one, rj])
          refine runs_by (tbl := tblQ) tblQ_ok 0 0 (af := a3) rfl ?_
          rw [a3, b3, run_eq]
          refine ⟨by simp, ?_⟩
          simp (implicitDefEqProofs := false) [tblQ, st7, st8, pureStep, p9, asInss_one, hi, hj, hi.1, hj.1, ei, ej, fi, fj, ri, rj, encB_one, bs_length, bytesOf_bs, bs_take, str_inj, ins_eq, aggOf2, hlen, hlen', s1, s3, e]
          refine ends_plan [] [] ?_ ?_ ?_ <;> simp
end Yteegnbbblcokdaa
end Go.Proofs
/-
  What the arguments of the code's laws read as.
-/
set_option linter.unusedSimpArgs false
set_option linter.unusedVariables false
set_option linter.unnecessarySimpa false
set_option linter.unusedSectionVars false
namespace Go.Proofs
namespace Yteegnbbblcokdaa
open Go.Abs Go.ChangeShapes Go.WideShapes Go.ChangeAt Go.RowKit
set_option linter.unusedSimpArgs false
set_option linter.unusedVariables false
set_option maxRecDepth 100000

theorem cells26 : Try.prog.cellsOf 26 = 3 := by kernel_rfl
theorem cells5 : Try.prog.cellsOf 5 = 1 := by kernel_rfl
def ltypes : List TypeId := [34, 27, 26, 5, 22, 3, 24, 9]
theorem lclosed : closedB Try.prog ltypes = true := by kernel_rfl
section
variable {H : Type} {enc : TypeId × Value → H} {w : World}
theorem ins_cells {fuel : Nat} {cs : List Value} {y : DataW H × List MemPlace} (h : DataW.trod enc Try.prog w 0 (fun _ => true) true fuel 26 cs = some y) : ∃ e : Ins, cs = e.cells ∧ e.Ok := by
  obtain ⟨h1, h2⟩ := struct_cells Try.underlying26 (by kernel_rfl) h cells26
  obtain ⟨v0, n0, y0, g0, t0⟩ := h2 0 _ rfl
  obtain ⟨v1, n1, y1, g1, t1⟩ := h2 1 _ rfl
  obtain ⟨v2, n2, y2, g2, t2⟩ := h2 2 _ rfl
  obtain ⟨a, ha, _, hwa⟩ := DataW.trod_int Try.underlying22 t0
  obtain ⟨b, hb, _, _⟩ := DataW.trod_int Try.underlying3 t1
  obtain ⟨c, hc, _, hw⟩ := DataW.trod_int Try.underlying24 t2
  have h3 : cs.length = 3 := h1
  match cs, h3 with
  | [c0, c1, c2], _ =>
    simp only [List.getElem?_cons_zero, List.getElem?_cons_succ, Option.some.injEq] at g0 g1 g2
    cases g0; cases g1; cases g2
    cases ha; cases hb; cases hc
    exact ⟨⟨a, b, c⟩, rfl, wf_u8 hwa, wf_u64 hw⟩
theorem open_inss {r : Reach} {b0 : Nat} {v : Value} {d : DataW H} {ps : List MemPlace} (hok : Value.okWide Try.prog w r b0 34 v) (hd : DataW.Trod enc Try.prog w 0 (fun _ => true) true 34 v d ps) :
    ∃ l : List Ins, (∀ e ∈ l, e.Ok) ∧ l.length ≤ maxLen ∧ ArgRow w v l.length (inss l) :=
  open_rows (ea := Ins.cells) Try.underlying34 (by rw [cells26]; omega) (fun x => cells26.symm) (fun _ _ _ h => ins_cells h) hok hd
theorem open_ins {r : Reach} {b0 : Nat} {v : Value} {d : DataW H} {ps : List MemPlace} (hok : Value.okWide Try.prog w r b0 26 v) (hd : DataW.Trod enc Try.prog w 0 (fun _ => true) true 26 v d ps) : ∃ e : Ins, v = .agg #[.int .u8 e.o, .int .i64 e.a, .int .u64 e.v] ∧ e.Ok := by
  obtain ⟨cs, rfl, _⟩ := okWide_struct Try.underlying26 hok
  obtain ⟨fuel, hf⟩ := hd
  obtain ⟨e, h1, h2⟩ := ins_cells hf
  refine ⟨e, ?_, h2⟩
  have : cs.toList = e.cells := h1
  show Value.agg cs = .agg e.cells.toArray
  rw [← this]
theorem inss_one (l : List Ins) : (inss l).all (·.oneCell') = true := by
  induction l with
  | nil => rfl
  | cons e l ih => rw [inss_cons]; simpa [Value.oneCell'] using ih
end
end Yteegnbbblcokdaa
end Go.Proofs
/-
  What a text reads as.
-/
set_option linter.unusedSimpArgs false
set_option linter.unusedVariables false
set_option linter.unnecessarySimpa false
set_option linter.unusedSectionVars false
namespace Go.Proofs
namespace Yteegnbbblcokdaa
open Go.Abs Go.ChangeShapes Go.WideShapes Go.ChangeAt Go.RowKit
set_option linter.unusedSimpArgs false
set_option linter.unusedVariables false
set_option maxRecDepth 100000

section
variable {H : Type} {enc : TypeId × Value → H} {w : World}
theorem open_str {r : Reach} {b0 : Nat} {v : Value} {d : DataW H} {ps : List MemPlace} (hok : Value.okWide Try.prog w r b0 9 v) (hd : DataW.Trod enc Try.prog w 0 (fun _ => true) true 9 v d ps) : ∃ s : ByteArray, v = .string s ∧ True := by
  obtain ⟨s, rfl⟩ := okWide_string Try.underlying9 hok
  exact ⟨s, rfl, trivial⟩
end
end Yteegnbbblcokdaa
end Go.Proofs
/-
  CODE: what bytes say: one instruction.
-/
set_option linter.unusedSimpArgs false
set_option linter.unusedVariables false
set_option linter.unnecessarySimpa false
set_option linter.unusedSectionVars false
namespace Go.Proofs
namespace Yteegnbbblcokdaa
open Go.Abs
set_option linter.unusedSimpArgs false

def atB (B : List Int) (p : Nat) : Int := (B[p]?).getD 0
def valD (B : List Int) (q : Nat) : Nat → Int
  | 0 => 0
  | k + 1 => valD B q k * 256 + atB B (q + k)
/-- The instruction at a place, and the place behind it. -/
def stepD (B : List Int) (p : Nat) : Option (Ins × Nat) :=
  if usesA (atB B p).toNat then (if p + 1 < B.length then some (⟨atB B p, atB B (p + 1), 0⟩, p + 2) else none)
  else if usesV (atB B p).toNat then (if p + 9 ≤ B.length then some (⟨atB B p, 0, valD B (p + 1) 8⟩, p + 9) else none)
  else some (⟨atB B p, 0, 0⟩, p + 1)
def ByteL (B : List Int) : Prop := ∀ b ∈ B, 0 ≤ b ∧ b < 256
theorem atB_byte {B : List Int} (h : ByteL B) (p : Nat) : 0 ≤ atB B p ∧ atB B p < 256 := by
  unfold atB
  cases hx : B[p]? with
  | some v => exact h v (List.mem_of_getElem? hx)
  | none => simp
theorem valD_range {B : List Int} (h : ByteL B) (q : Nat) : ∀ k, 0 ≤ valD B q k ∧ valD B q k < 256 ^ k
  | 0 => by simp [valD]
  | k + 1 => by
    have ih := valD_range h q k
    have hb := atB_byte h (q + k)
    have hp : (256 : Int) ^ (k + 1) = 256 ^ k * 256 := Int.pow_succ _ _
    rw [valD, hp]
    omega
theorem bs_atB {B : List Int} {p : Nat} (h : p < B.length) : (bs B)[p]? = some (.int .u8 (atB B p)) := by
  have : B[p]? = some B[p] := List.getElem?_eq_getElem h
  simp [bs, atB, this]
def tblO : List (FuncId × CStep GD) := [(25, st25), (9, st9)]
theorem tblO_ok : ∀ x ∈ tblO, CStepOk Try.prog cfg x.1 x.2 := by simp [tblO, st25_ok, st9_ok]
def oneR (B : List Int) (p : Nat) (k : Nat) : AEnd := match stepD B p with
  | some (i, q) => .ret (.tuple #[.agg #[.int .u8 i.o, .int .i64 i.a, .int .u64 i.v], .slice (some ⟨k, q, none⟩) (B.length - q) 0, .bool (rightI i)])
  | none => .ret (.tuple #[.agg #[.int .u8 (atB B p), .int .i64 0, .int .u64 0], .slice none 0 0, .bool false])
theorem stepD_A {B : List Int} {p : Nat} (hA : usesA (atB B p).toNat = true) (h : p + 1 < B.length) : stepD B p = some (⟨atB B p, atB B (p + 1), 0⟩, p + 2) := by rw [stepD, if_pos hA, if_pos h]
theorem stepD_A0 {B : List Int} {p : Nat} (hA : usesA (atB B p).toNat = true) (h : ¬ p + 1 < B.length) : stepD B p = none := by rw [stepD, if_pos hA, if_neg h]
theorem stepD_V {B : List Int} {p : Nat} (hA : usesA (atB B p).toNat = false) (hV : usesV (atB B p).toNat = true) (h : p + 9 ≤ B.length) : stepD B p = some (⟨atB B p, 0, valD B (p + 1) 8⟩, p + 9) := by rw [stepD, if_neg (by rw [hA]; decide), if_pos hV, if_pos h]
theorem stepD_V0 {B : List Int} {p : Nat} (hA : usesA (atB B p).toNat = false) (hV : usesV (atB B p).toNat = true) (h : ¬ p + 9 ≤ B.length) : stepD B p = none := by rw [stepD, if_neg (by rw [hA]; decide), if_pos hV, if_neg h]
theorem stepD_N {B : List Int} {p : Nat} (hA : usesA (atB B p).toNat = false) (hV : usesV (atB B p).toNat = false) : stepD B p = some (⟨atB B p, 0, 0⟩, p + 1) := by rw [stepD, if_neg (by rw [hA]; decide), if_neg (by rw [hV]; decide)]
set_option maxHeartbeats 4000000 in
theorem runs32 (B C : List Int) (p n : Nat) (hB : ByteL B) (hn : 0 < n) (hpn : p + n = B.length) : Runs Try.prog cfg 32 [.slice (some ⟨0, p, none⟩) n 0] (AH.of [some (.ro (bs (B ++ C)))])
    fun r H' => r = oneR B p 0 ∧ H' = AH.of [some (.ro (bs (B ++ C)))] := by
  refine Runs.ends ?_
  have hp : p < B.length := by omega
  have hat : ∀ q, q < B.length → (bs (B ++ C))[q]? = some (.int .u8 (atB B q)) := fun q hq => by rw [bs_append, List.getElem?_append_left (by rw [bs_length]; exact hq), bs_atB hq]
  have hb := atB_byte hB p
  have hn1 : (1 : Int) ≤ n := by omega
  cases hA : usesA (atB B p).toNat with
  | true =>
    have hV : usesV (atB B p).toNat = false := by
      cases h : usesV (atB B p).toNat with
      | false => rfl
      | true =>
        have h1 : (atB B p).toNat = 1 := by simpa [usesV] using h
        rw [h1] at hA; revert hA; decide
    by_cases h2 : p + 1 < B.length
    · have hs := stepD_A hA h2
      have hn2 : ¬ n - 1 = 0 := by omega
      have hn3 : 0 < n - 1 := by omega
      have hn4 : (1 : Int) ≤ ((n - 1 : Nat) : Int) := by omega
      have hb2 := atB_byte hB (p + 1)
      have hw : IntKind.i64.wrap (atB B (p + 1)) = atB B (p + 1) := wrap_i64 (by omega) (by omega)
      have hq : n - 1 - 1 = B.length - (p + 2) := by omega
      refine runs_by (tbl := tblO) tblO_ok 10 0 (af := a32) rfl ?_
      rw [a32, b32, run_eq]
      refine ⟨by simp, ?_⟩
      simp (implicitDefEqProofs := false) [tblO, pureStep, p25, p9, hn, hn1, hn2, hn3, hn4, hat p hp, hat (p + 1) h2, hb, hA, hV, hw]
      simp only [oneR, hs]
      refine ends_plan [] [0] ?_ ?_ ?_ <;> simp [hq]
    · have hs := stepD_A0 hA h2
      have hn2 : n - 1 = 0 := by omega
      refine runs_by (tbl := tblO) tblO_ok 10 0 (af := a32) rfl ?_
      rw [a32, b32, run_eq]
      refine ⟨by simp, ?_⟩
      simp (implicitDefEqProofs := false) [tblO, pureStep, p25, p9, hn, hn1, hn2, hat p hp, hb, hA, hV]
      simp only [oneR, hs]
      refine ends_plan [] [0] ?_ ?_ ?_ <;> simp
  | false =>
    cases hV : usesV (atB B p).toNat with
    | true =>
      by_cases h9 : p + 9 ≤ B.length
      · have hs := stepD_V hA hV h9
        have hn2 : ¬ ((n - 1 : Nat) : Int) < 8 := by omega
        have hn3 : ¬ n - 1 < 8 := by omega
        have hn4 : (8 : Int) ≤ ((n - 1 : Nat) : Int) := by omega
        have hn5 : 8 ≤ n - 1 := by omega
        have hq : n - 1 - 8 = B.length - (p + 9) := by omega
        refine runs_by (tbl := tblO) tblO_ok 10 0 (af := a32) rfl ?_
        rw [a32, b32, run_eq]
        refine ⟨by simp, ?_⟩
        simp (implicitDefEqProofs := false) [tblO, pureStep, p25, p9, hn, hn1, hn2, hn3, hn4, hn5, hat p hp, hb, hA, hV]
        refine loop_inv (sg_mono gX_ok (tabS_ok tblO_ok) _ _ noY noY_mono) (fun m tm H => ∃ k : Nat, m + k = 8 ∧ tm 0 = .slice (some ⟨0, p + 1, none⟩) (n - 1) 0 ∧ tm 2 = .pointer (some ⟨1, 0, none⟩) ∧ tm 37 = .slice (some ⟨0, p + 1, none⟩) 8 0 ∧ tm 38 = .int .i64 8 ∧ tm 39 = .int .i64 k ∧
          H = AH.of [some (.ro (bs (B ++ C))), some (.arr 26 [.int .u8 (atB B p), .int .i64 0, .int .u64 (valD B (p + 1) k)]), some (.arr 51 [.string (wordO (atB B p).toNat), .bool false, .bool true, .int .i64 (popsO (atB B p).toNat), .int .i64 (pushO (atB B p).toNat)])]) (m := 8) ⟨0, by simp [valD]⟩ (by omega) ?_
        rintro m tm H ⟨k, hm, t0, t2, t37, t38, t39, rfl⟩
        by_cases hk : k < 8
        · have hk' : (k : Int) < 8 := by omega
          have hwk := inc_i64 hk (by omega)
          have hvr := valD_range hB (p + 1) k
          have hcb := atB_byte hB (p + 1 + k)
          have h7 : (256 : Int) ^ k ≤ 72057594037927936 := by
            have : ∀ j : Nat, j < 8 → (256 : Int) ^ j ≤ 72057594037927936 := by decide
            exact this k hk
          have hw1 : IntKind.u64.wrap (valD B (p + 1) k * 256) = valD B (p + 1) k * 256 := wrap_u64 (by omega) (by omega)
          have hw2 : IntKind.u64.wrap (atB B (p + 1 + k)) = atB B (p + 1 + k) := wrap_u64 (by omega) (by omega)
          have hor : bOr .u64 (valD B (p + 1) k * 256) (atB B (p + 1 + k)) = valD B (p + 1) (k + 1) := by
            have p8 : (2 : Int) ^ 8 = 256 := by decide
            have := bOr_low (a := valD B (p + 1) k) (b := atB B (p + 1 + k)) 8 hvr.1 hcb.1 (by rw [p8]; exact hcb.2) (by rw [p8]; omega)
            rw [p8] at this
            rw [this]; rfl
          simp (implicitDefEqProofs := false) [t0, t2, t37, t38, t39, hk, hk', hat (p + 1 + k) (by omega), IntKind.bits, hw1, hw2, hor, hwk]
          exact ⟨m - 1, by omega, k + 1, by omega, by omega, rfl⟩
        · have hke : k = 8 := by omega
          subst hke
          simp (implicitDefEqProofs := false) [tblO, pureStep, p9, t0, t2, t37, t38, t39, hn4, hn5, hb]
          simp only [oneR, hs]
          refine ends_plan [] [0] ?_ ?_ ?_ <;> simp [hq]
      · have hs := stepD_V0 hA hV h9
        have hn2 : ((n - 1 : Nat) : Int) < 8 := by omega
        have hn3 : n - 1 < 8 := by omega
        refine runs_by (tbl := tblO) tblO_ok 10 0 (af := a32) rfl ?_
        rw [a32, b32, run_eq]
        refine ⟨by simp, ?_⟩
        simp (implicitDefEqProofs := false) [tblO, pureStep, p25, p9, hn, hn1, hn2, hn3, hat p hp, hb, hA, hV]
        simp only [oneR, hs]
        refine ends_plan [] [0] ?_ ?_ ?_ <;> simp
    | false =>
      have hs := stepD_N hA hV
      have hq : n - 1 = B.length - (p + 1) := by omega
      refine runs_by (tbl := tblO) tblO_ok 10 0 (af := a32) rfl ?_
      rw [a32, b32, run_eq]
      refine ⟨by simp, ?_⟩
      simp (implicitDefEqProofs := false) [tblO, pureStep, p25, p9, hn, hn1, hat p hp, hb, hA, hV]
      simp only [oneR, hs]
      refine ends_plan [] [0] ?_ ?_ ?_ <;> simp [hq]
end Yteegnbbblcokdaa
end Go.Proofs
/-
  CODE: Decode.
-/
set_option linter.unusedSimpArgs false
set_option linter.unusedVariables false
set_option linter.unnecessarySimpa false
set_option linter.unusedSectionVars false
namespace Go.Proofs
namespace Yteegnbbblcokdaa
open Go.Abs
set_option linter.unusedSimpArgs false

def asBs : List Value → Option (List Int)
  | [] => some []
  | .int .u8 v :: l => (asBs l).map (v :: ·)
  | _ => none
theorem asBs_bs : ∀ h : List Int, asBs (bs h) = some h
  | [] => rfl
  | v :: h => by
    show (asBs (bs h)).map (v :: ·) = _
    rw [asBs_bs h]; rfl
theorem asBs_inv : ∀ {cs : List Value} {h : List Int}, asBs cs = some h → cs = bs h
  | cs, l, e => by
    unfold asBs at e
    split at e
    · cases e; rfl
    · simp only [Option.map_eq_some_iff] at e
      obtain ⟨l', e1, rfl⟩ := e
      rw [asBs_inv e1]; rfl
    · cases e
attribute [simp] asBs_bs
theorem renE_oneR (θ : Nat → Nat) (B : List Int) (p k : Nat) : renE θ (oneR B p k) = oneR B p (θ k) := by
  unfold oneR
  split
  · rw [renE_ret]; simp [ren]
  · rw [renE_ret]; simp [ren]
def st32 : CStep GD := fun args H => match args with
  | [.slice (some ⟨k, p, none⟩) n 0] => match H.get k with
    | some (.ro cs) => (asBs cs).map fun L => (ByteL L ∧ 0 < n ∧ p + n ≤ L.length, oneR (L.take (p + n)) p k, H)
    | _ => none
  | _ => none
theorem st32_ok : CStepOk Try.prog cfg 32 st32 := by
  intro args H p r H' h hp
  unfold st32 at h
  split at h
  case h_2 => cases h
  split at h
  case h_2 => cases h
  simp only [Option.map_eq_some_iff] at h
  obtain ⟨L, hL, h⟩ := h
  rename_i k q n x cs hk
  cases h
  rw [asBs_inv hL] at hk
  obtain ⟨h1, h2, h3⟩ := hp
  have e : bs L = bs (L.take (q + n) ++ L.drop (q + n)) := by rw [List.take_append_drop]
  have hk0 := hk
  rw [e] at hk
  exact (runs32 (L.take (q + n)) (L.drop (q + n)) q n (fun b hb => h1 b (List.mem_of_mem_take hb)) h2 (by rw [List.length_take]; omega)).atK (ro_same fun i cs hi => by rcases i with _ | i <;> simp at hi ⊢; exact hi) [k] (by simp) (by simp) (by simp [hk]) (by simp) (by rw [renE_oneR]; simp [sh]) (by simp [upd_get hk0])

/-! What bytes say. -/
def decF : Nat → List Int → Nat → List Ins → Option (List Ins)
  | 0, _, _, _ => none
  | f + 1, B, p, acc => if p < B.length then (match stepD B p with
    | some (i, q) => if rightI i then decF f B q (acc ++ [i]) else none
    | none => none) else some acc
def decB (B : List Int) : Option (List Ins) := decF (B.length + 1) B 0 []
theorem stepD_le {B : List Int} {p q : Nat} {i : Ins} (hp : p < B.length) (h : stepD B p = some (i, q)) : p < q ∧ q ≤ B.length := by
  unfold stepD at h
  split at h
  · split at h
    · cases h; omega
    · cases h
  · split at h
    · split at h
      · cases h; omega
      · cases h
    · cases h; omega
theorem decF_bad1 {f : Nat} {B : List Int} {p : Nat} {acc : List Ins} (hp : p < B.length) (h : stepD B p = none) : decF (f + 1) B p acc = none := by rw [decF, if_pos hp, h]
theorem decF_bad2 {f : Nat} {B : List Int} {p q : Nat} {i : Ins} {acc : List Ins} (hp : p < B.length) (h : stepD B p = some (i, q)) (hr : rightI i = false) : decF (f + 1) B p acc = none := by
  rw [decF, if_pos hp, h]
  simp [hr]
theorem decF_step {f : Nat} {B : List Int} {p q : Nat} {i : Ins} {acc : List Ins} (hp : p < B.length) (h : stepD B p = some (i, q)) (hr : rightI i = true) : decF (f + 1) B p acc = decF f B q (acc ++ [i]) := by
  rw [decF, if_pos hp, h]
  simp [hr]
theorem decF_end {f : Nat} {B : List Int} {p : Nat} {acc : List Ins} (hp : ¬ p < B.length) : decF (f + 1) B p acc = some acc := by rw [decF, if_neg hp]
def decR (D : Option (List Ins)) (k : Nat) : AEnd := match D with
  | some l => .ret (.tuple #[.slice (some ⟨k, 0, none⟩) l.length 1, .int .i64 0])
  | none => .ret (.tuple #[.slice none 0 0, .int .i64 3])
def decO (D : Option (List Ins)) : AObj GD := .arr 26 (match D with
  | some l => inss l
  | none => [])

theorem inss_single (i : Ins) : inss [i] = [.int .u8 i.o, .int .i64 i.a, .int .u64 i.v] := rfl
def tblDc : List (FuncId × CStep GD) := [(32, st32)]
theorem tblDc_ok : ∀ x ∈ tblDc, CStepOk Try.prog cfg x.1 x.2 := by simp [tblDc, st32_ok]
set_option maxHeartbeats 4000000 in
theorem runs22 (L : List Int) (N : Nat) (hL : ByteL L) (hN : N ≤ L.length) (h400 : N ≤ 1000) : Runs Try.prog cfg 22 [.slice (some ⟨0, 0, none⟩) N 0] (AH.of [some (.ro (bs L))])
    fun r H' => r = decR (decB (L.take N)) 1 ∧ H' = AH.of [some (.ro (bs L)), some (decO (decB (L.take N)))] := by
  refine Runs.ends ?_
  obtain ⟨B, hB⟩ : ∃ B, L.take N = B := ⟨_, rfl⟩
  have hBl : B.length = N := by rw [← hB, List.length_take]; omega
  rw [hB]
  obtain ⟨D, hD⟩ : ∃ D, decB B = D := ⟨_, rfl⟩
  rw [hD]
  refine runs_by (tbl := tblDc) tblDc_ok 1001 0 (af := a22) rfl ?_
  rw [a22, b22, run_eq]
  refine ⟨by simp, ?_⟩
  simp (implicitDefEqProofs := false)
  refine loop_view (sg_mono gX_ok (tabS_ok tblDc_ok) _ _ noY noY_mono) (fun m tm H => ∃ p : Nat, p ≤ N ∧ N ≤ m + p ∧ tm 0 = .slice (some ⟨0, p, none⟩) (N - p) 0 ∧ ∃ acc : List Ins, acc.length ≤ p ∧ decF (m + 1) B p acc = D ∧ tm 4 = .slice (some ⟨1, 0, none⟩) acc.length 1 ∧
    H = AH.of [some (.ro (bs L)), some (.arr 26 (inss acc))]) (m := N) ?_ (by omega) ?_
  · refine round_wk [.nil 26] [0, 1] [some (.ro (bs L)), some (.arr 26 (inss []))] [(4, .slice (some ⟨1, 0, none⟩) 0 1)] N (by omega) ?_ ?_ ?_ ⟨0, by omega, by omega, ?_, [], by simp, by rw [← hD, decB, hBl], ?_⟩ <;> simp [inss]
    done
  rintro m tm H ⟨p, hpN, hNm, t0, acc, hap, hdec, t4, rfl⟩
  by_cases hp : p < N
  · have hp' : p < B.length := by omega
    have hn0 : 0 < N - p := by omega
    have hn0' : (0 : Int) < ((N - p : Nat) : Int) := by omega
    have e1 : p + (N - p) = N := by omega
    have hla : acc.length * 3 ≤ (inss acc).length := by rw [inss_length]; omega
    have htk : (inss acc).take (acc.length * 3) = inss acc := by rw [inss_take, List.take_of_length_le (by omega)]
    have hr3 : (acc.length + 1) * 24 ≤ 140737488355328 ∧ acc.length ≤ 9223372036854775806 := by omega
    cases hs : stepD B p with
    | none =>
      have hone : oneR B p 0 = .ret (.tuple #[.agg #[.int .u8 (atB B p), .int .i64 0, .int .u64 0], .slice none 0 0, .bool false]) := by rw [oneR, hs]
      have hDn : D = none := by rw [← hdec]; exact decF_bad1 hp' hs
      simp (implicitDefEqProofs := false) [tblDc, st32, t0, t4, hn0, hn0', e1, hB, hN, hL, hone]
      simp only [decR, decO, hDn]
      refine ends_plan [.nil 26] [0, 3] ?_ ?_ ?_ <;> simp
    | some iq =>
      obtain ⟨i, q⟩ := iq
      have hone : oneR B p 0 = .ret (.tuple #[.agg #[.int .u8 i.o, .int .i64 i.a, .int .u64 i.v], .slice (some ⟨0, q, none⟩) (B.length - q) 0, .bool (rightI i)]) := by rw [oneR, hs]
      have hq := stepD_le hp' hs
      cases hr : rightI i with
      | false =>
        have hDn : D = none := by rw [← hdec]; exact decF_bad2 hp' hs hr
        simp (implicitDefEqProofs := false) [tblDc, st32, t0, t4, hn0, hn0', e1, hB, hN, hL, hone, hr]
        simp only [decR, decO, hDn]
        refine ends_plan [.nil 26] [0, 3] ?_ ?_ ?_ <;> simp
      | true =>
        have hm : ∃ m', m = m' + 1 := ⟨m - 1, by omega⟩
        obtain ⟨m', rfl⟩ := hm
        have hD2 : decF (m' + 1) B q (acc ++ [i]) = D := by rw [← hdec]; exact (decF_step hp' hs hr).symm
        simp (implicitDefEqProofs := false) [tblDc, st32, t0, t4, hn0, hn0', e1, hB, hN, hL, hone, hr, hla, htk, hr3]
        refine round_plan [] [0, 4] [some (.ro (bs L)), some (.arr 26 (inss (acc ++ [i])))] m' (by omega) ?_ ?_ ⟨q, by omega, by omega, ?_, acc ++ [i], by simp; omega, hD2, ?_⟩ <;> simp [t0, t4, hBl, inss_append, inss_single]
  · have hpe : p = N := by omega
    have hDs : D = some acc := by rw [← hdec]; exact decF_end (by omega)
    have hz : N - p = 0 := by omega
    simp (implicitDefEqProofs := false) [t0, t4, hz]
    simp only [decR, decO, hDs]
    refine ends_plan [] [0, 1] ?_ ?_ ?_ <;> simp
end Yteegnbbblcokdaa
end Go.Proofs
/-
  CODE: the reference's Decode.
-/
set_option linter.unusedSimpArgs false
set_option linter.unusedVariables false
set_option linter.unnecessarySimpa false
set_option linter.unusedSectionVars false
namespace Go.Proofs
namespace Yteegnbbblcokdaa
open Go.Abs
set_option linter.unusedSimpArgs false

def tblDr : List (FuncId × CStep GD) := [(12, st12), (18, st18)]
theorem tblDr_ok : ∀ x ∈ tblDr, CStepOk Try.prog cfg x.1 x.2 := by simp [tblDr, st12_ok, st18_ok]
set_option maxHeartbeats 8000000 in
theorem runs23 (L : List Int) (N : Nat) (hL : ByteL L) (hN : N ≤ L.length) (h400 : N ≤ 1000) : Runs Try.prog cfg 23 [.slice (some ⟨0, 0, none⟩) N 0] (AH.of [some (.ro (bs L))])
    fun r H' => r = decR (decB (L.take N)) 1 ∧ H' = AH.of [some (.ro (bs L)), some (decO (decB (L.take N)))] := by
  refine Runs.ends ?_
  obtain ⟨B, hB⟩ : ∃ B, L.take N = B := ⟨_, rfl⟩
  have hBl : B.length = N := by rw [← hB, List.length_take]; omega
  have hBb : ByteL B := fun b hb => hL b (List.mem_of_mem_take (hB ▸ hb))
  have hat : ∀ q, q < N → (bs L)[q]? = some (.int .u8 (atB B q)) := fun q hq => by
    have : (bs B)[q]? = some (.int .u8 (atB B q)) := bs_atB (by omega)
    rw [← this, ← hB]
    simp [bs, List.getElem?_take, hq]
  rw [hB]
  obtain ⟨D, hD⟩ : ∃ D, decB B = D := ⟨_, rfl⟩
  rw [hD]
  refine runs_by (tbl := tblDr) tblDr_ok 1001 0 (af := a23) rfl ?_
  rw [a23, b23, run_eq]
  refine ⟨by simp, ?_⟩
  simp (implicitDefEqProofs := false)
  refine loop_view (sg_mono gX_ok (tabS_ok tblDr_ok) _ _ noY noY_mono) (fun m tm H => ∃ p : Nat, p ≤ N ∧ N ≤ m + p ∧ tm 0 = .slice (some ⟨0, 0, none⟩) N 0 ∧ tm 5 = .int .i64 p ∧ ∃ acc : List Ins, acc.length ≤ p ∧ decF (m + 1) B p acc = D ∧ tm 4 = .slice (some ⟨1, 0, none⟩) acc.length 1 ∧
    H = AH.of [some (.ro (bs L)), some (.arr 26 (inss acc))]) (m := N) ?_ (by omega) ?_
  · refine round_wk [.nil 26] [0, 1] [some (.ro (bs L)), some (.arr 26 (inss []))] [(4, .slice (some ⟨1, 0, none⟩) 0 1)] N (by omega) ?_ ?_ ?_ ⟨0, by omega, by omega, ?_, ?_, [], by simp, by rw [← hD, decB, hBl], ?_⟩ <;> simp [inss]
    done
  rintro m tm H ⟨p, hpN, hNm, t0, t5, acc, hap, hdec, t4, rfl⟩
  by_cases hp : p < N
  · have hp' : p < B.length := by omega
    have hpi : (p : Int) < N := by omega
    obtain ⟨q, hq⟩ : ∃ q, q = p + 1 := ⟨_, rfl⟩
    have hwq : IntKind.i64.wrap ((p : Int) + 1) = (q : Int) := by rw [wrap_i64 (by omega) (by omega)]; omega
    have hla : acc.length * 3 ≤ (inss acc).length := by rw [inss_length]; omega
    have htk : (inss acc).take (acc.length * 3) = inss acc := by rw [inss_take, List.take_of_length_le (by omega)]
    have hr3 : (acc.length + 1) * 24 ≤ 140737488355328 ∧ acc.length ≤ 9223372036854775806 := by omega
    have hb := atB_byte hBb p
    have hnone : stepD B p = none → D = none := fun h => by rw [← hdec]; exact decF_bad1 hp' h
    have hbad : ∀ i r, stepD B p = some (i, r) → rightI i = false → D = none := fun i r h1 h2 => by rw [← hdec]; exact decF_bad2 hp' h1 h2
    have hgood : ∀ i r, stepD B p = some (i, r) → rightI i = true → decF m B r (acc ++ [i]) = D := fun i r h1 h2 => by rw [← hdec]; exact (decF_step hp' h1 h2).symm
    have hm : ∃ m', m = m' + 1 := ⟨m - 1, by omega⟩
    obtain ⟨m', rfl⟩ := hm
    cases hA : usesA (atB B p).toNat with
    | true =>
      have hV : usesV (atB B p).toNat = false := by
        cases h : usesV (atB B p).toNat with
        | false => rfl
        | true =>
          have h1 : (atB B p).toNat = 1 := by simpa [usesV] using h
          rw [h1] at hA; revert hA; decide
      by_cases h2 : p + 1 < N
      · have hs := stepD_A hA (show p + 1 < B.length by omega)
        rw [← hq] at hs
        have h2' : ¬ (N : Int) ≤ q := by omega
        have h2n : q < N := by omega
        have h2i : (q : Int) < N := by omega
        obtain ⟨q2, hq2⟩ : ∃ q2, q2 = q + 1 := ⟨_, rfl⟩
        have hwq2 : IntKind.i64.wrap ((q : Int) + 1) = (q2 : Int) := by rw [wrap_i64 (by omega) (by omega)]; omega
        have hb2 := atB_byte hBb q
        have hw : IntKind.i64.wrap (atB B q) = atB B q := wrap_i64 (by omega) (by omega)
        rw [show p + 2 = q2 by omega] at hs
        cases hr : rightI ⟨atB B p, atB B q, 0⟩ with
        | true =>
          have hg := hgood _ _ hs hr
          simp (implicitDefEqProofs := false) [tblDr, pureStep, p12, p18, t0, t4, t5, hp, hpi, hwq, hat p hp, hat q h2n, hb, hA, hV, h2', h2n, h2i, hwq2, hw, hr, hla, htk, hr3]
          refine round_plan [] [0, 4] [some (.ro (bs L)), some (.arr 26 (inss (acc ++ [⟨atB B p, atB B q, 0⟩])))] m' (by omega) ?_ ?_ ⟨q2, by omega, by omega, ?_, ?_, acc ++ [⟨atB B p, atB B q, 0⟩], by simp; omega, hg, ?_⟩ <;> simp [t0, t4, inss_append, inss_single]
        | false =>
          have hDn := hbad _ _ hs hr
          simp (implicitDefEqProofs := false) [tblDr, pureStep, p12, p18, t0, t4, t5, hp, hpi, hwq, hat p hp, hat q h2n, hb, hA, hV, h2', h2n, h2i, hwq2, hw, hr]
          simp only [decR, decO, hDn]
          refine ends_plan [.nil 26] [0, 3] ?_ ?_ ?_ <;> simp
      · have hDn := hnone (stepD_A0 hA (show ¬ p + 1 < B.length by omega))
        have h2' : (N : Int) ≤ q := by omega
        simp (implicitDefEqProofs := false) [tblDr, pureStep, p12, p18, t0, t4, t5, hp, hpi, hwq, hat p hp, hb, hA, hV, h2']
        simp only [decR, decO, hDn]
        refine ends_plan [.nil 26] [0, 3] ?_ ?_ ?_ <;> simp
    | false =>
      cases hV : usesV (atB B p).toNat with
      | true =>
        have hwd : IntKind.i64.wrap ((N : Int) - q) = (N : Int) - q := wrap_i64 (by omega) (by omega)
        by_cases h9 : p + 9 ≤ N
        · have hs := stepD_V hA hV (show p + 9 ≤ B.length by omega)
          rw [← hq] at hs
          have h9' : ¬ (N : Int) - q < 8 := by omega
          simp (implicitDefEqProofs := false) [tblDr, pureStep, p12, p18, t0, t4, t5, hp, hpi, hwq, hat p hp, hb, hA, hV, hwd, h9']
          refine loop_inv (sg_mono gX_ok (tabS_ok tblDr_ok) _ _ noY noY_mono) (fun m2 tm H => ∃ k : Nat, m2 + k = 8 ∧ tm 0 = .slice (some ⟨0, 0, none⟩) N 0 ∧ tm 4 = .slice (some ⟨1, 0, none⟩) acc.length 1 ∧ tm 5 = .int .i64 q ∧ tm 6 = .pointer (some ⟨2, 0, none⟩) ∧ tm 9 = .int .u64 (valD B q k) ∧ tm 10 = .int .i64 k ∧
            H = AH.of [some (.ro (bs L)), some (.arr 26 (inss acc)), some (.arr 26 [.int .u8 (atB B p), .int .i64 0, .int .u64 0])]) (m := 8) ⟨0, by simp [valD, t0, t4]⟩ (by omega) ?_
          rintro m2 tm2 H2 ⟨k, hm2, u0, u4, u5, u6, u9, u10, rfl⟩
          by_cases hk : k < 8
          · have hk' : (k : Int) < 8 := by omega
            have hwk := inc_i64 hk (by omega)
            have hvr := valD_range hBb q k
            have hcb := atB_byte hBb (q + k)
            have h7 : (256 : Int) ^ k ≤ 72057594037927936 := by
              have : ∀ j : Nat, j < 8 → (256 : Int) ^ j ≤ 72057594037927936 := by decide
              exact this k hk
            obtain ⟨qk, hqk⟩ : ∃ qk, qk = q + k := ⟨_, rfl⟩
            rw [← hqk] at hcb
            have hwqk : IntKind.i64.wrap ((q : Int) + k) = (qk : Int) := by rw [wrap_i64 (by omega) (by omega)]; omega
            have hqkN : qk < N := by omega
            have hqkI : (qk : Int) < N := by omega
            have hw1 : IntKind.u64.wrap (valD B q k * 256) = valD B q k * 256 := wrap_u64 (by omega) (by omega)
            have hw2 : IntKind.u64.wrap (atB B qk) = atB B qk := wrap_u64 (by omega) (by omega)
            have hsum : valD B q k * 256 + atB B qk = valD B q (k + 1) := by rw [hqk, valD]
            have hvr2 := valD_range hBb q (k + 1)
            have h72 : (256 : Int) ^ (k + 1) ≤ 18446744073709551616 := by
              have : ∀ j : Nat, j < 8 → (256 : Int) ^ (j + 1) ≤ 18446744073709551616 := by decide
              exact this k hk
            have hw3 : IntKind.u64.wrap (valD B q (k + 1)) = valD B q (k + 1) := wrap_u64 hvr2.1 (by omega)
            simp (implicitDefEqProofs := false) [u0, u4, u5, u6, u9, u10, hk, hk', hwqk, hqkN, hqkI, hat qk hqkN, hw1, hw2, hsum, hw3, hwk]
            exact ⟨m2 - 1, by omega, k + 1, by omega, by omega, rfl⟩
          · have hke : k = 8 := by omega
            subst hke
            obtain ⟨q2, hq2⟩ : ∃ q2, q2 = q + 8 := ⟨_, rfl⟩
            have hwq2 : IntKind.i64.wrap ((q : Int) + 8) = (q2 : Int) := by rw [wrap_i64 (by omega) (by omega)]; omega
            rw [show p + 9 = q2 by omega] at hs
            have hvr8 := valD_range hBb q 8
            have hv8 : 0 ≤ valD B q 8 ∧ valD B q 8 < 18446744073709551616 := by
              have : (256 : Int) ^ 8 = 18446744073709551616 := by decide
              omega
            cases hr : rightI ⟨atB B p, 0, valD B q 8⟩ with
            | true =>
              have hg := hgood _ _ hs hr
              simp (implicitDefEqProofs := false) [tblDr, pureStep, p18, u0, u4, u5, u6, u9, u10, hwq2, hb, hv8, hr, hla, htk, hr3]
              refine round_plan [] [0, 4] [some (.ro (bs L)), some (.arr 26 (inss (acc ++ [⟨atB B p, 0, valD B q 8⟩])))] m' (by omega) ?_ ?_ ⟨q2, by omega, by omega, ?_, ?_, acc ++ [⟨atB B p, 0, valD B q 8⟩], by simp; omega, hg, ?_⟩ <;> simp [u0, u4, inss_append, inss_single]
            | false =>
              have hDn := hbad _ _ hs hr
              simp (implicitDefEqProofs := false) [tblDr, pureStep, p18, u0, u4, u5, u6, u9, u10, hwq2, hb, hv8, hr]
              simp only [decR, decO, hDn]
              refine ends_plan [.nil 26] [0, 3] ?_ ?_ ?_ <;> simp
        · have hDn := hnone (stepD_V0 hA hV (show ¬ p + 9 ≤ B.length by omega))
          have h9' : (N : Int) - q < 8 := by omega
          simp (implicitDefEqProofs := false) [tblDr, pureStep, p12, p18, t0, t4, t5, hp, hpi, hwq, hat p hp, hb, hA, hV, hwd, h9']
          simp only [decR, decO, hDn]
          refine ends_plan [.nil 26] [0, 3] ?_ ?_ ?_ <;> simp
      | false =>
        have hs := stepD_N hA hV
        rw [← hq] at hs
        cases hr : rightI ⟨atB B p, 0, 0⟩ with
        | true =>
          have hg := hgood _ _ hs hr
          simp (implicitDefEqProofs := false) [tblDr, pureStep, p12, p18, t0, t4, t5, hp, hpi, hwq, hat p hp, hb, hA, hV, hr, hla, htk, hr3]
          refine round_plan [] [0, 4] [some (.ro (bs L)), some (.arr 26 (inss (acc ++ [⟨atB B p, 0, 0⟩])))] m' (by omega) ?_ ?_ ⟨q, by omega, by omega, ?_, ?_, acc ++ [⟨atB B p, 0, 0⟩], by simp; omega, hg, ?_⟩ <;> simp [t0, t4, inss_append, inss_single]
        | false =>
          have hDn := hbad _ _ hs hr
          simp (implicitDefEqProofs := false) [tblDr, pureStep, p12, p18, t0, t4, t5, hp, hpi, hwq, hat p hp, hb, hA, hV, hr]
          simp only [decR, decO, hDn]
          refine ends_plan [.nil 26] [0, 3] ?_ ?_ ?_ <;> simp
  · have hpe : p = N := by omega
    have hDs : D = some acc := by rw [← hdec]; exact decF_end (by omega)
    have hpi : ¬ (p : Int) < N := by omega
    simp (implicitDefEqProofs := false) [t0, t4, t5, hpi]
    simp only [decR, decO, hDs]
    refine ends_plan [] [0, 1] ?_ ?_ ?_ <;> simp
end Yteegnbbblcokdaa
end Go.Proofs
/-
  CODE: the law of the forms.
-/
set_option linter.unusedSimpArgs false
set_option linter.unusedVariables false
set_option linter.unnecessarySimpa false
set_option linter.unusedSectionVars false
namespace Go.Proofs
namespace Yteegnbbblcokdaa
open Go.Abs
set_option linter.unusedSimpArgs false

def shortS (s : ByteArray) : ByteArray := if 200 < s.size then s.extract 0 200 else s
def p16 : PStep
  | [.string s] => some (True, .string (shortS s))
  | _ => none
abbrev st16 := pureStep p16
theorem st16_ok : CStepOk Try.prog cfg 16 st16 := pure_ok fun args p v h hp => by
  unfold p16 at h
  split at h
  case h_2 => cases h
  rename_i s
  cases h
  refine ⟨rfl, rfl, ?_⟩
  refine Runs.ends ?_
  by_cases hs : 200 < s.size
  · have h1 : (200 : Int) < s.size := by omega
    have h2 : (200 : Int) ≤ s.size := by omega
    refine runs_by (tbl := []) (by simp) 0 0 (af := a16) rfl ?_
    rw [a16, b16, run_eq]
    refine ⟨by simp, ?_⟩
    simp (implicitDefEqProofs := false) [h1, h2]
    refine ends_plan [] [] ?_ ?_ ?_ <;> simp [shortS, hs]
  · have h1 : ¬ (200 : Int) < s.size := by omega
    refine runs_by (tbl := []) (by simp) 0 0 (af := a16) rfl ?_
    rw [a16, b16, run_eq]
    refine ⟨by simp, ?_⟩
    simp (implicitDefEqProofs := false) [h1]
    refine ends_plan [] [] ?_ ?_ ?_ <;> simp [shortS, hs]

def tblF : List (FuncId × CStep GD) := [(8, st8), (16, st16), (11, st11), (12, st12), (13, st13), (14, st14), (15, st15), (17, st17), (9, st9), (18, st18), (19, st19), (20, st20)]
theorem tblF_ok : ∀ x ∈ tblF, CStepOk Try.prog cfg x.1 x.2 := by simp [tblF, st8_ok, st16_ok, st11_ok, st12_ok, st13_ok, st14_ok, st15_ok, st17_ok, st9_ok, st18_ok, st19_ok, st20_ok]
set_option maxHeartbeats 4000000 in
set_option maxRecDepth 100000 in
theorem runs5 (i : Ins) (s : ByteArray) (hi : i.Ok) : Runs Try.prog cfg 5 [.agg #[.int .u8 i.o, .int .i64 i.a, .int .u64 i.v], .string s] (AH.of [])
    fun r H' => r = .ret (.bool true) ∧ H' = AH.of [] := by
  refine Runs.ends ?_
  refine runs_by (tbl := tblF) tblF_ok 0 0 (af := a5) rfl ?_
  rw [a5, b5, run_eq]
  refine ⟨by simp, ?_⟩
  simp (implicitDefEqProofs := false) [tblF, st8, pureStep, p16, p11, p12, p13, p14, p15, p17, p9, p18, p19, p20, hi.1, hi.2]
  refine ends_plan [] [] ?_ ?_ ?_ <;> simp
end Yteegnbbblcokdaa
end Go.Proofs
/-
  CODE: Decode of both as contracts; Same; the law of the bytes.
-/
set_option linter.unusedSimpArgs false
set_option linter.unusedVariables false
set_option linter.unnecessarySimpa false
set_option linter.unusedSectionVars false
namespace Go.Proofs
namespace Yteegnbbblcokdaa
open Go.Abs
set_option linter.unusedSimpArgs false

theorem inss_gr (l : List Ins) : grounds (inss l) = true := by
  induction l with
  | nil => rfl
  | cons e l ih => rw [inss_cons]; simpa [grounds, ground] using ih
theorem ren_decO (θ : Nat → Nat) (D : Option (List Ins)) : (decO D).ren θ = decO D := by
  unfold decO
  cases D with
  | none => rfl
  | some l => exact congrArg (AObj.arr _) (rens_ground θ _ (inss_gr l))
theorem renE_decR (θ : Nat → Nat) (D : Option (List Ins)) (k : Nat) : renE θ (decR D k) = decR D (θ k) := by
  unfold decR
  split
  · rw [renE_ret]; simp [ren]
  · rw [renE_ret]; simp [ren]
/-- What two functions of bytes have in common. -/
theorem dec_ro {f : FuncId} (hf : ∀ (L : List Int) (N : Nat), ByteL L → N ≤ L.length → N ≤ 1000 → Runs Try.prog cfg f [.slice (some ⟨0, 0, none⟩) N 0] (AH.of [some (.ro (bs L))])
    fun r H' => r = decR (decB (L.take N)) 1 ∧ H' = AH.of [some (.ro (bs L)), some (decO (decB (L.take N)))]) {H : AH GD} {k : Nat} {L : List Int} (hk : H.get k = some (.ro (bs L))) (hok : ByteL L) {n : Nat} (hn : n ≤ L.length) (hl : n ≤ 1000) :
    Runs Try.prog cfg f [.slice (some ⟨k, 0, none⟩) n 0] H fun r H' => r = decR (decB (L.take n)) H.next ∧ H' = H.add (decO (decB (L.take n))) :=
  (hf L n hok hn hl).atK (ro_same fun i cs hi => by rcases i with _ | _ | i <;> simp [decO] at hi ⊢; exact hi) [k] (by simp) (by simp) (by simp [hk]) (by simp) (by rw [renE_decR]; simp [sh]) (by
    have := ren_decO (sh 1 H.next [k]) (decB (L.take n))
    unfold decO at this ⊢
    simp [upd_get hk, this])
theorem dec_weak {f : FuncId} {H : AH GD} {k n tg : Nat} {Q : AEnd → AH GD → Prop} (h : Runs Try.prog cfg f [.slice (some ⟨k, 0, none⟩) n 0] H Q) : Runs Try.prog cfg f [.slice (some ⟨k, 0, none⟩) n tg] H Q := by
  refine ⟨h.1, fun ρ own w args' hr hv => h.2 ρ own w args' hr ?_⟩
  obtain ⟨l⟩ := args'
  simp only at hv ⊢
  cases hv with
  | cons _ v' _ _ h1 h2 =>
    refine .cons _ _ _ _ ?_ h2
    cases h1 with
    | slice _ _ o' _ _ cc l a b c d e => exact .slice _ _ _ _ _ _ _ a b c (fun h => by cases h) (fun m hm => by omega)
    | slicen _ _ a cc b c => exact .slicen _ _ _ _ (by omega) (fun h => c (h.elim (fun h => absurd h (by omega)) .inr))
theorem dec_arr {f : FuncId} (hf : ∀ (L : List Int) (N : Nat), ByteL L → N ≤ L.length → N ≤ 1000 → Runs Try.prog cfg f [.slice (some ⟨0, 0, none⟩) N 0] (AH.of [some (.ro (bs L))])
    fun r H' => r = decR (decB (L.take N)) 1 ∧ H' = AH.of [some (.ro (bs L)), some (decO (decB (L.take N)))]) {H : AH GD} {k : Nat} {e : TypeId} {L : List Int} (hk : H.get k = some (.arr e (bs L))) (hkn : k < H.next) (hok : ByteL L) {n : Nat} (hn : n ≤ L.length) (hl : n ≤ 1000) :
    Runs Try.prog cfg f [.slice (some ⟨k, 0, none⟩) n 0] H fun r H' => r = decR (decB (L.take n)) H.next ∧ H' = H.add (decO (decB (L.take n))) := by
  refine Runs.borrow k hk ((dec_ro hf (H := H.upd k (.ro (bs L))) (by rw [AH.get_upd, if_pos rfl]) hok hn hl).mono ?_)
  rintro r H' ⟨h1, rfl⟩
  refine ⟨by rw [AH.get_add, AH.next_upd, if_neg (by omega), AH.get_upd, if_pos rfl], fun j cs2 hj hcs hne => ⟨cs2, ?_, hne⟩, by rw [h1, AH.next_upd], ?_⟩
  · rw [AH.get_add, AH.next_upd] at hcs
    split at hcs
    · unfold decO at hcs; cases hcs
    · rw [AH.get_upd, if_neg hj] at hcs; exact hcs
  · refine AH.ext' (by simp) fun j => ?_
    rw [AH.get_upd, AH.get_add, AH.get_add, AH.next_upd, AH.get_upd]
    by_cases h : j = k
    · subst h; rw [if_pos rfl, if_neg (by omega), hk]
    · rw [if_neg h, if_neg h]
def decSt : CStep GD := fun args H => match args with
  | [.slice (some ⟨k, 0, none⟩) n _] => match H.get k with
    | some (.ro cs) => (asBs cs).map fun l => (n ≤ l.length ∧ ByteL l ∧ n ≤ 1000, decR (decB (l.take n)) H.next, H.add (decO (decB (l.take n))))
    | some (.arr e cs) => (asBs cs).map fun l => (k < H.next ∧ n ≤ l.length ∧ ByteL l ∧ n ≤ 1000, decR (decB (l.take n)) H.next, H.add (decO (decB (l.take n))))
    | _ => none
  | _ => none
theorem decSt_ok {f : FuncId} (hf : ∀ (L : List Int) (N : Nat), ByteL L → N ≤ L.length → N ≤ 1000 → Runs Try.prog cfg f [.slice (some ⟨0, 0, none⟩) N 0] (AH.of [some (.ro (bs L))])
    fun r H' => r = decR (decB (L.take N)) 1 ∧ H' = AH.of [some (.ro (bs L)), some (decO (decB (L.take N)))]) : CStepOk Try.prog cfg f decSt := by
  intro args H p r H' h hp
  unfold decSt at h
  split at h
  case h_2 => cases h
  split at h
  · simp only [Option.map_eq_some_iff] at h
    obtain ⟨l, hl, h⟩ := h
    rename_i hk
    cases h
    rw [asBs_inv hl] at hk
    obtain ⟨h1, h2, h3⟩ := hp
    exact dec_weak (dec_ro hf hk h2 h1 h3)
  · simp only [Option.map_eq_some_iff] at h
    obtain ⟨l, hl, h⟩ := h
    rename_i hk
    cases h
    rw [asBs_inv hl] at hk
    obtain ⟨h0, h1, h2, h3⟩ := hp
    exact dec_weak (dec_arr hf hk h0 h2 h1 h3)
  · cases h
theorem dec_code : CStepOk Try.prog cfg 22 decSt := decSt_ok runs22
theorem dec_r14 : CStepOk Try.prog cfg 23 decSt := decSt_ok runs23

/-! Same -/
theorem aeq_ins (o o' a a' v v' : Int) : aeqF [(0, 1, false, .int), (1, 1, false, .int), (2, 1, false, .int)] [.int .u8 o, .int .i64 a, .int .u64 v] [.int .u8 o', .int .i64 a', .int .u64 v'] = some (decide ((⟨o, a, v⟩ : Ins) = ⟨o', a', v'⟩)) := by
  have beq : ∀ a b : Int, (a == b) = decide (a = b) := fun a b => by by_cases h : a = b <;> simp [h]
  by_cases h1 : o = o' <;> by_cases h2 : a = a' <;> by_cases h3 : v = v' <;> simp [aeq, aeqF, aggOf2, partOf, eqInt, beq, h1, h2, h3]
set_option maxHeartbeats 4000000 in
theorem runs24 (a b : List Ins) (n m ta tb : Nat) (hn : n ≤ a.length) (hm : m ≤ b.length) (hl : n ≤ 1000) : Runs Try.prog cfg 24 [.slice (some ⟨0, 0, none⟩) n ta, .slice (some ⟨1, 0, none⟩) m tb] (AH.of [some (.ro (inss a)), some (.ro (inss b))])
    fun r H' => r = .ret (.bool (decide (a.take n = b.take m))) ∧ H' = AH.of [some (.ro (inss a)), some (.ro (inss b))] := by
  refine Runs.ends ?_
  by_cases hnm : n = m
  · subst hnm
    refine runs_by (tbl := []) (by simp) 1001 0 (af := a24) rfl ?_
    rw [a24, b24, run_eq]
    refine ⟨by simp, ?_⟩
    simp (implicitDefEqProofs := false)
    refine loop_inv (sg_mono gX_ok (tabS_ok (by simp)) _ _ noY noY_mono) (fun mm tm H => ∃ i : Nat, mm + i = n ∧ a.take i = b.take i ∧ tm 0 = .slice (some ⟨0, 0, none⟩) n ta ∧ tm 1 = .slice (some ⟨1, 0, none⟩) n tb ∧ tm 5 = .int .i64 i ∧ H = AH.of [some (.ro (inss a)), some (.ro (inss b))]) (m := n) ⟨0, by simp⟩ (by omega) ?_
    rintro mm tm H ⟨i, hmm, hpre, t0, t1, t5, rfl⟩
    by_cases hi : i < n
    · obtain ⟨x, hx⟩ : ∃ x, a[i]? = some x := ⟨a[i]'(by omega), List.getElem?_eq_getElem (by omega)⟩
      obtain ⟨y, hy⟩ : ∃ y, b[i]? = some y := ⟨b[i]'(by omega), List.getElem?_eq_getElem (by omega)⟩
      have hi' : (i : Int) < n := by omega
      have hwr := inc_i64 hi (by omega)
      have rx := many_inss hx
      have ry := many_inss hy
      have lx : i * 3 + 3 ≤ (inss a).length := by rw [inss_length]; omega
      have ly : i * 3 + 3 ≤ (inss b).length := by rw [inss_length]; omega
      by_cases hxy : x = y
      · subst hxy
        have hpre2 : a.take (i + 1) = b.take (i + 1) := by rw [List.take_add_one, List.take_add_one, hpre, hx, hy]
        simp (implicitDefEqProofs := false) [t0, t1, t5, hi, hi', rx, ry, lx, ly, Ins.cells, aeq_ins, aggOf2, hwr]
        exact ⟨mm - 1, by omega, i + 1, by omega, hpre2, by omega⟩
      · have hne : a.take n ≠ b.take n := fun e => hxy (by
          have e1 : (a.take n)[i]? = some x := by rw [List.getElem?_take, if_pos hi]; exact hx
          rw [e, List.getElem?_take, if_pos hi, hy] at e1
          exact (Option.some.inj e1).symm)
        have hxy2 : ¬ ((⟨x.o, x.a, x.v⟩ : Ins) = ⟨y.o, y.a, y.v⟩) := fun h => hxy h
        simp (implicitDefEqProofs := false) [t0, t1, t5, hi, hi', rx, ry, lx, ly, Ins.cells, aeq_ins, aggOf2, hwr, hne, hxy]
        refine ends_plan [] [0, 1] ?_ ?_ ?_ <;> simp
    · have hie : i = n := by omega
      subst hie
      have hi' : ¬ (i : Int) < i := by omega
      simp (implicitDefEqProofs := false) [t0, t1, t5, hpre]
      refine ends_plan [] [0, 1] ?_ ?_ ?_ <;> simp
  · have hne : a.take n ≠ b.take m := fun e => hnm (by
      have := congrArg List.length e
      rw [List.length_take, List.length_take] at this; omega)
    have hnm' : ¬ (n : Int) = m := by omega
    refine runs_by (tbl := []) (by simp) 1001 0 (af := a24) rfl ?_
    rw [a24, b24, run_eq]
    refine ⟨by simp, ?_⟩
    simp (implicitDefEqProofs := false) [hnm', hnm, hne]
    refine ends_plan [] [0, 1] ?_ ?_ ?_ <;> simp

theorem borrow_same {f : FuncId} {args : List Value} {H : AH GD} {k : Nat} {e : TypeId} {cs : List Value} {r0 : AEnd} (hk : H.get k = some (.arr e cs))
    (h : Runs Try.prog cfg f args (H.upd k (.ro cs)) fun r H' => r = r0 ∧ H' = H.upd k (.ro cs)) : Runs Try.prog cfg f args H fun r H' => r = r0 ∧ H' = H := by
  refine Runs.borrow k hk (h.mono ?_)
  rintro r H' ⟨h1, rfl⟩
  refine ⟨by rw [AH.get_upd, if_pos rfl], fun j cs2 hj hcs hne => ⟨cs2, by rw [AH.get_upd, if_neg hj] at hcs; exact hcs, hne⟩, h1, ?_⟩
  rw [upd_upd, upd_get hk]
def insAt (H : AH GD) (k : Nat) : Option (List Ins) := (H.row k).bind asInss
theorem insAt_inv {H : AH GD} {k : Nat} {l : List Ins} (h : insAt H k = some l) : H.get k = some (.ro (inss l)) ∨ ∃ e, H.get k = some (.arr e (inss l)) := by
  unfold insAt AH.row at h
  split at h
  · rename_i e cs hk
    exact .inr ⟨e, by rw [hk, asInss_inv h]⟩
  · rename_i cs hk
    exact .inl (by rw [hk, asInss_inv h])
  · cases h
theorem same_ro {H : AH GD} {k j : Nat} {a b : List Ins} {n m ta tb : Nat} (hk : H.get k = some (.ro (inss a))) (hj : H.get j = some (.ro (inss b))) (hkj : k ≠ j) (hn : n ≤ a.length) (hm : m ≤ b.length) (hl : n ≤ 1000) :
    Runs Try.prog cfg 24 [.slice (some ⟨k, 0, none⟩) n ta, .slice (some ⟨j, 0, none⟩) m tb] H fun r H' => r = .ret (.bool (decide (a.take n = b.take m))) ∧ H' = H :=
  (runs24 a b n m ta tb hn hm hl).atK (ro_same fun i cs hi => hi) [k, j] (by simp [hkj]) (by simp) (by simp [hk, hj]) (by simp) (by simp) (by
    simp [upd_get hk, upd_get hj])
theorem same_any {H : AH GD} {k j : Nat} {a b : List Ins} {n m ta tb : Nat} (hk : insAt H k = some a) (hj : insAt H j = some b) (hkj : k ≠ j) (hn : n ≤ a.length) (hm : m ≤ b.length) (hl : n ≤ 1000) :
    Runs Try.prog cfg 24 [.slice (some ⟨k, 0, none⟩) n ta, .slice (some ⟨j, 0, none⟩) m tb] H fun r H' => r = .ret (.bool (decide (a.take n = b.take m))) ∧ H' = H := by
  rcases insAt_inv hk with hk | ⟨e, hk⟩ <;> rcases insAt_inv hj with hj | ⟨e', hj⟩
  · exact same_ro hk hj hkj hn hm hl
  · exact borrow_same hj (same_ro (by rw [AH.get_upd, if_neg hkj]; exact hk) (by rw [AH.get_upd, if_pos rfl]) hkj hn hm hl)
  · exact borrow_same hk (same_ro (by rw [AH.get_upd, if_pos rfl]) (by rw [AH.get_upd, if_neg (Ne.symm hkj)]; exact hj) hkj hn hm hl)
  · refine borrow_same hk (borrow_same (H := H.upd k (.ro (inss a))) (k := j) (by rw [AH.get_upd, if_neg (Ne.symm hkj)]; exact hj) (same_ro ?_ (by rw [AH.get_upd, if_pos rfl]) hkj hn hm hl))
    rw [AH.get_upd, if_neg hkj, AH.get_upd, if_pos rfl]
theorem same_nil (H : AH GD) : Runs Try.prog cfg 24 [.slice none 0 0, .slice none 0 0] H fun r H' => r = .ret (.bool true) ∧ H' = H := by
  refine runs_by (tbl := []) (by simp) 1 0 (af := a24) rfl ?_
  rw [a24, b24, run_eq]
  refine ⟨by simp, ?_⟩
  simp (implicitDefEqProofs := false)
  refine loop_inv (sg_mono gX_ok (tabS_ok (by simp)) _ _ noY noY_mono) (fun mm tm H' => mm = 0 ∧ tm 0 = .slice none 0 0 ∧ tm 5 = .int .i64 0 ∧ H' = H) (m := 0) (by simp) (by omega) ?_
  rintro mm tm H' ⟨rfl, t0, t5, rfl⟩
  simp (implicitDefEqProofs := false) [t0, t5]
def st24 : CStep GD := fun args H => match args with
  | [.slice none 0 0, .slice none 0 0] => some (True, .ret (.bool true), H)
  | [.slice (some ⟨k, 0, none⟩) n _, .slice (some ⟨j, 0, none⟩) m _] => match insAt H k, insAt H j with
    | some a, some b => some (k ≠ j ∧ n ≤ a.length ∧ m ≤ b.length ∧ n ≤ 1000, .ret (.bool (decide (a.take n = b.take m))), H)
    | _, _ => none
  | _ => none
theorem st24_ok : CStepOk Try.prog cfg 24 st24 := by
  intro args H p r H' h hp
  unfold st24 at h
  split at h
  · cases h; exact same_nil H
  · split at h
    · rename_i h1 h2
      cases h
      exact same_any h1 h2 hp.1 hp.2.1 hp.2.2.1 hp.2.2.2
    · cases h
  · cases h
theorem insAt_of (l : List (Option (AObj GD))) (k : Nat) : insAt (AH.of l) k = match (l[k]?).join with
  | some (.arr _ cs) => asInss cs
  | some (.ro cs) => asInss cs
  | _ => none := by
  unfold insAt
  rw [of_row]
  generalize (l[k]?).join = x
  rcases x with _ | o
  · rfl
  · cases o <;> rfl

/-! The law of the bytes. -/
theorem decB_len {B : List Int} {l : List Ins} (h : decB B = some l) : l.length ≤ B.length := by
  have key : ∀ f p acc, p ≤ B.length → ∀ l, decF f B p acc = some l → l.length ≤ acc.length + (B.length - p) := by
    intro f
    induction f with
    | zero => intro p acc _ l h; cases h
    | succ f ih =>
      intro p acc hp l h
      rw [decF] at h
      split at h
      · split at h
        · rename_i i q hs
          split at h
          · have := stepD_le ‹_› hs
            have h2 := ih q _ this.2 l h
            rw [List.length_append, List.length_singleton] at h2
            omega
          · cases h
        · cases h
      · cases h; omega
  have := key _ 0 [] (by omega) l h
  simpa using this
def tblB : List (FuncId × CStep GD) := [(7, st7), (21, st21), (8, st8), (10, st10), (22, decSt), (23, decSt), (24, st24)]
theorem tblB_ok : ∀ x ∈ tblB, CStepOk Try.prog cfg x.1 x.2 := by simp [tblB, st7_ok, st21_ok, st8_ok, st10_ok, dec_code, dec_r14, st24_ok]
set_option maxHeartbeats 4000000 in
theorem runs6 (l : List Ins) (b : List Int) (hok : ∀ e ∈ l, e.Ok) (hb : ByteL b) : Runs Try.prog cfg 6 [.slice (some ⟨0, 0, none⟩) l.length 0, .slice (some ⟨1, 0, none⟩) b.length 0] (AH.of [some (.ro (inss l)), some (.ro (bs b))])
    fun r H' => r = .ret (.bool true) ∧ H' = AH.of [some (.ro (inss l)), some (.ro (bs b))] := by
  refine Runs.ends ?_
  obtain ⟨a, ha⟩ : ∃ a, min l.length 60 = a := ⟨_, rfl⟩
  have h1 : a ≤ l.length ∧ a ≤ 1000 := by omega
  obtain ⟨L, hL⟩ : ∃ L, l.take a = L := ⟨_, rfl⟩
  have hN : ∃ nb, nb ≤ b.length ∧ nb ≤ 1000 ∧ ((400 < (b.length : Int) ∧ nb = 400) ∨ (¬ 400 < (b.length : Int) ∧ nb = b.length)) := by
    by_cases h : 400 < b.length
    · exact ⟨400, by omega, by omega, .inl ⟨by omega, rfl⟩⟩
    · exact ⟨b.length, by omega, by omega, .inr ⟨by omega, rfl⟩⟩
  obtain ⟨nb, hn1, hn2, hN⟩ := hN
  obtain ⟨B, hB⟩ : ∃ B, b.take nb = B := ⟨_, rfl⟩
  have hBl : B.length = nb := by rw [← hB, List.length_take]; omega
  have he : encOk L = true ∨ encOk L = false := by cases encOk L <;> simp
  have hD : decB B = none ∨ ∃ d, decB B = some d := by cases decB B <;> simp
  rcases hN with ⟨h4, rfl⟩ | ⟨h4, rfl⟩ <;> rcases he with he | he <;> rcases hD with hD | ⟨d, hD⟩
  all_goals
    refine runs_by (tbl := tblB) tblB_ok 0 0 (af := a6) rfl ?_
    rw [a6, b6, run_eq]
    refine ⟨by simp, ?_⟩
    have h5 : 400 < (b.length : Int) → (400 : Int) ≤ b.length := fun h => by omega
    try have hdl := decB_len hD
    try have hd1 : d.length ≤ 1000 := by omega
    simp (implicitDefEqProofs := false) [tblB, st7, st21, st8, st10, decSt, st24, insAt_of, ha, hL, h1, hn1, hn2, h4, h5, hB, encR, encO, he, decR, decO, hD, bs_length, take_bs, bytesOf_bs, hok, hb, *]

    refine ⟨hok, ends_plan [] [0, 1] ?_ ?_ ?_⟩ <;> simp
end Yteegnbbblcokdaa
end Go.Proofs
/-
  What bytes read as.
-/
set_option linter.unusedSimpArgs false
set_option linter.unusedVariables false
set_option linter.unnecessarySimpa false
set_option linter.unusedSectionVars false
namespace Go.Proofs
namespace Yteegnbbblcokdaa
open Go.Abs Go.ChangeShapes Go.WideShapes Go.ChangeAt Go.RowKit
set_option linter.unusedSimpArgs false
set_option linter.unusedVariables false
set_option maxRecDepth 100000

section
variable {H : Type} {enc : TypeId × Value → H} {w : World}
theorem byte_cell {fuel : Nat} {cs : List Value} {y : DataW H × List MemPlace} (h : DataW.trod enc Try.prog w 0 (fun _ => true) true fuel 5 cs = some y) : ∃ v : Int, cs = [.int .u8 v] ∧ (0 ≤ v ∧ v < 256) := by
  obtain ⟨a, ha, _, hw⟩ := DataW.trod_int Try.underlying5 h
  exact ⟨a, ha, wf_u8 hw⟩
theorem bs_flat (h : List Int) : h.flatMap (fun v => [Value.int .u8 v]) = bs h := by
  induction h with
  | nil => rfl
  | cons v h ih => rw [List.flatMap_cons, ih]; rfl
theorem bs_one (l : List Int) : (bs l).all (·.oneCell') = true := by simp [bs, Value.oneCell']
theorem open_bytes {r : Reach} {b0 : Nat} {v : Value} {d : DataW H} {ps : List MemPlace} (hok : Value.okWide Try.prog w r b0 27 v) (hd : DataW.Trod enc Try.prog w 0 (fun _ => true) true 27 v d ps) :
    ∃ l : List Int, ByteL l ∧ l.length ≤ maxLen ∧ ArgRow w v l.length (bs l) := by
  obtain ⟨l, h1, h2, h3⟩ := open_rows (ea := fun v => [Value.int .u8 v]) (Ok := fun v => 0 ≤ v ∧ v < 256) Try.underlying27 (by rw [cells5]; omega) (fun x => cells5.symm) (fun _ _ _ h => byte_cell h) hok hd
  rw [bs_flat] at h3
  exact ⟨l, h1, h2, h3⟩
end
end Yteegnbbblcokdaa
end Go.Proofs
