/-
  THE DATA, and how each lies.
-/
import Derived.Test.YteegnbbblcokdaaDoorPF
import Derived.Test.YteegnbbblcokdaaDoorPA3
import Derived.Test.YteegnbbblcokdaaDoorRows
import Derived.Shelf.Strconv.Itoa3
import Derived.Shelf.Strings.OnBuilder
import Derived.Shelf.Strings.Search2
import Derived.Test.YteegnbbblcokdaaDoorProg
import Derived.LaidLaws
import Derived.JoinedAt
set_option linter.unusedSimpArgs false
set_option linter.unusedVariables false
set_option linter.unnecessarySimpa false
set_option linter.unusedSectionVars false
namespace Go.Proofs
namespace YteegnbbblcokdaaDoor
open Go.Abs

structure Ent where
  t : Int
  v : Int
  n : Int
  deriving DecidableEq

/-- A variable and a value. -/
structure Pr where
  t : Int
  v : Int
  deriving DecidableEq
/-- An event. -/
structure Ev where
  k : Int
  a : Int
  t : Int
  v : Int
  deriving DecidableEq
/-- What is asked for. -/
structure Ak where
  k : Int
  t : Int
  v : Int
  deriving DecidableEq
/-- An attempt of norec: its number, snapshot, reads, frames (the uppermost first), what is asked for, and how far it is. -/
structure Att where
  n : Nat
  snap : Int
  es : List Ent
  fs : List (List Pr)
  asked : Bool
  ra : Ak
  at_ : Nat
  back : Nat
  nx : Nat
  seen : Int
  val : Int
  dec : Bool
  deriving DecidableEq
/-- norec: who has the lock, what it counts, the heap, the threads, events, keys, reasons. -/
structure NS where
  o : Option Int
  c : Int
  hp : List Int
  ts : Nat → Option Att
  ev : List Ev
  ky : List Int
  wy : List Int

inductive GD where
  | lk (o : Option Int) (c : Int)
  | rlk (o : Option Int) (c : Int)
  | stk (fs : List (List Pr))
  | log (fs : List (List Pr))
  | rlog (fs : List (List Pr))
  | att (a : Att)
  | ratt (a : Att)
  | eng (s : NS)
  | reng (s : NS)
  | set (c : Nat) (l : List Ent)
  | rset (l : List Ent)
  | tab (ws : List Int) (c : Int)
  | rtab (ws : List Int) (c : Int)
  | vints (l : List Int)

def Ent.cells (e : Ent) : List Value := [.int .i64 e.t, .int .u64 e.v, .int .u64 e.n]
def Ent.val (e : Ent) : Value := .agg e.cells.toArray
def epairs (l : List Ent) : List (Value × Value) := l.map fun e => (.int .i64 e.t, e.val)
def tvars (l : List Ent) : List Value := l.map fun e => .int .i64 e.t
def rows (l : List Ent) : List Value := l.flatMap Ent.cells
def us (h : List Int) : List Value := h.map fun v => .int .u64 v

def Pr.cells (p : Pr) : List Value := [.int .i64 p.t, .int .u64 p.v]
def prs (l : List Pr) : List Value := l.flatMap Pr.cells
def Ev.cells (e : Ev) : List Value := [.int .u8 e.k, .int .i64 e.a, .int .i64 e.t, .int .u64 e.v]
def evs (l : List Ev) : List Value := l.flatMap Ev.cells
def u8s (l : List Int) : List Value := l.map fun v => .int .u8 v
/-- What the program keeps of it. -/
def Att.ask (a : Att) : Ak := if a.asked then a.ra else ⟨0, 0, 0⟩
def nextP : List (List Pr) → Value
  | [] => .pointer none
  | _ :: _ => .pointer (some ⟨2, 0, none⟩)
def nextO : List (List Pr) → List (AObj GD)
  | [] => []
  | f :: fs => [.hi (.stk (f :: fs))]
def stkO : List (List Pr) → List (AObj GD)
  | [] => [.arr 0 []]
  | f :: fs => .arr 0 [.slice (some ⟨1, 0, none⟩) f.length 1, nextP fs] :: .arr 0 (prs f) :: nextO fs
def lkO : Option Int → Int → List (AObj GD)
  | none, c => [.arr 0 [.pointer none, .int .u64 c]]
  | some x, c => [.arr 0 [.pointer (some ⟨1, 0, none⟩), .int .u64 c], .arr 3 [.int .i64 x]]
/-- A frame's value of a variable. -/
def getP (f : List Pr) (t : Int) : Option Int := (f.find? fun p => p.t == t).map (·.v)
def tv12 : List Int := [0, 1, 2, 3, 4, 5, 6, 7, 8, 9, 10, 11]
def frameC (f : List Pr) : List Value := (tv12.map fun t => .bool (getP f t).isSome) ++ tv12.map fun t => .int .u64 ((getP f t).getD 0)
def slotO : Option Att → AObj GD
  | some a => .hi (.att a)
  | none => .arr 0 []
def rslotO : Option Att → AObj GD
  | some a => .hi (.ratt a)
  | none => .arr 0 []
def tp1 (i : Int) (k : Nat) : Option Att → List (Value × Value)
  | some _ => [(.int .i64 i, .pointer (some ⟨k, 0, none⟩))]
  | none => []
/-- The threads' map. -/
def tpK (k0 k1 k2 k3 : Nat) (ts : Nat → Option Att) : List (Value × Value) := tp1 0 k0 (ts 0) ++ (tp1 1 k1 (ts 1) ++ (tp1 2 k2 (ts 2) ++ tp1 3 k3 (ts 3)))
def rptr (k : Nat) : Option Att → Value
  | some _ => .pointer (some ⟨k, 0, none⟩)
  | none => .pointer none
/-- A key and a reason, as the reference keeps them. -/
def keyC (ky wy : List Int) : List Value := (ky.zip wy).flatMap fun x => [.int .u64 x.1, .int .u8 x.2]

def frag : GD → List (AObj GD)
  | .lk o c => lkO o c
  | .rlk o c => [.arr 0 [.int .u64 c, .bool o.isSome, .int .i64 (o.getD 0)]]
  | .stk fs => stkO fs
  | .log fs => [.arr 0 [.pointer (some ⟨1, 0, none⟩), .int .i64 ((fs.length : Int) - 1)], .hi (.stk fs)]
  | .rlog fs => [.arr 0 [.slice (some ⟨1, 0, none⟩) fs.length 1], .arr 0 (fs.reverse.flatMap frameC)]
  | .att a => [.arr 0 [.pointer (some ⟨1, 0, none⟩), .pointer (some ⟨2, 0, none⟩), .int .i64 a.n, .int .u64 a.snap, .int .u8 a.ask.k, .int .i64 a.ask.t, .int .u64 a.ask.v, .int .i64 a.at_, .int .i64 a.back, .int .i64 a.nx, .int .u64 a.seen, .int .u64 a.val, .bool a.dec],
      .hi (.set 0 a.es), .hi (.log a.fs)]
  | .ratt a => [.arr 0 [.int .i64 a.n, .int .u64 a.snap, .pointer (some ⟨1, 0, none⟩), .pointer (some ⟨2, 0, none⟩), .bool a.asked, .int .u8 a.ra.k, .int .i64 a.ra.t, .int .u64 a.ra.v, .int .i64 (if a.at_ < 4 then a.at_ else a.at_ + 6), .int .i64 a.back, .int .i64 a.nx, .int .u64 a.seen, .int .u64 a.val, .bool a.dec],
      .hi (.rset a.es), .hi (.rlog a.fs)]
  | .eng s => [.arr 0 [.pointer (some ⟨1, 0, none⟩), .slice (some ⟨2, 0, none⟩) s.hp.length 1, .map (some 3), .slice (some ⟨4, 0, none⟩) s.ev.length 1, .slice (some ⟨5, 0, none⟩) s.ky.length 1, .slice (some ⟨6, 0, none⟩) s.wy.length 1],
      .hi (.lk s.o s.c), .arr 24 (us s.hp), .mapq (tpK 7 8 9 10 s.ts), .arr 0 (evs s.ev), .arr 23 (us s.ky), .arr 0 (u8s s.wy), slotO (s.ts 0), slotO (s.ts 1), slotO (s.ts 2), slotO (s.ts 3)]
  | .reng s => [.arr 0 [.slice (some ⟨1, 0, none⟩) s.hp.length 1, .pointer (some ⟨2, 0, none⟩), rptr 5 (s.ts 0), rptr 6 (s.ts 1), rptr 7 (s.ts 2), rptr 8 (s.ts 3), .slice (some ⟨3, 0, none⟩) s.ev.length 1, .slice (some ⟨4, 0, none⟩) s.ky.length 1],
      .arr 24 (us s.hp), .hi (.rlk s.o s.c), .arr 0 (evs s.ev), .arr 0 (keyC s.ky s.wy), rslotO (s.ts 0), rslotO (s.ts 1), rslotO (s.ts 2), rslotO (s.ts 3)]
  | .set c l => [.arr 0 [.slice (some ⟨1, 0, none⟩) l.length 1, .map (some 2)], .arr 3 (tvars l), .mapq (epairs l)]
  | .rset l => [.arr 0 [.slice (some ⟨1, 0, none⟩) l.length 1], .arr 0 (rows l)]
  | .tab ws c => [.arr 0 [.int .u64 c, .slice (some ⟨1, 0, none⟩) ws.length 1], .arr 23 (us ws)]
  | .rtab ws c => [.arr 0 [.slice (some ⟨1, 0, none⟩) ws.length 1, .int .u64 c], .arr 23 (us ws)]
  | .vints l => [.arr 0 [.slice (some ⟨1, 0, none⟩) l.length 1], .arr 3 (ints l)]

theorem frag_lk0 (c : Int) : frag (.lk none c) = [.arr 0 [.pointer none, .int .u64 c]] := rfl
theorem frag_lk1 (x c : Int) : frag (.lk (some x) c) = [.arr 0 [.pointer (some ⟨1, 0, none⟩), .int .u64 c], .arr 3 [.int .i64 x]] := rfl
theorem frag_rlk (o : Option Int) (c : Int) : frag (.rlk o c) = [.arr 0 [.int .u64 c, .bool o.isSome, .int .i64 (o.getD 0)]] := rfl
theorem frag_stk1 (f : List Pr) : frag (.stk [f]) = [.arr 0 [.slice (some ⟨1, 0, none⟩) f.length 1, .pointer none], .arr 0 (prs f)] := rfl
theorem frag_stk2 (f g : List Pr) (fs : List (List Pr)) : frag (.stk (f :: g :: fs)) = [.arr 0 [.slice (some ⟨1, 0, none⟩) f.length 1, .pointer (some ⟨2, 0, none⟩)], .arr 0 (prs f), .hi (.stk (g :: fs))] := rfl
theorem frag_stk (f : List Pr) (fs : List (List Pr)) : frag (.stk (f :: fs)) = .arr 0 [.slice (some ⟨1, 0, none⟩) f.length 1, nextP fs] :: .arr 0 (prs f) :: nextO fs := rfl
theorem frag_log (fs : List (List Pr)) : frag (.log fs) = [.arr 0 [.pointer (some ⟨1, 0, none⟩), .int .i64 ((fs.length : Int) - 1)], .hi (.stk fs)] := rfl
theorem frag_rlog (fs : List (List Pr)) : frag (.rlog fs) = [.arr 0 [.slice (some ⟨1, 0, none⟩) fs.length 1], .arr 0 (fs.reverse.flatMap frameC)] := rfl
theorem frag_att (a : Att) : frag (.att a) = [.arr 0 [.pointer (some ⟨1, 0, none⟩), .pointer (some ⟨2, 0, none⟩), .int .i64 a.n, .int .u64 a.snap, .int .u8 a.ask.k, .int .i64 a.ask.t, .int .u64 a.ask.v, .int .i64 a.at_, .int .i64 a.back, .int .i64 a.nx, .int .u64 a.seen, .int .u64 a.val, .bool a.dec],
      .hi (.set 0 a.es), .hi (.log a.fs)] := rfl
theorem frag_ratt (a : Att) : frag (.ratt a) = [.arr 0 [.int .i64 a.n, .int .u64 a.snap, .pointer (some ⟨1, 0, none⟩), .pointer (some ⟨2, 0, none⟩), .bool a.asked, .int .u8 a.ra.k, .int .i64 a.ra.t, .int .u64 a.ra.v, .int .i64 (if a.at_ < 4 then a.at_ else a.at_ + 6), .int .i64 a.back, .int .i64 a.nx, .int .u64 a.seen, .int .u64 a.val, .bool a.dec],
      .hi (.rset a.es), .hi (.rlog a.fs)] := rfl
theorem frag_eng (s : NS) : frag (.eng s) = [.arr 0 [.pointer (some ⟨1, 0, none⟩), .slice (some ⟨2, 0, none⟩) s.hp.length 1, .map (some 3), .slice (some ⟨4, 0, none⟩) s.ev.length 1, .slice (some ⟨5, 0, none⟩) s.ky.length 1, .slice (some ⟨6, 0, none⟩) s.wy.length 1],
      .hi (.lk s.o s.c), .arr 24 (us s.hp), .mapq (tpK 7 8 9 10 s.ts), .arr 0 (evs s.ev), .arr 23 (us s.ky), .arr 0 (u8s s.wy), slotO (s.ts 0), slotO (s.ts 1), slotO (s.ts 2), slotO (s.ts 3)] := rfl
theorem frag_reng (s : NS) : frag (.reng s) = [.arr 0 [.slice (some ⟨1, 0, none⟩) s.hp.length 1, .pointer (some ⟨2, 0, none⟩), rptr 5 (s.ts 0), rptr 6 (s.ts 1), rptr 7 (s.ts 2), rptr 8 (s.ts 3), .slice (some ⟨3, 0, none⟩) s.ev.length 1, .slice (some ⟨4, 0, none⟩) s.ky.length 1],
      .arr 24 (us s.hp), .hi (.rlk s.o s.c), .arr 0 (evs s.ev), .arr 0 (keyC s.ky s.wy), rslotO (s.ts 0), rslotO (s.ts 1), rslotO (s.ts 2), rslotO (s.ts 3)] := rfl
theorem frag_set (c : Nat) (l : List Ent) : frag (.set c l) = [.arr 0 [.slice (some ⟨1, 0, none⟩) l.length 1, .map (some 2)], .arr 3 (tvars l), .mapq (epairs l)] := rfl
theorem frag_rset (l : List Ent) : frag (.rset l) = [.arr 0 [.slice (some ⟨1, 0, none⟩) l.length 1], .arr 0 (rows l)] := rfl
theorem frag_tab (ws : List Int) (c : Int) : frag (.tab ws c) = [.arr 0 [.int .u64 c, .slice (some ⟨1, 0, none⟩) ws.length 1], .arr 23 (us ws)] := rfl
theorem frag_rtab (ws : List Int) (c : Int) : frag (.rtab ws c) = [.arr 0 [.slice (some ⟨1, 0, none⟩) ws.length 1, .int .u64 c], .arr 23 (us ws)] := rfl
theorem frag_vints (l : List Int) : frag (.vints l) = [.arr 0 [.slice (some ⟨1, 0, none⟩) l.length 1], .arr 3 (ints l)] := rfl

abbrev cfg := cfgOf Tryd.prog frag
abbrev G := gX Tryd.prog frag

/-- The rule, over this seat's forms. -/
theorem runs_by {tbl : List (FuncId × CStep GD)} (h : ∀ x ∈ tbl, CStepOk Tryd.prog cfg x.1 x.2) (F d : Nat) {f : FuncId} {af : AF} (hf : forms f = some af) {args : List Value} {H : AH GD} {K : AEnd → AH GD → Prop}
    (hr : af.run (G (callX G (tabS (SeesG Tryd.prog cfg) tbl) forms F d noY) (callX G (tabS (SeesG Tryd.prog cfg) tbl) forms F d)) F args H K) : Runs Tryd.prog cfg f args H K :=
  runs_of gX_ok hmix hext (tabS_ok h) forms_ok F d hf hr
end YteegnbbblcokdaaDoor
end Go.Proofs
/-
  WHAT IS READ off arguments and heaps.
-/
set_option linter.unusedSimpArgs false
set_option linter.unusedVariables false
set_option linter.unnecessarySimpa false
set_option linter.unusedSectionVars false
namespace Go.Proofs
namespace YteegnbbblcokdaaDoor
open Go.Abs
set_option linter.unusedSimpArgs false

def ptr0 : Value → Option Nat
  | .pointer (some ⟨k, 0, none⟩) => some k
  | _ => none
theorem ptr0_eq (k : Nat) : ptr0 (.pointer (some ⟨k, 0, none⟩)) = some k := rfl
theorem ptr0_inv {v : Value} {k : Nat} (h : ptr0 v = some k) : v = .pointer (some ⟨k, 0, none⟩) := by
  unfold ptr0 at h
  split at h
  · cases h; rfl
  · cases h
def asU : Value → Option Int
  | .int .u64 v => some v
  | _ => none
def asI : Value → Option Int
  | .int .i64 v => some v
  | _ => none
theorem asU_eq (v : Int) : asU (.int .u64 v) = some v := rfl
theorem asI_eq (v : Int) : asI (.int .i64 v) = some v := rfl
theorem asU_inv {x : Value} {v : Int} (h : asU x = some v) : x = .int .u64 v := by
  unfold asU at h
  split at h
  · cases h; rfl
  · cases h
theorem asI_inv {x : Value} {v : Int} (h : asI x = some v) : x = .int .i64 v := by
  unfold asI at h
  split at h
  · cases h; rfl
  · cases h
theorem upd_get {H : AH GD} {k : Nat} {o : AObj GD} (h : H.get k = some o) : H.upd k o = H := by
  refine AH.ext' rfl fun j => ?_
  rw [AH.get_upd]
  split
  · rename_i e; subst e; exact h.symm
  · rfl
theorem us_set (h : List Int) (i : Nat) (v : Int) : (us h).set i (.int .u64 v) = us (h.set i v) := by simp [us, List.map_set]
theorem take_us (l : List Int) : (us l).take l.length = us l := List.take_of_length_le (by simp [us])
theorem us_length (h : List Int) : (us h).length = h.length := by simp [us]
theorem us_ground (h : List Int) : grounds (us h) = true := by
  induction h with
  | nil => rfl
  | cons v h ih => simp [us, grounds, ground] at ih ⊢; exact ih
theorem ren_us (θ : Nat → Nat) (h : List Int) : rens θ (us h) = us h := rens_ground θ _ (us_ground h)
theorem us_at {h : List Int} {i : Nat} {v : Int} (hv : h[i]? = some v) : (us h)[i]? = some (.int .u64 v) := by simp [us, hv]
def sl0 : Value → Option (Nat × Nat × Nat)
  | .slice (some ⟨k, 0, none⟩) n c => some (k, n, c)
  | _ => none
theorem sl0_eq (k n c : Nat) : sl0 (.slice (some ⟨k, 0, none⟩) n c) = some (k, n, c) := rfl
theorem sl0_inv {v : Value} {q : Nat × Nat × Nat} (h : sl0 v = some q) : v = .slice (some ⟨q.1, 0, none⟩) q.2.1 q.2.2 := by
  unfold sl0 at h
  split at h
  · cases h; rfl
  · cases h
def asUs : List Value → Option (List Int)
  | [] => some []
  | .int .u64 v :: l => (asUs l).map (v :: ·)
  | _ => none
theorem asUs_us : ∀ h : List Int, asUs (us h) = some h
  | [] => rfl
  | v :: h => by
    show (asUs (us h)).map (v :: ·) = _
    rw [asUs_us h]; rfl
theorem asUs_inv : ∀ {cs : List Value} {h : List Int}, asUs cs = some h → cs = us h
  | [], h, e => by cases e; rfl
  | v :: cs, h, e => by
    unfold asUs at e
    split at e
    · simp_all
    · rename_i v' l heq
      cases heq
      simp only [Option.map_eq_some_iff] at e
      obtain ⟨h', e1, rfl⟩ := e
      rw [asUs_inv e1]; rfl
    · cases e
/-- A row of words that nobody writes. -/
def getRo (H : AH GD) (k : Nat) : Option (List Int) :=
  match H.get k with
  | some (.ro cs) => asUs cs
  | _ => none
theorem getRo_inv {H : AH GD} {k : Nat} {h : List Int} (hg : getRo H k = some h) : H.get k = some (.ro (us h)) := by
  unfold getRo at hg
  split at hg
  · rename_i cs e; rw [e, asUs_inv hg]
  · cases hg
def getArr (H : AH GD) (k : Nat) : Option (TypeId × List Int) :=
  match H.get k with
  | some (.arr e cs) => (asUs cs).map fun h => (e, h)
  | _ => none
theorem getArr_inv {H : AH GD} {k : Nat} {x : TypeId × List Int} (hg : getArr H k = some x) : H.get k = some (.arr x.1 (us x.2)) := by
  unfold getArr at hg
  split at hg
  · rename_i e cs he
    simp only [Option.map_eq_some_iff] at hg
    obtain ⟨h, h1, rfl⟩ := hg
    rw [he, asUs_inv h1]
  · cases hg
theorem upd_upd (H : AH GD) (k : Nat) (o o' : AObj GD) : (H.upd k o).upd k o' = H.upd k o' := by
  refine AH.ext' rfl fun j => ?_
  simp only [AH.get_upd]
  split <;> rfl
theorem us_one (v : Int) : us [v] = [.int .u64 v] := rfl
theorem us_nil : us [] = [] := rfl
theorem us_append (a b : List Int) : us (a ++ b) = us a ++ us b := by simp [us]
def asInts : List Value → Option (List Int)
  | [] => some []
  | .int .i64 v :: l => (asInts l).map (v :: ·)
  | _ => none
theorem asInts_ints : ∀ h : List Int, asInts (ints h) = some h
  | [] => rfl
  | v :: h => by
    show (asInts (ints h)).map (v :: ·) = _
    rw [asInts_ints h]; rfl
theorem asInts_inv : ∀ {cs : List Value} {h : List Int}, asInts cs = some h → cs = ints h
  | [], h, e => by cases e; rfl
  | v :: cs, h, e => by
    unfold asInts at e
    split at e
    · simp_all
    · rename_i v' l heq
      cases heq
      simp only [Option.map_eq_some_iff] at e
      obtain ⟨h', e1, rfl⟩ := e
      rw [asInts_inv e1]; rfl
    · cases e
theorem ints_at {h : List Int} {i : Nat} {v : Int} (hv : h[i]? = some v) : (ints h)[i]? = some (.int .i64 v) := by simp [ints, hv]
theorem ints_get {h : List Int} {i : Nat} {v : Int} (hv : h[i]? = some v) (p : i < (ints h).length) : (ints h)[i]'p = .int .i64 v := by
  have := ints_at hv
  rw [List.getElem?_eq_getElem p] at this
  exact Option.some.inj this
theorem ints_append (a b : List Int) : ints (a ++ b) = ints a ++ ints b := by simp [ints]
theorem take_ints (l : List Int) : (ints l).take l.length = ints l := List.take_of_length_le (by simp)
/-- A row of whole numbers. -/
def getInts (H : AH GD) (k : Nat) : Option (TypeId × List Int) :=
  match H.get k with
  | some (.arr e cs) => (asInts cs).map fun h => (e, h)
  | _ => none
theorem getInts_inv {H : AH GD} {k : Nat} {x : TypeId × List Int} (hg : getInts H k = some x) : H.get k = some (.arr x.1 (ints x.2)) := by
  unfold getInts at hg
  split at hg
  · rename_i e cs he
    simp only [Option.map_eq_some_iff] at hg
    obtain ⟨h, h1, rfl⟩ := hg
    rw [he, asInts_inv h1]
  · cases hg
theorem inc_i64 {i n : Nat} (hi : i < n) (hn : n ≤ 1000000) : IntKind.i64.wrap ((i : Int) + 1) = ((i + 1 : Nat) : Int) := by rw [wrap_i64 (by omega) (by omega)]; omega
theorem same_none {α : Type} {a b : List α} (hl : a.length = b.length) (h : ∀ j, j < a.length → a[j]? = b[j]?) : a = b := by
  refine List.ext_getElem? fun j => ?_
  rcases Nat.lt_or_ge j a.length with hj | hj
  · exact h j hj
  · rw [List.getElem?_eq_none hj, List.getElem?_eq_none (by omega)]
theorem ints_single (v : Int) : ints [v] = [.int .i64 v] := rfl
theorem ptr0_nil : ptr0 (.pointer none) = none := rfl
def isNil : Value → Option Unit
  | .pointer none => some ()
  | _ => none
theorem isNil_eq : isNil (.pointer none) = some () := rfl
theorem isNil_ptr (k o : Nat) : isNil (.pointer (some ⟨k, o, none⟩)) = none := rfl
theorem isNil_inv {v : Value} {u : Unit} (h : isNil v = some u) : v = .pointer none := by
  unfold isNil at h
  split at h
  · rfl
  · cases h
/-! What numbers and texts alone come to: in any heap. -/
abbrev PStep := List Value → Option (Prop × Value)
def pureStep (f : PStep) : CStep GD := fun args H => (f args).map fun x => (x.1, .ret x.2, H)
theorem pure_ok {fid : FuncId} {f : PStep} (h : ∀ args p v, f args = some (p, v) → p → grounds args = true ∧ ground v = true ∧ Runs Tryd.prog cfg fid args (AH.of []) fun r H' => r = .ret v ∧ H' = AH.of []) : CStepOk Tryd.prog cfg fid (pureStep f) := by
  intro args H p r H' he hp
  simp only [pureStep, Option.map_eq_some_iff] at he
  obtain ⟨⟨p', v⟩, h1, h2⟩ := he
  cases h2
  obtain ⟨g1, g2, hr⟩ := h args p' v h1 hp
  exact hr.atK (ro_none rfl) [] (by simp) (by simp) trivial (by rw [rens_ground _ _ g1]) (by rw [renE_ret, ren_ground _ _ g2]) (by simp)
/-! What is done to one datum, with numbers and truth values alone. -/
abbrev DStep := GD → List Value → Option (Prop × Value × GD)
def dataSt (g : DStep) : CStep GD := fun args H => match args with
  | .pointer (some ⟨k, 0, none⟩) :: rest => match H.get k with
    | some (.hi d) => (g d rest).map fun x => (x.1, .ret x.2.1, H.upd k (.hi x.2.2))
    | _ => none
  | _ => none
theorem data_ok {fid : FuncId} {g : DStep} (h : ∀ d rest p v d', g d rest = some (p, v, d') → p → grounds rest = true ∧ ground v = true ∧ Runs Tryd.prog cfg fid (.pointer (some ⟨0, 0, none⟩) :: rest) (AH.of [some (.hi d)]) fun r H' => r = .ret v ∧ H' = AH.of [some (.hi d')]) : CStepOk Tryd.prog cfg fid (dataSt g) := by
  intro args H p r H' he hp
  unfold dataSt at he
  split at he
  case h_2 => cases he
  split at he
  case h_2 => cases he
  simp only [Option.map_eq_some_iff] at he
  obtain ⟨⟨p', v, d'⟩, h1, h2⟩ := he
  rename_i k rest x d hk
  cases h2
  obtain ⟨g1, g2, hr⟩ := h d rest p' v d' h1 hp
  exact hr.atK (ro_none rfl) [k] (by simp) (by simp) (by simp [hk]) (by rw [rens, rens_ground _ _ g1]; simp) (by rw [renE_ret, ren_ground _ _ g2]) (by simp)
attribute [simp] ren_us ptr0_eq ptr0_nil asU_eq asI_eq sl0_eq asUs_us asUs asInts_ints isNil_eq isNil_ptr
end YteegnbbblcokdaaDoor
end Go.Proofs
/-
  What the arguments of laws read as: numbers, truth values.
-/
set_option linter.unusedSimpArgs false
set_option linter.unusedVariables false
set_option linter.unnecessarySimpa false
set_option linter.unusedSectionVars false
namespace Go.Proofs
namespace YteegnbbblcokdaaDoor
open Go.Abs Go.ChangeShapes Go.WideShapes Go.ChangeAt Go.RowKit
set_option linter.unusedSimpArgs false
set_option linter.unusedVariables false
set_option maxRecDepth 100000

theorem own : ownKnob Tryd.prog.godebug = none := by kernel_rfl
section
variable {H : Type} {enc : TypeId × Value → H} {w : World}
theorem wf_i64 {n : Int} (h : (Lit.int .i64 n).wf = true) : -9223372036854775808 ≤ n ∧ n ≤ 9223372036854775807 := by
  simpa [Lit.wf, IntKind.min, IntKind.max, IntKind.signed, IntKind.bits] using h
theorem wf_u64 {n : Int} (h : (Lit.int .u64 n).wf = true) : 0 ≤ n ∧ n < 18446744073709551616 := by
  have : 0 ≤ n ∧ n ≤ 18446744073709551615 := by simpa [Lit.wf, IntKind.min, IntKind.max, IntKind.signed, IntKind.bits] using h
  omega
theorem wf_u8 {n : Int} (h : (Lit.int .u8 n).wf = true) : 0 ≤ n ∧ n < 256 := by
  have : 0 ≤ n ∧ n ≤ 255 := by simpa [Lit.wf, IntKind.min, IntKind.max, IntKind.signed, IntKind.bits] using h
  omega
theorem wf_u16 {n : Int} (h : (Lit.int .u16 n).wf = true) : 0 ≤ n ∧ n < 65536 := by
  have : 0 ≤ n ∧ n ≤ 65535 := by simpa [Lit.wf, IntKind.min, IntKind.max, IntKind.signed, IntKind.bits] using h
  omega
theorem wf_u32 {n : Int} (h : (Lit.int .u32 n).wf = true) : 0 ≤ n ∧ n < 4294967296 := by
  have : 0 ≤ n ∧ n ≤ 4294967295 := by simpa [Lit.wf, IntKind.min, IntKind.max, IntKind.signed, IntKind.bits] using h
  omega
theorem us_oneC (l : List Int) : (us l).all (·.oneCell') = true := by simp [us, Value.oneCell']
theorem ints_oneC (l : List Int) : (ints l).all (·.oneCell') = true := by simp [ints, Value.oneCell']
theorem us_flat (h : List Int) : h.flatMap (fun v => [Value.int .u64 v]) = us h := by
  induction h with
  | nil => rfl
  | cons v h ih => rw [List.flatMap_cons, ih]; rfl
theorem ints_flat (h : List Int) : h.flatMap (fun v => [Value.int .i64 v]) = ints h := by
  induction h with
  | nil => rfl
  | cons v h ih => rw [List.flatMap_cons, ih]; rfl
end
end YteegnbbblcokdaaDoor
end Go.Proofs
/-
  VALUES: which are right; which are the same.
-/
set_option linter.unusedSimpArgs false
set_option linter.unusedVariables false
set_option linter.unnecessarySimpa false
set_option linter.unusedSectionVars false
namespace Go.Proofs
namespace YteegnbbblcokdaaDoor
open Go.Abs
set_option linter.unusedSimpArgs false

def rightB (v : Int) : Bool := decide (bAndNot .u64 v 9223372036854775808 ≤ 9218868437227405312) || decide (v = 9221120237041090560)
theorem runs34 (v : Int) (H : AH GD) : Runs Tryd.prog cfg 34 [.int .u64 v] H fun r H' => r = .ret (.bool (rightB v)) ∧ H' = H := by
  refine runs_by (tbl := []) (by simp) 0 0 (af := a34) rfl ?_
  rw [a34, b34, run_eq]
  refine ⟨by simp, ?_⟩
  simp (implicitDefEqProofs := false)
  repeat' (first | with_reducible apply And.intro | with_reducible intro _)
  all_goals (simp [rightB, *] <;> omega)
def st34 : CStep GD := fun args H => match args with
  | [x] => (asU x).map fun v => (True, .ret (.bool (rightB v)), H)
  | _ => none
theorem st34_ok : CStepOk Tryd.prog cfg 34 st34 := by
  intro args H p r H' h hp
  unfold st34 at h
  split at h
  case h_2 => cases h
  simp only [Option.map_eq_some_iff] at h
  obtain ⟨v, hv, h⟩ := h
  cases h
  rw [asU_inv hv]
  exact runs34 v H
theorem runs41 (v : Int) (h0 : 0 ≤ v) (h1 : v < 18446744073709551616) (H : AH GD) : Runs Tryd.prog cfg 41 [.int .u64 v] H fun r H' => r = .ret (.bool (rightB v)) ∧ H' = H := by
  refine runs_by (tbl := []) (by simp) 0 0 (af := a41) rfl ?_
  rw [a41, b41, run_eq]
  refine ⟨by simp, ?_⟩
  have e : abin .eql (.float .f64 v.toNat) (.float .f64 v.toNat) = some (.bool (decide (bAndNot .u64 v 9223372036854775808 ≤ 9218868437227405312))) := by
    simp only [abin, order_self, bAndNot_sign h0 h1]
    simp
    omega
  simp (implicitDefEqProofs := false) [e]
  repeat' (first | with_reducible apply And.intro | with_reducible intro _)
  all_goals (simp [rightB, *] <;> omega)
def st41 : CStep GD := fun args H => match args with
  | [x] => (asU x).map fun v => (0 ≤ v ∧ v < 18446744073709551616, .ret (.bool (rightB v)), H)
  | _ => none
theorem st41_ok : CStepOk Tryd.prog cfg 41 st41 := by
  intro args H p r H' h hp
  unfold st41 at h
  split at h
  case h_2 => cases h
  simp only [Option.map_eq_some_iff] at h
  obtain ⟨v, hv, h⟩ := h
  cases h
  rw [asU_inv hv]
  exact runs41 v hp.1 hp.2 H
end YteegnbbblcokdaaDoor
end Go.Proofs
/-
  CODE: what an operation has.
-/
set_option linter.unusedSimpArgs false
set_option linter.unusedVariables false
set_option linter.unnecessarySimpa false
set_option linter.unusedSectionVars false
namespace Go.Proofs
namespace YteegnbbblcokdaaDoor
open Go.Abs
set_option linter.unusedSimpArgs false

def usesA (o : Nat) : Bool := decide ((2 ≤ o ∧ o ≤ 7) ∨ o = 19 ∨ o = 20 ∨ o = 21 ∨ o = 23 ∨ o = 24)
def usesV (o : Nat) : Bool := decide (o = 1)
def wordL : List (List UInt8) := [[110, 111, 112], [112, 117, 115, 104], [108, 111, 99, 97, 108], [115, 101, 116], [103, 101, 116], [112, 117, 116], [103, 101, 116, 97, 116], [112, 117, 116, 97, 116], [97, 100, 100], [115, 117, 98], [109, 117, 108], [100, 105, 118], [110, 101, 103], [108, 101, 115, 115], [115, 97, 109, 101], [110, 111, 116], [100, 117, 112], [112, 111, 112], [115, 119, 97, 112], [106, 117, 109, 112], [122, 101, 114, 111], [97, 116, 111, 109, 105, 99], [101, 110, 100], [111, 114, 101, 108, 115, 101], [101, 108, 115, 101], [101, 110, 100, 111, 114], [114, 101, 116, 114, 121], [111, 117, 116], [104, 97, 108, 116]]
def popsL : List Int := [0, 0, 0, 1, 0, 1, 1, 2, 2, 2, 2, 2, 1, 2, 2, 1, 1, 1, 2, 0, 1, 0, 0, 0, 0, 0, 0, 1, 0]
def pushL : List Int := [0, 1, 1, 0, 1, 0, 1, 0, 1, 1, 1, 1, 1, 1, 1, 1, 2, 0, 2, 0, 0, 0, 0, 0, 0, 0, 0, 0, 0]
def wordO (o : Nat) : ByteArray := ⟨((wordL[o]?).getD []).toArray⟩
def popsO (o : Nat) : Int := (popsL[o]?).getD 0
def pushO (o : Nat) : Int := (pushL[o]?).getD 0
def formC (o : Nat) : List Value := [.string (wordO o), .bool (usesA o), .bool (usesV o), .int .i64 (popsO o), .int .i64 (pushO o)]

def FT : List Value := [.string ⟨#[110, 111, 112]⟩, .bool false, .bool false, .int .i64 0, .int .i64 0, .string ⟨#[112, 117, 115, 104]⟩, .bool false, .bool true, .int .i64 0, .int .i64 1, .string ⟨#[108, 111, 99, 97, 108]⟩, .bool true, .bool false, .int .i64 0, .int .i64 1, .string ⟨#[115, 101, 116]⟩, .bool true, .bool false, .int .i64 1, .int .i64 0, .string ⟨#[103, 101, 116]⟩, .bool true, .bool false, .int .i64 0, .int .i64 1, .string ⟨#[112, 117, 116]⟩, .bool true, .bool false, .int .i64 1, .int .i64 0, .string ⟨#[103, 101, 116, 97, 116]⟩, .bool true, .bool false, .int .i64 1, .int .i64 1, .string ⟨#[112, 117, 116, 97, 116]⟩, .bool true, .bool false, .int .i64 2, .int .i64 0, .string ⟨#[97, 100, 100]⟩, .bool false, .bool false, .int .i64 2, .int .i64 1, .string ⟨#[115, 117, 98]⟩, .bool false, .bool false, .int .i64 2, .int .i64 1, .string ⟨#[109, 117, 108]⟩, .bool false, .bool false, .int .i64 2, .int .i64 1, .string ⟨#[100, 105, 118]⟩, .bool false, .bool false, .int .i64 2, .int .i64 1, .string ⟨#[110, 101, 103]⟩, .bool false, .bool false, .int .i64 1, .int .i64 1, .string ⟨#[108, 101, 115, 115]⟩, .bool false, .bool false, .int .i64 2, .int .i64 1, .string ⟨#[115, 97, 109, 101]⟩, .bool false, .bool false, .int .i64 2, .int .i64 1, .string ⟨#[110, 111, 116]⟩, .bool false, .bool false, .int .i64 1, .int .i64 1, .string ⟨#[100, 117, 112]⟩, .bool false, .bool false, .int .i64 1, .int .i64 2, .string ⟨#[112, 111, 112]⟩, .bool false, .bool false, .int .i64 1, .int .i64 0, .string ⟨#[115, 119, 97, 112]⟩, .bool false, .bool false, .int .i64 2, .int .i64 2, .string ⟨#[106, 117, 109, 112]⟩, .bool true, .bool false, .int .i64 0, .int .i64 0, .string ⟨#[122, 101, 114, 111]⟩, .bool true, .bool false, .int .i64 1, .int .i64 0, .string ⟨#[97, 116, 111, 109, 105, 99]⟩, .bool true, .bool false, .int .i64 0, .int .i64 0, .string ⟨#[101, 110, 100]⟩, .bool false, .bool false, .int .i64 0, .int .i64 0, .string ⟨#[111, 114, 101, 108, 115, 101]⟩, .bool true, .bool false, .int .i64 0, .int .i64 0, .string ⟨#[101, 108, 115, 101]⟩, .bool true, .bool false, .int .i64 0, .int .i64 0, .string ⟨#[101, 110, 100, 111, 114]⟩, .bool false, .bool false, .int .i64 0, .int .i64 0, .string ⟨#[114, 101, 116, 114, 121]⟩, .bool false, .bool false, .int .i64 0, .int .i64 0, .string ⟨#[111, 117, 116]⟩, .bool false, .bool false, .int .i64 1, .int .i64 0, .string ⟨#[104, 97, 108, 116]⟩, .bool false, .bool false, .int .i64 0, .int .i64 0]
theorem FT_at : ∀ o, o < 29 → List.take 5 (List.drop (o * 5) FT) = formC o
  | 0, _ => rfl
  | 1, _ => rfl
  | 2, _ => rfl
  | 3, _ => rfl
  | 4, _ => rfl
  | 5, _ => rfl
  | 6, _ => rfl
  | 7, _ => rfl
  | 8, _ => rfl
  | 9, _ => rfl
  | 10, _ => rfl
  | 11, _ => rfl
  | 12, _ => rfl
  | 13, _ => rfl
  | 14, _ => rfl
  | 15, _ => rfl
  | 16, _ => rfl
  | 17, _ => rfl
  | 18, _ => rfl
  | 19, _ => rfl
  | 20, _ => rfl
  | 21, _ => rfl
  | 22, _ => rfl
  | 23, _ => rfl
  | 24, _ => rfl
  | 25, _ => rfl
  | 26, _ => rfl
  | 27, _ => rfl
  | 28, _ => rfl
  | n + 29, h => by omega
theorem grounds_form (o : Nat) : grounds (formC o) = true := rfl

set_option maxRecDepth 100000 in
set_option maxHeartbeats 4000000 in
theorem runs16 (o : Nat) (ho : o < 29) : Runs Tryd.prog cfg 16 [.int .u8 o] (AH.of [])
    fun r H' => r = .ret (.agg (formC o).toArray) ∧ H' = AH.of [] := by
  refine Runs.ends ?_
  refine runs_by (tbl := []) (by simp) 0 0 (af := a16) rfl ?_
  rw [a16, b16, run_eq]
  refine ⟨by simp, ?_⟩
  have e1 : IntKind.i64.wrap (o : Int) = o := wrap_i64 (by omega) (by omega)
  have e2 : ¬ 29 ≤ (o : Int) := by omega
  have e3 : (o : Int) < 29 := by omega
  have hk := FT_at o ho
  unfold FT formC at hk
  have e4 : o * 5 ≤ 140 := by omega
  have e5 : min 5 (145 - o * 5) = 5 := by omega
  simp (implicitDefEqProofs := false) [e1, e2, e3, ho, hk, e4, e5]
  refine ends_plan [] [] ?_ ?_ ?_ <;> simp [formC]
set_option maxRecDepth 100000 in
set_option maxHeartbeats 4000000 in
theorem runs_of_none (o : Nat) (ho : 29 ≤ o) (h2 : o < 256) : Runs Tryd.prog cfg 16 [.int .u8 o] (AH.of [])
    fun r H' => r = .ret (.agg (formC o).toArray) ∧ H' = AH.of [] := by
  refine Runs.ends ?_
  refine runs_by (tbl := []) (by simp) 0 0 (af := a16) rfl ?_
  rw [a16, b16, run_eq]
  refine ⟨by simp, ?_⟩
  have e1 : IntKind.i64.wrap (o : Int) = o := wrap_i64 (by omega) (by omega)
  have e2 : 29 ≤ (o : Int) := by omega
  have hf : formC o = [.string ⟨#[]⟩, .bool false, .bool false, .int .i64 0, .int .i64 0] := by
    have w : wordL[o]? = none := List.getElem?_eq_none (by simpa [wordL] using ho)
    have p1 : popsL[o]? = none := List.getElem?_eq_none (by simpa [popsL] using ho)
    have p2 : pushL[o]? = none := List.getElem?_eq_none (by simpa [pushL] using ho)
    have a1 : usesA o = false := by simp [usesA]; omega
    have a2 : usesV o = false := by simp [usesV]; omega
    simp [formC, wordO, popsO, pushO, w, p1, p2, a1, a2]
  simp (implicitDefEqProofs := false) [e1, e2]
  refine ends_plan [] [] ?_ ?_ ?_ <;> simp [hf]
def p16 : PStep
  | [.int .u8 o] => some (0 ≤ o ∧ o < 256, .agg #[.string (wordO o.toNat), .bool (usesA o.toNat), .bool (usesV o.toNat), .int .i64 (popsO o.toNat), .int .i64 (pushO o.toNat)])
  | _ => none
abbrev st16 := pureStep p16
theorem st16_ok : CStepOk Tryd.prog cfg 16 st16 := pure_ok fun args p v h hp => by
  unfold p16 at h
  split at h
  · cases h
    rename_i o
    have e : o = (o.toNat : Int) := by omega
    refine ⟨rfl, rfl, ?_⟩
    by_cases hl : o.toNat < 29
    · have := runs16 o.toNat hl
      rw [← e] at this; exact this
    · have := runs_of_none o.toNat (by omega) (by omega)
      rw [← e] at this; exact this
  · cases h
end YteegnbbblcokdaaDoor
end Go.Proofs
/-
  CODE: which instructions are right; what they use, and do.
-/
set_option linter.unusedSimpArgs false
set_option linter.unusedVariables false
set_option linter.unnecessarySimpa false
set_option linter.unusedSectionVars false
namespace Go.Proofs
namespace YteegnbbblcokdaaDoor
open Go.Abs
set_option linter.unusedSimpArgs false

structure Ins where
  o : Int
  a : Int
  v : Int
  deriving DecidableEq
def Ins.cells (i : Ins) : List Value := [.int .u8 i.o, .int .i64 i.a, .int .u64 i.v]
def Ins.Ok (i : Ins) : Prop := (0 ≤ i.o ∧ i.o < 256) ∧ (0 ≤ i.v ∧ i.v < 18446744073709551616)
def limitO (o : Int) : Int := if o = 2 ∨ o = 3 then 4 else if o = 4 ∨ o = 5 ∨ o = 6 ∨ o = 7 then 12 else 64
def rightI (i : Ins) : Bool := decide (i.o < 29 ∧ (usesA i.o.toNat = true ∨ i.a = 0) ∧ (usesV i.o.toNat = true ∨ i.v = 0) ∧ 0 ≤ i.a ∧ i.a < limitO i.o ∧ rightB i.v = true)
def p33 : PStep
  | [.int .u8 o] => some (True, .int .i64 (limitO o))
  | _ => none
abbrev st33 := pureStep p33
theorem st33_ok : CStepOk Tryd.prog cfg 33 st33 := pure_ok fun args p v h hp => by
  unfold p33 at h
  split at h
  case h_2 => cases h
  rename_i o
  cases h
  refine ⟨rfl, rfl, ?_⟩
  refine Runs.ends ?_
  refine runs_by (tbl := []) (by simp) 0 0 (af := a33) rfl ?_
  rw [a33, b33, run_eq]
  refine ⟨by simp, ?_⟩
  simp (implicitDefEqProofs := false)
  repeat' (first | with_reducible apply And.intro | with_reducible intro _)
  all_goals (refine ends_plan [] [] ?_ ?_ ?_ <;> simp [limitO, *] <;> omega)
def p40 : PStep
  | [.int .u8 o] => some (True, .int .i64 (limitO o))
  | _ => none
abbrev st40 := pureStep p40
theorem st40_ok : CStepOk Tryd.prog cfg 40 st40 := pure_ok fun args p v h hp => by
  unfold p40 at h
  split at h
  case h_2 => cases h
  rename_i o
  cases h
  refine ⟨rfl, rfl, ?_⟩
  refine Runs.ends ?_
  refine runs_by (tbl := []) (by simp) 0 0 (af := a40) rfl ?_
  rw [a40, b40, run_eq]
  refine ⟨by simp, ?_⟩
  simp (implicitDefEqProofs := false)
  repeat' (first | with_reducible apply And.intro | with_reducible intro _)
  all_goals (refine ends_plan [] [] ?_ ?_ ?_ <;> simp [limitO, *] <;> omega)

def tblK : List (FuncId × CStep GD) := [(16, st16), (33, st33), (34, st34)]
theorem tblK_ok : ∀ x ∈ tblK, CStepOk Tryd.prog cfg x.1 x.2 := by simp [tblK, st16_ok, st33_ok, st34_ok]

theorem wordO_nil (o : Nat) : wordO o = ⟨#[]⟩ ↔ 29 ≤ o := by
  constructor
  · intro h
    apply Nat.le_of_not_lt
    intro hl
    revert h
    have : ∀ k < 29, wordO k ≠ ⟨#[]⟩ := by decide
    exact this o hl
  · intro h
    have w : wordL[o]? = none := List.getElem?_eq_none (by simpa [wordL] using h)
    simp [wordO, w]
set_option maxHeartbeats 2000000 in
theorem runs15 (o a v : Int) (ho : 0 ≤ o ∧ o < 256) : Runs Tryd.prog cfg 15 [.agg #[.int .u8 o, .int .i64 a, .int .u64 v]] (AH.of [])
    fun r H' => r = .ret (.bool (rightI ⟨o, a, v⟩)) ∧ H' = AH.of [] := by
  refine Runs.ends ?_
  refine runs_by (tbl := tblK) tblK_ok 0 0 (af := a15) rfl ?_
  rw [a15, b15, run_eq]
  refine ⟨by simp, ?_⟩
  have hn : wordO o.toNat = ⟨#[]⟩ ↔ 29 ≤ o := by rw [wordO_nil]; omega
  simp (implicitDefEqProofs := false) [tblK, pureStep, p16, p33, st34, ho, hn]
  repeat' (first | with_reducible apply And.intro | with_reducible intro _)
  all_goals (refine ends_plan [] [] ?_ ?_ ?_ <;> simp [rightI, *] <;> omega)
def p15 : PStep
  | [.agg ⟨[.int .u8 o, .int .i64 a, .int .u64 v]⟩] => some (0 ≤ o ∧ o < 256, .bool (rightI ⟨o, a, v⟩))
  | _ => none
abbrev st15 := pureStep p15
theorem st15_ok : CStepOk Tryd.prog cfg 15 st15 := pure_ok fun args p v h hp => by
  unfold p15 at h
  split at h
  · cases h; exact ⟨rfl, rfl, runs15 _ _ _ hp⟩
  · cases h

/-! ### Uses, Effect, Word of the program -/
def p31 : PStep
  | [.int .u8 o] => some (0 ≤ o ∧ o < 256, .tuple #[.int .i64 (popsO o.toNat), .int .i64 (pushO o.toNat)])
  | _ => none
abbrev st31 := pureStep p31
theorem st31_ok : CStepOk Tryd.prog cfg 31 st31 := pure_ok fun args p v h hp => by
  unfold p31 at h
  split at h
  case h_2 => cases h
  rename_i o
  cases h
  refine ⟨rfl, rfl, ?_⟩
  refine Runs.ends ?_
  refine runs_by (tbl := tblK) tblK_ok 0 0 (af := a31) rfl ?_
  rw [a31, b31, run_eq]
  refine ⟨by simp, ?_⟩
  simp (implicitDefEqProofs := false) [tblK, pureStep, p16, hp]
  refine ends_plan [] [] ?_ ?_ ?_ <;> simp
def p52 : PStep
  | [.int .u8 o] => some (0 ≤ o ∧ o < 256, .string (wordO o.toNat))
  | _ => none
abbrev st52 := pureStep p52
theorem st52_ok : CStepOk Tryd.prog cfg 52 st52 := pure_ok fun args p v h hp => by
  unfold p52 at h
  split at h
  case h_2 => cases h
  rename_i o
  cases h
  refine ⟨rfl, rfl, ?_⟩
  refine Runs.ends ?_
  refine runs_by (tbl := tblK) tblK_ok 0 0 (af := a52) rfl ?_
  rw [a52, b52, run_eq]
  refine ⟨by simp, ?_⟩
  simp (implicitDefEqProofs := false) [tblK, pureStep, p16, hp]
  refine ends_plan [] [] ?_ ?_ ?_ <;> simp
end YteegnbbblcokdaaDoor
end Go.Proofs
/-
  CODE: the reference: Uses, Effect, Right, Word.
-/
set_option linter.unusedSimpArgs false
set_option linter.unusedVariables false
set_option linter.unnecessarySimpa false
set_option linter.unusedSectionVars false
namespace Go.Proofs
namespace YteegnbbblcokdaaDoor
open Go.Abs
set_option linter.unusedSimpArgs false

theorem form_none {o : Nat} (ho : 29 ≤ o) : usesA o = false ∧ usesV o = false ∧ popsO o = 0 ∧ pushO o = 0 := by
  have p1 : popsL[o]? = none := List.getElem?_eq_none (by simpa [popsL] using ho)
  have p2 : pushL[o]? = none := List.getElem?_eq_none (by simpa [pushL] using ho)
  have a1 : usesA o = false := by simp [usesA]; omega
  have a2 : usesV o = false := by simp [usesV]; omega
  exact ⟨a1, a2, by simp [popsO, p1], by simp [pushO, p2]⟩
def p21 : PStep
  | [.int .u8 o] => some (0 ≤ o ∧ o < 256, .tuple #[.bool (usesA o.toNat), .bool (usesV o.toNat)])
  | _ => none
abbrev st21 := pureStep p21
set_option maxHeartbeats 8000000 in
theorem st21_ok : CStepOk Tryd.prog cfg 21 st21 := pure_ok fun args p v h hp => by
  unfold p21 at h
  split at h
  case h_2 => cases h
  rename_i o
  cases h
  refine ⟨rfl, rfl, ?_⟩
  refine Runs.ends ?_
  refine runs_by (tbl := []) (by simp) 0 0 (af := a21) rfl ?_
  rw [a21, b21, run_eq]
  refine ⟨by simp, ?_⟩
  by_cases h29 : 29 ≤ o
  · have hne : ∀ k, k < 29 → ¬ o = k := fun k hk e => by omega
    have hf := form_none (o := o.toNat) (by omega)
    simp (implicitDefEqProofs := false) [hne, h29]
    refine ends_plan [] [] ?_ ?_ ?_ <;> simp [hf.1, hf.2.1, hf.2.2.1, hf.2.2.2]
  · obtain rfl | rfl | rfl | rfl | rfl | rfl | rfl | rfl | rfl | rfl | rfl | rfl | rfl | rfl | rfl | rfl | rfl | rfl | rfl | rfl | rfl | rfl | rfl | rfl | rfl | rfl | rfl | rfl | rfl : o = 0 ∨ o = 1 ∨ o = 2 ∨ o = 3 ∨ o = 4 ∨ o = 5 ∨ o = 6 ∨ o = 7 ∨ o = 8 ∨ o = 9 ∨ o = 10 ∨ o = 11 ∨ o = 12 ∨ o = 13 ∨ o = 14 ∨ o = 15 ∨ o = 16 ∨ o = 17 ∨ o = 18 ∨ o = 19 ∨ o = 20 ∨ o = 21 ∨ o = 22 ∨ o = 23 ∨ o = 24 ∨ o = 25 ∨ o = 26 ∨ o = 27 ∨ o = 28 := by omega
    all_goals
      simp (implicitDefEqProofs := false)
      refine ends_plan [] [] ?_ ?_ ?_ <;> simp [usesA, usesV]
theorem limit_pos (o : Int) : 0 < limitO o := by
  unfold limitO
  split
  · decide
  · split <;> decide
def tblKR : List (FuncId × CStep GD) := [(21, st21), (40, st40), (41, st41)]
theorem tblKR_ok : ∀ x ∈ tblKR, CStepOk Tryd.prog cfg x.1 x.2 := by simp [tblKR, st21_ok, st40_ok, st41_ok]
set_option maxHeartbeats 2000000 in
theorem runs20 (o a v : Int) (ho : 0 ≤ o ∧ o < 256) (hv : 0 ≤ v ∧ v < 18446744073709551616) : Runs Tryd.prog cfg 20 [.agg #[.int .u8 o, .int .i64 a, .int .u64 v]] (AH.of [])
    fun r H' => r = .ret (.bool (rightI ⟨o, a, v⟩)) ∧ H' = AH.of [] := by
  refine Runs.ends ?_
  refine runs_by (tbl := tblKR) tblKR_ok 0 0 (af := a20) rfl ?_
  rw [a20, b20, run_eq]
  refine ⟨by simp, ?_⟩
  simp (implicitDefEqProofs := false) [tblKR, pureStep, p21, p40, st41, ho, hv.1, hv.2]
  repeat' (first | with_reducible apply And.intro | with_reducible intro _)
  all_goals (refine ends_plan [] [] ?_ ?_ ?_ <;> simp [rightI, *] <;> first | omega | (have h1 : o < 29 := (by omega); have h2 : 0 < limitO o := limit_pos o; simp [h1, h2]))
def p20 : PStep
  | [.agg ⟨[.int .u8 o, .int .i64 a, .int .u64 v]⟩] => some ((0 ≤ o ∧ o < 256) ∧ (0 ≤ v ∧ v < 18446744073709551616), .bool (rightI ⟨o, a, v⟩))
  | _ => none
abbrev st20 := pureStep p20
theorem st20_ok : CStepOk Tryd.prog cfg 20 st20 := pure_ok fun args p v h hp => by
  unfold p20 at h
  split at h
  · cases h; exact ⟨rfl, rfl, runs20 _ _ _ hp.1 hp.2⟩
  · cases h
end YteegnbbblcokdaaDoor
end Go.Proofs
/-
  CODE: the reference's Word; ReadWord of both.
-/
set_option linter.unusedSimpArgs false
set_option linter.unusedVariables false
set_option linter.unnecessarySimpa false
set_option linter.unusedSectionVars false
namespace Go.Proofs
namespace YteegnbbblcokdaaDoor
open Go.Abs
set_option linter.unusedSimpArgs false

def WT : List Value := [.string ⟨#[110, 111, 112]⟩, .string ⟨#[112, 117, 115, 104]⟩, .string ⟨#[108, 111, 99, 97, 108]⟩, .string ⟨#[115, 101, 116]⟩, .string ⟨#[103, 101, 116]⟩, .string ⟨#[112, 117, 116]⟩, .string ⟨#[103, 101, 116, 97, 116]⟩, .string ⟨#[112, 117, 116, 97, 116]⟩, .string ⟨#[97, 100, 100]⟩, .string ⟨#[115, 117, 98]⟩, .string ⟨#[109, 117, 108]⟩, .string ⟨#[100, 105, 118]⟩, .string ⟨#[110, 101, 103]⟩, .string ⟨#[108, 101, 115, 115]⟩, .string ⟨#[115, 97, 109, 101]⟩, .string ⟨#[110, 111, 116]⟩, .string ⟨#[100, 117, 112]⟩, .string ⟨#[112, 111, 112]⟩, .string ⟨#[115, 119, 97, 112]⟩, .string ⟨#[106, 117, 109, 112]⟩, .string ⟨#[122, 101, 114, 111]⟩, .string ⟨#[97, 116, 111, 109, 105, 99]⟩, .string ⟨#[101, 110, 100]⟩, .string ⟨#[111, 114, 101, 108, 115, 101]⟩, .string ⟨#[101, 108, 115, 101]⟩, .string ⟨#[101, 110, 100, 111, 114]⟩, .string ⟨#[114, 101, 116, 114, 121]⟩, .string ⟨#[111, 117, 116]⟩, .string ⟨#[104, 97, 108, 116]⟩]
theorem WT_at : ∀ o, o < 29 → WT[o]? = some (.string (wordO o))
  | 0, _ => rfl
  | 1, _ => rfl
  | 2, _ => rfl
  | 3, _ => rfl
  | 4, _ => rfl
  | 5, _ => rfl
  | 6, _ => rfl
  | 7, _ => rfl
  | 8, _ => rfl
  | 9, _ => rfl
  | 10, _ => rfl
  | 11, _ => rfl
  | 12, _ => rfl
  | 13, _ => rfl
  | 14, _ => rfl
  | 15, _ => rfl
  | 16, _ => rfl
  | 17, _ => rfl
  | 18, _ => rfl
  | 19, _ => rfl
  | 20, _ => rfl
  | 21, _ => rfl
  | 22, _ => rfl
  | 23, _ => rfl
  | 24, _ => rfl
  | 25, _ => rfl
  | 26, _ => rfl
  | 27, _ => rfl
  | 28, _ => rfl
  | n + 29, h => by omega
set_option maxRecDepth 100000 in
set_option maxHeartbeats 400000 in
theorem runs22 (o : Nat) (ho : o < 256) : Runs Tryd.prog cfg 22 [.int .u8 o] (AH.of [])
    fun r H' => r = .ret (.string (wordO o)) ∧ H' = AH.of [] := by
  refine Runs.ends ?_
  have e1 : IntKind.i64.wrap (o : Int) = o := wrap_i64 (by omega) (by omega)
  by_cases h29 : o < 29
  · have e2 : ¬ 29 ≤ (o : Int) := by omega
    have e3 : (o : Int) < 29 := by omega
    have hk := WT_at o h29
    unfold WT at hk
    refine runs_by (tbl := []) (by simp) 0 0 (af := a22) rfl ?_
    rw [a22, b22, run_eq]
    refine ⟨by simp, ?_⟩
    simp (implicitDefEqProofs := false) [e1, e2, e3]
    simp (implicitDefEqProofs := false) only [hk]
    simp (implicitDefEqProofs := false)
    refine ends_plan [] [] ?_ ?_ ?_ <;> simp
  · have e2 : 29 ≤ (o : Int) := by omega
    have w : wordL[o]? = none := List.getElem?_eq_none (by simpa [wordL] using h29)
    refine runs_by (tbl := []) (by simp) 0 0 (af := a22) rfl ?_
    rw [a22, b22, run_eq]
    refine ⟨by simp, ?_⟩
    simp (implicitDefEqProofs := false) [e1, e2]
    refine ends_plan [] [] ?_ ?_ ?_ <;> simp [wordO, w]
end YteegnbbblcokdaaDoor
end Go.Proofs
/-
  CODE: the operation of a word.
-/
set_option linter.unusedSimpArgs false
set_option linter.unusedVariables false
set_option linter.unnecessarySimpa false
set_option linter.unusedSectionVars false
namespace Go.Proofs
namespace YteegnbbblcokdaaDoor
open Go.Abs
set_option linter.unusedSimpArgs false

def readL (s : ByteArray) (l : List Nat) : Option Nat := l.find? fun o => decide (wordO o = s)
def readW (s : ByteArray) : Option Nat := readL s (List.range 29)
def p22 : PStep
  | [.int .u8 o] => some (0 ≤ o ∧ o < 256, .string (wordO o.toNat))
  | _ => none
abbrev st22 := pureStep p22
theorem st22_ok : CStepOk Tryd.prog cfg 22 st22 := pure_ok fun args p v h hp => by
  unfold p22 at h
  split at h
  · cases h
    rename_i o
    have e : o = (o.toNat : Int) := by omega
    have := runs22 o.toNat (by omega)
    rw [← e] at this
    exact ⟨rfl, rfl, this⟩
  · cases h

theorem readL_succ (s : ByteArray) (n : Nat) : readL s (List.range (n + 1)) = (readL s (List.range n)).or (if wordO n = s then some n else none) := by
  unfold readL
  rw [List.range_succ, List.find?_append]
  simp [List.find?_cons]
  split <;> simp_all
set_option maxHeartbeats 1000000 in
theorem runs29 (s : ByteArray) : Runs Tryd.prog cfg 29 [.string s] (AH.of [])
    fun r H' => r = .ret (.tuple #[.int .u8 ((readW s).getD 0 : Nat), .bool (readW s).isSome]) ∧ H' = AH.of [] := by
  refine Runs.ends ?_
  have ok : ∀ x ∈ [(22, st22)], CStepOk Tryd.prog cfg x.1 x.2 := by simp [st22_ok]
  refine runs_by (tbl := [(22, st22)]) ok 30 0 (af := a29) rfl ?_
  rw [a29, b29, run_eq]
  refine ⟨by simp, ?_⟩
  simp (implicitDefEqProofs := false)
  refine loop_inv (sg_mono gX_ok (tabS_ok ok) _ _ noY noY_mono) (fun m tm H => ∃ i : Nat, m + i = 29 ∧ readL s (List.range i) = none ∧ tm 0 = .string s ∧ tm 4 = .int .u8 i ∧ H = AH.of []) (m := 29) ⟨0, by simp [readL]⟩ (by omega) ?_
  rintro m tm H ⟨i, hm, hno, t0, t4, rfl⟩
  have hs := readL_succ s i
  rw [hno] at hs
  by_cases hi : i < 29
  · have hi' : (i : Int) ≤ 28 := by omega
    have h1 : (0 : Int) ≤ i ∧ (i : Int) < 256 := by omega
    have hw : IntKind.u8.wrap ((i : Int) + 1) = ((i + 1 : Nat) : Int) := by
      simp [IntKind.wrap, IntKind.bits, IntKind.signed]; omega
    simp (implicitDefEqProofs := false) [pureStep, p22, t0, t4, hi', h1, hw]
    refine ⟨fun he => ?_, fun he => ?_⟩
    · have hr : readW s = some i := by
        have h2 : readL s (List.range (i + 1)) = some i := by rw [hs, if_pos he]; rfl
        have h3 : ∀ k, readL s (List.range (i + 1 + k)) = some i := by
          intro k
          induction k with
          | zero => exact h2
          | succ k ih => rw [← Nat.add_assoc, readL_succ, ih]; rfl
        have := h3 (28 - i)
        rwa [show i + 1 + (28 - i) = 29 by omega] at this
      refine ends_plan [] [] ?_ ?_ ?_ <;> simp [hr]
    · rw [if_neg he] at hs
      exact ⟨m - 1, by omega, i + 1, by omega, by simpa using hs, by omega⟩
  · have hi' : ¬ (i : Int) ≤ 28 := by omega
    have hil : i = 29 := by omega
    subst hil
    have hr : readW s = none := hno
    simp (implicitDefEqProofs := false) [t0, t4]
    refine ends_plan [] [] ?_ ?_ ?_ <;> simp [hr]
def p29 : PStep
  | [.string s] => some (True, .tuple #[.int .u8 ((readW s).getD 0 : Nat), .bool (readW s).isSome])
  | _ => none
abbrev st29 := pureStep p29
theorem st29_ok : CStepOk Tryd.prog cfg 29 st29 := pure_ok fun args p v h hp => by
  unfold p29 at h
  split at h
  · cases h; exact ⟨rfl, rfl, runs29 _⟩
  · cases h

/-! ### words, ReadWord of the program -/
def went (o : Nat) : MapEntry := ⟨.string (wordO o), .int .u8 o, o⟩
theorem find_words (s : ByteArray) : ∀ l : List Nat, findIn true (.string s) (l.map went) = some ((readL s l).map fun o : Nat => Value.int .u8 o)
  | [] => rfl
  | o :: l => by
    have ih := find_words s l
    have hk : sameK true (.string s) (went o).key = some (decide (s = wordO o)) := sameK_s _ _
    rw [List.map_cons, findIn, hk]
    by_cases h : s = wordO o
    · have h2 : wordO o = s := h.symm
      simp [h, readL, went]
    · have h2 : ¬ wordO o = s := fun e => h e.symm
      simp only [h, decide_false]
      rw [ih]
      simp [readL, List.find?_cons, h2]
theorem words_unlike : ∀ n, n < 29 → readL (wordO n) (List.range n) = none := by decide
def wents (n : Nat) : List MapEntry := (List.range n).map went
theorem wents_succ (n : Nat) : wents (n + 1) = wents n ++ [⟨.string (wordO n), .int .u8 n, n⟩] := by simp [wents, List.range_succ, went]
theorem put_words {n : Nat} (h : n < 29) : putIn true (.string (wordO n)) (.int .u8 n) n (wents n) = some (wents n ++ [⟨.string (wordO n), .int .u8 n, n⟩], n + 1) :=
  put_new (by rw [wents, find_words, words_unlike n h]; rfl)
theorem ren_wents (θ : Nat → Nat) (n : Nat) : (wents n).map (fun e => (⟨ren θ e.key, ren θ e.val, e.born⟩ : MapEntry)) = wents n := by
  simp only [wents, List.map_map]
  exact List.map_congr_left fun o _ => rfl
set_option maxHeartbeats 1000000 in
theorem runs44 : Runs Tryd.prog cfg 44 [] (AH.of [])
    fun r H' => r = .ret (.map (some 0)) ∧ H' = AH.of [some (.map (wents 29) 29)] := by
  refine Runs.ends ?_
  have ok : ∀ x ∈ [(52, st52)], CStepOk Tryd.prog cfg x.1 x.2 := by simp [st52_ok]
  refine runs_by (tbl := [(52, st52)]) ok 30 0 (af := a44) rfl ?_
  rw [a44, b44, run_eq]
  refine ⟨by simp, ?_⟩
  simp (implicitDefEqProofs := false)
  refine loop_inv (sg_mono gX_ok (tabS_ok ok) _ _ noY noY_mono) (fun m tm H => ∃ i : Nat, m + i = 29 ∧ tm 1 = .map (some 0) ∧ tm 2 = .int .u8 i ∧ H = AH.of [some (.map (wents i) i)]) (m := 29) ⟨0, by simp [wents]⟩ (by omega) ?_
  rintro m tm H ⟨i, hm, t1, t2, rfl⟩
  by_cases hi : i < 29
  · have hi' : (i : Int) ≤ 28 := by omega
    have h1 : (0 : Int) ≤ i ∧ (i : Int) < 256 := by omega
    have hw : IntKind.u8.wrap ((i : Int) + 1) = ((i + 1 : Nat) : Int) := by
      simp [IntKind.wrap, IntKind.bits, IntKind.signed]; omega
    have hp := put_words hi
    simp (implicitDefEqProofs := false) [pureStep, p52, t1, t2, hi', h1, hw, hp]
    exact ⟨m - 1, by omega, i + 1, by omega, by omega, by rw [wents_succ]⟩
  · have hi' : ¬ (i : Int) ≤ 28 := by omega
    have hil : i = 29 := by omega
    subst hil
    simp (implicitDefEqProofs := false) [t1, t2]
    refine ends_plan [] [0] ?_ ?_ ?_ <;> simp [ren_wents]
def st44 : CStep GD := fun args H => match args with
  | [] => some (True, .ret (.map (some H.next)), H.add (.map (wents 29) 29))
  | _ => none
theorem st44_ok : CStepOk Tryd.prog cfg 44 st44 := by
  intro args H p r H' h hp
  unfold st44 at h
  split at h
  case h_2 => cases h
  cases h
  exact runs44.atK (ro_none rfl) [] (by simp) (by simp) trivial (by simp) (by simp) (by simp [ren_wents])

def p26 : PStep
  | [.string s] => some (True, .tuple #[.int .u8 ((readW s).getD 0 : Nat), .bool (readW s).isSome])
  | _ => none
abbrev st26 := pureStep p26
theorem st26_ok : CStepOk Tryd.prog cfg 26 st26 := pure_ok fun args p v h hp => by
  unfold p26 at h
  split at h
  case h_2 => cases h
  rename_i s
  cases h
  refine ⟨rfl, rfl, ?_⟩
  refine Runs.ends ?_
  have hf : findIn true (.string s) (wents 29) = some ((readW s).map fun o : Nat => Value.int .u8 o) := find_words s _
  cases hr : readW s with
  | none =>
    rw [hr] at hf
    refine runs_by (tbl := [(44, st44)]) (by simp [st44_ok]) 0 0 (af := a26) rfl ?_
    rw [a26, b26, run_eq]
    refine ⟨by simp, ?_⟩
    simp (implicitDefEqProofs := false) [st44, hf]
    refine ends_plan [] [] ?_ ?_ ?_ <;> simp
  | some o =>
    rw [hr] at hf
    refine runs_by (tbl := [(44, st44)]) (by simp [st44_ok]) 0 0 (af := a26) rfl ?_
    rw [a26, b26, run_eq]
    refine ⟨by simp, ?_⟩
    simp (implicitDefEqProofs := false) [st44, hf]
    refine ends_plan [] [] ?_ ?_ ?_ <;> simp
end YteegnbbblcokdaaDoor
end Go.Proofs
/-
  CODE: the bytes of instructions.
-/
set_option linter.unusedSimpArgs false
set_option linter.unusedVariables false
set_option linter.unnecessarySimpa false
set_option linter.unusedSectionVars false
namespace Go.Proofs
namespace YteegnbbblcokdaaDoor
open Go.Abs
set_option linter.unusedSimpArgs false

theorem wrap_u8 (x : Int) : IntKind.u8.wrap x = x % 256 := by simp [IntKind.wrap, IntKind.bits, IntKind.signed]
def be (v : Int) (k : Nat) : Int := v / 2 ^ (8 * (7 - k)) % 256
def be8 (v : Int) (n : Nat) : List Int := (List.range n).map (be v)
theorem be8_succ (v : Int) (n : Nat) : be8 v (n + 1) = be8 v n ++ [be v n] := by simp [be8, List.range_succ]
def bytesI (i : Ins) : List Int := [i.o] ++ (if usesA i.o.toNat then [i.a] else []) ++ (if usesV i.o.toNat then be8 i.v 8 else [])
def encB (l : List Ins) : List Int := l.flatMap bytesI
def encOk (l : List Ins) : Bool := l.all rightI
def bs (l : List Int) : List Value := l.map fun v => .int .u8 v
theorem bs_length (l : List Int) : (bs l).length = l.length := by simp [bs]
theorem bs_append (a b : List Int) : bs (a ++ b) = bs a ++ bs b := by simp [bs]
theorem bs_single (v : Int) : bs [v] = [.int .u8 v] := rfl
theorem bs_pair (v w : Int) : bs [v, w] = [.int .u8 v, .int .u8 w] := rfl
theorem take_bs (l : List Int) : (bs l).take l.length = bs l := List.take_of_length_le (by simp [bs])
theorem bs_ground (h : List Int) : grounds (bs h) = true := by
  induction h with
  | nil => rfl
  | cons v h ih => show (ground (.int .u8 v) && grounds (bs h)) = true; rw [ih]; rfl
theorem ren_bs (θ : Nat → Nat) (h : List Int) : rens θ (bs h) = bs h := rens_ground θ _ (bs_ground h)
def inss (l : List Ins) : List Value := l.flatMap Ins.cells
theorem inss_cons (d : Ins) (l : List Ins) : inss (d :: l) = .int .u8 d.o :: .int .i64 d.a :: .int .u64 d.v :: inss l := rfl
theorem inss_length (l : List Ins) : (inss l).length = l.length * 3 := by
  induction l with
  | nil => rfl
  | cons e l ih => rw [inss_cons]; simp [ih]; omega
theorem inss_ground (l : List Ins) : grounds (inss l) = true := by
  induction l with
  | nil => rfl
  | cons e l ih => rw [inss_cons]; simpa [grounds, ground] using ih
theorem ren_inss (θ : Nat → Nat) (l : List Ins) : rens θ (inss l) = inss l := rens_ground θ _ (inss_ground l)
attribute [simp] ren_bs ren_inss
theorem many_inss {i : Nat} {x : Ins} : ∀ {l : List Ins}, l[i]? = some x → ((inss l).drop (i * 3)).take 3 = x.cells := by
  induction i with
  | zero =>
    intro l h
    cases l with
    | nil => cases h
    | cons e l => simp at h; subst h; rfl
  | succ i ih =>
    intro l h
    cases l with
    | nil => cases h
    | cons e l =>
      rw [inss_cons]
      have : (i + 1) * 3 = i * 3 + 3 := by omega
      rw [this]
      exact ih (by simpa using h)
theorem bytesI_le (i : Ins) : (bytesI i).length ≤ 10 := by
  unfold bytesI be8
  split <;> split <;> simp
theorem encB_le (l : List Ins) : (encB l).length ≤ 10 * l.length := by
  induction l with
  | nil => simp [encB]
  | cons e l ih =>
    have := bytesI_le e
    simp only [encB, List.flatMap_cons, List.length_append, List.length_cons] at ih ⊢
    omega
theorem encB_succ {l : List Ins} {i : Nat} {x : Ins} (h : l[i]? = some x) : encB (l.take (i + 1)) = encB (l.take i) ++ bytesI x := by
  rw [List.take_add_one, h]
  simp [encB]

def tblE : List (FuncId × CStep GD) := [(15, st15), (16, st16)]
theorem tblE_ok : ∀ x ∈ tblE, CStepOk Tryd.prog cfg x.1 x.2 := by simp [tblE, st15_ok, st16_ok]
def encR (l : List Ins) (k : Nat) : AEnd := if encOk l then .ret (.tuple #[.slice (some ⟨k, 0, none⟩) (encB l).length 1, .int .i64 0]) else .ret (.tuple #[.slice none 0 0, .int .i64 3])
theorem right_arg {i : Ins} (h : rightI i = true) : 0 ≤ i.a ∧ i.a < 64 := by
  have h := of_decide_eq_true h
  have hl : limitO i.o ≤ 64 := by
    unfold limitO
    split
    · decide
    · split <;> decide
  omega
def isB (E : List Int) (o v : Int) (k : Nat) (B : List Int) : Prop := B = E ++ [o] ++ be8 v k
theorem encOk_bad {l : List Ins} {i : Nat} {x : Ins} (h : l[i]? = some x) (hx : rightI x = false) : encOk l = false := by
  unfold encOk
  rw [List.all_eq_false]
  exact ⟨x, List.mem_of_getElem? h, by simp [hx]⟩
set_option maxHeartbeats 4000000 in
theorem runs12 (l : List Ins) (tg : Nat) (hok : ∀ e ∈ l, e.Ok) (n : Nat) (hn : n ≤ l.length) (hl : n ≤ 1000) : Runs Tryd.prog cfg 12 [.slice (some ⟨0, 0, none⟩) n tg] (AH.of [some (.ro (inss l))])
    fun r H' => r = encR (l.take n) 1 ∧ H' = AH.of [some (.ro (inss l)), some (.arr 5 (if encOk (l.take n) then bs (encB (l.take n)) else []))] := by
  refine Runs.ends ?_
  refine runs_by (tbl := tblE) tblE_ok 1001 0 (af := a12) rfl ?_
  rw [a12, b12, run_eq]
  refine ⟨by simp, ?_⟩
  simp (implicitDefEqProofs := false)
  refine loop_view (sg_mono gX_ok (tabS_ok tblE_ok) _ _ noY noY_mono) (fun m tm H => ∃ i : Nat, m + i = n ∧ (∀ j x, j < i → l[j]? = some x → rightI x = true) ∧ tm 4 = .slice (some ⟨1, 0, none⟩) (encB (l.take i)).length 1 ∧ tm 9 = .slice (some ⟨0, 0, none⟩) n tg ∧ tm 10 = .int .i64 n ∧ tm 11 = .int .i64 i ∧
    H = AH.of [some (.ro (inss l)), some (.arr 5 (bs (encB (l.take i))))]) (m := n) ?_ (by omega) ?_
  · refine round_wk [.nil 5] [0, 1] [some (.ro (inss l)), some (.arr 5 (bs []))] [(4, .slice (some ⟨1, 0, none⟩) 0 1)] n (by omega) ?_ ?_ ?_ ⟨0, ?_⟩ <;> simp [encB, bs]
    done
  rintro m tm H ⟨i, hm, hall, t4, t9, t10, t11, rfl⟩
  by_cases hi : i < n
  · obtain ⟨x, hx⟩ : ∃ x, l[i]? = some x := ⟨l[i]'(by omega), List.getElem?_eq_getElem (by omega)⟩
    have hi' : (i : Int) < n := by omega
    have hwr := inc_i64 hi (by omega)
    have r3 := many_inss hx
    have hle : i * 3 + 3 ≤ (inss l).length := by rw [inss_length]; omega
    have hxo : x.Ok := hok x (List.mem_of_getElem? hx)
    have hsuc := encB_succ hx
    have hlen : (encB (l.take i)).length ≤ 10 * i := by
      have := encB_le (l.take i); rw [List.length_take] at this; omega
    have hr3 : ((encB (l.take i)).length + 1) ≤ 140737488355328 ∧ (encB (l.take i)).length ≤ 9223372036854775806 := by omega
    cases hrx : rightI x with
    | false =>
      have hbad : encOk (l.take n) = false := encOk_bad (i := i) (by rw [List.getElem?_take, if_pos hi]; exact hx) hrx
      simp (implicitDefEqProofs := false) [tblE, pureStep, p15, t4, t9, t10, t11, hi, hi', r3, hle, Ins.cells, hxo.1, hrx]
      simp only [encR, hbad]
      refine ends_plan [.nil 5] [0, 3] ?_ ?_ ?_ <;> simp
    | true =>
      have hall' : ∀ j y, j < i + 1 → l[j]? = some y → rightI y = true := fun j y hj hy => by
        by_cases e : j = i
        · subst e; rw [hx] at hy; cases hy; exact hrx
        · exact hall j y (by omega) hy
      cases hV : usesV x.o.toNat with
      | true =>
        have hA : usesA x.o.toNat = false := by
          have : x.o.toNat = 1 := by simpa [usesV] using hV
          rw [this]; decide
        simp (implicitDefEqProofs := false) [tblE, pureStep, p15, p16, t4, t9, t10, t11, hi, hi', r3, hle, Ins.cells, hxo.1, hrx, hA, hV, bs_length, take_bs, hr3]
        have hb : bytesI x = [x.o] ++ be8 x.v 8 := by simp [bytesI, hA, hV]
        have hvv := hxo.2
        refine loop_view (sg_mono gX_ok (tabS_ok tblE_ok) _ _ noY noY_mono) (fun m2 tm H => ∃ k : Nat, m2 + k = 8 ∧ ∃ q : Nat, tm 4 = .slice (some ⟨q, 0, none⟩) ((encB (l.take i)).length + 1 + k) 1 ∧ tm 6 = .pointer (some ⟨2, 0, none⟩) ∧ tm 9 = .slice (some ⟨0, 0, none⟩) n tg ∧ tm 10 = .int .i64 n ∧ tm 11 = .int .i64 i ∧ tm 36 = .int .i64 k ∧
          ∃ B : List Int, isB (encB (l.take i)) x.o x.v k B ∧
          ((q = 5 ∧ H = AH.of [some (.ro (inss l)), none, some (.arr 26 [.int .u8 x.o, .int .i64 x.a, .int .u64 x.v]), none, none, some (.arr 5 (bs B))]) ∨
           (q = 6 ∧ H = AH.of [some (.ro (inss l)), none, some (.arr 26 [.int .u8 x.o, .int .i64 x.a, .int .u64 x.v]), none, none, none, some (.arr 5 (bs B))]))) (m := 8) ?_ (by omega) ?_
        · refine round_plan [] [0, 1, 2, 3, 4, 5] [some (.ro (inss l)), none, some (.arr 26 [.int .u8 x.o, .int .i64 x.a, .int .u64 x.v]), none, none, some (.arr 5 (bs (encB (l.take i) ++ [x.o])))] 8 (by omega) ?_ ?_ ⟨0, by omega, 5, ?_, ?_, ?_, ?_, ?_, ?_, encB (l.take i) ++ [x.o], by simp [isB, be8], .inl ⟨rfl, rfl⟩⟩ <;> simp [t9, t10, t11, be8, bs_append, bs_single]
        rintro m2 tm2 H2 ⟨k, hm2, q, u4, u6, u9, u10, u11, u36, B, hB0, hH⟩
        have hB : B = encB (l.take i) ++ [x.o] ++ be8 x.v k := hB0
        have hlk : (bs B).length = (encB (l.take i)).length + 1 + k := by rw [hB]; simp [bs_length, be8]; omega
        have htk2 : (bs B).take ((encB (l.take i)).length + 1 + k) = bs B := List.take_of_length_le (by omega)
        have hBn : encB (l.take i) ++ [x.o] ++ be8 x.v (k + 1) = B ++ [be x.v k] := by rw [be8_succ, hB]; simp
        by_cases hk8 : k < 8
        · have hk8' : (k : Int) < 8 := by omega
          have hwk := inc_i64 hk8 (by omega)
          have hr4 : (encB (l.take i)).length + 1 + k + 1 ≤ 140737488355328 ∧ (encB (l.take i)).length + 1 + k ≤ 9223372036854775806 := by omega
          have hw7 : IntKind.i64.wrap (7 - (k : Int)) = ((7 - k : Nat) : Int) := by rw [wrap_i64 (by omega) (by omega)]; omega
          have hw8 : IntKind.i64.wrap (8 * ((7 - k : Nat) : Int)) = 8 * ((7 - k : Nat) : Int) := wrap_i64 (by omega) (by omega)
          have hneg : ¬ (8 * ((7 - k : Nat) : Int) < 0) := by omega
          have hsh : min (8 * ((7 - k : Nat) : Int)).toNat 64 = 8 * (7 - k) := by omega
          have hfd := Int.fdiv_eq_ediv_of_nonneg x.v (b := 2 ^ (8 * (7 - k))) (Int.le_of_lt (Int.pow_pos (by omega)))
          have hbe : x.v / 2 ^ (8 * (7 - k)) % 256 = be x.v k := rfl
          rcases hH with ⟨rfl, rfl⟩ | ⟨rfl, rfl⟩
          · simp (implicitDefEqProofs := false) [u4, u6, u9, u10, u11, u36, hk8', hlk, htk2, hr4, hw7, hw8, hneg, hsh, hfd, wrap_u8, hbe, hwk, IntKind.bits]
            refine round_plan [] [0, 1, 2, 3, 4, 5, 7] [some (.ro (inss l)), none, some (.arr 26 [.int .u8 x.o, .int .i64 x.a, .int .u64 x.v]), none, none, none, some (.arr 5 (bs (B ++ [be x.v k])))] (m2 - 1) (by omega) ?_ ?_ ⟨k + 1, by omega, 6, ?_, ?_, ?_, ?_, ?_, ?_, B ++ [be x.v k], hBn.symm, .inr ⟨rfl, rfl⟩⟩ <;> simp [u4, u6, u9, u10, u11, u36, bs_append, bs_single] <;> omega
          · simp (implicitDefEqProofs := false) [u4, u6, u9, u10, u11, u36, hk8', hlk, htk2, hr4, hw7, hw8, hneg, hsh, hfd, wrap_u8, hbe, hwk, IntKind.bits]
            refine round_plan [] [0, 1, 2, 3, 4, 5, 8] [some (.ro (inss l)), none, some (.arr 26 [.int .u8 x.o, .int .i64 x.a, .int .u64 x.v]), none, none, none, some (.arr 5 (bs (B ++ [be x.v k])))] (m2 - 1) (by omega) ?_ ?_ ⟨k + 1, by omega, 6, ?_, ?_, ?_, ?_, ?_, ?_, B ++ [be x.v k], hBn.symm, .inr ⟨rfl, rfl⟩⟩ <;> simp [u4, u6, u9, u10, u11, u36, bs_append, bs_single] <;> omega
        · have hk8' : ¬ (k : Int) < 8 := by omega
          have hke : k = 8 := by omega
          subst hke
          have hBe : B = encB (l.take (i + 1)) := by rw [hB, hsuc, hb]; simp
          have hl2 : (encB (l.take i)).length + 1 + 8 = (encB (l.take (i + 1))).length := by rw [hsuc, hb]; simp [be8]
          rcases hH with ⟨rfl, rfl⟩ | ⟨rfl, rfl⟩
          · simp (implicitDefEqProofs := false) [u4, u6, u9, u10, u11, u36, hwr]
            refine round_plan [] [0, 5] [some (.ro (inss l)), some (.arr 5 (bs (encB (l.take (i + 1)))))] (m - 1) (by omega) ?_ ?_ ⟨i + 1, by omega, hall', ?_⟩ <;> simp [u4, u6, u9, u10, u11, hBe, hl2]
          · simp (implicitDefEqProofs := false) [u4, u6, u9, u10, u11, u36, hwr]
            refine round_plan [] [0, 6] [some (.ro (inss l)), some (.arr 5 (bs (encB (l.take (i + 1)))))] (m - 1) (by omega) ?_ ?_ ⟨i + 1, by omega, hall', ?_⟩ <;> simp [u4, u6, u9, u10, u11, hBe, hl2]
      | false =>
        cases hA : usesA x.o.toNat with
        | true =>
          have hb : bytesI x = [x.o, x.a] := by simp [bytesI, hA, hV]
          have hwa : IntKind.u8.wrap x.a = x.a := by have := right_arg hrx; rw [wrap_u8]; omega
          have hr5 : (encB (l.take i)).length + 1 + 1 ≤ 140737488355328 ∧ (encB (l.take i)).length + 1 ≤ 9223372036854775806 := by omega
          have htk3 : (bs (encB (l.take i)) ++ [Value.int .u8 x.o]).take ((encB (l.take i)).length + 1) = bs (encB (l.take i)) ++ [Value.int .u8 x.o] := List.take_of_length_le (by simp [bs_length])
          simp (implicitDefEqProofs := false) [tblE, pureStep, p15, p16, t4, t9, t10, t11, hi, hi', r3, hle, Ins.cells, hxo.1, hrx, hA, hV, bs_length, take_bs, hr3, hr5, htk3, hwa, hwr]
          refine ⟨by omega, ?_⟩
          refine round_plan [] [0, 7] [some (.ro (inss l)), some (.arr 5 (bs (encB (l.take (i + 1)))))] (m - 1) (by omega) ?_ ?_ ⟨i + 1, by omega, hall', ?_⟩ <;> simp [t4, t9, t10, t11, hsuc, hb, bs_append, bs_pair]
        | false =>
          have hb : bytesI x = [x.o] := by simp [bytesI, hA, hV]
          simp (implicitDefEqProofs := false) [tblE, pureStep, p15, p16, t4, t9, t10, t11, hi, hi', r3, hle, Ins.cells, hxo.1, hrx, hA, hV, bs_length, take_bs, hr3, hwr]
          refine round_plan [] [0, 5] [some (.ro (inss l)), some (.arr 5 (bs (encB (l.take (i + 1)))))] (m - 1) (by omega) ?_ ?_ ⟨i + 1, by omega, hall', ?_⟩ <;> simp [t4, t9, t10, t11, hsuc, hb, bs_append, bs_single]
  · have hi' : ¬ (i : Int) < n := by omega
    have hil : l.take i = l.take n := by congr 1; omega
    have hok2 : encOk (l.take n) = true := by
      unfold encOk
      rw [List.all_eq_true]
      intro x hx
      obtain ⟨j, hj⟩ := List.getElem?_of_mem hx
      rw [List.getElem?_take] at hj
      split at hj
      · exact hall j x (by omega) hj
      · cases hj
    simp (implicitDefEqProofs := false) [t4, t9, t10, t11, hi', hil]
    simp only [encR, hok2]
    refine ends_plan [] [0, 1] ?_ ?_ ?_ <;> simp

/-! As a contract: over a row of one's own, or one that nobody writes. -/
def asInss : List Value → Option (List Ins)
  | [] => some []
  | .int .u8 o :: .int .i64 a :: .int .u64 v :: l => (asInss l).map (⟨o, a, v⟩ :: ·)
  | _ => none
theorem asInss_inss : ∀ l : List Ins, asInss (inss l) = some l
  | [] => rfl
  | e :: l => by
    show (asInss (inss l)).map (_ :: ·) = _
    rw [asInss_inss l]; rfl
theorem asInss_inv : ∀ {cs : List Value} {l : List Ins}, asInss cs = some l → cs = inss l
  | cs, l, e => by
    unfold asInss at e
    split at e
    · cases e; rfl
    · simp only [Option.map_eq_some_iff] at e
      obtain ⟨l', e1, rfl⟩ := e
      rw [asInss_inv e1]; rfl
    · cases e
attribute [simp] asInss_inss
end YteegnbbblcokdaaDoor
end Go.Proofs
/-
  CODE: Encode as a contract.
-/
set_option linter.unusedSimpArgs false
set_option linter.unusedVariables false
set_option linter.unnecessarySimpa false
set_option linter.unusedSectionVars false
namespace Go.Proofs
namespace YteegnbbblcokdaaDoor
open Go.Abs
set_option linter.unusedSimpArgs false

theorem renE_encR (θ : Nat → Nat) (l : List Ins) (k : Nat) : renE θ (encR l k) = encR l (θ k) := by
  unfold encR
  split
  · rw [renE_ret]; simp [ren]
  · rw [renE_ret]; simp [ren]
def encO (l : List Ins) : AObj GD := .arr 5 (if encOk l then bs (encB l) else [])
theorem ren_encO (θ : Nat → Nat) (l : List Ins) : (encO l).ren θ = encO l := by
  unfold encO
  split
  · rw [ren_arr, ren_bs]
  · rfl
theorem encode_ro {H : AH GD} {k tg : Nat} {l : List Ins} (hk : H.get k = some (.ro (inss l))) (hok : ∀ e ∈ l, e.Ok) {n : Nat} (hn : n ≤ l.length) (hl : n ≤ 1000) :
    Runs Tryd.prog cfg 12 [.slice (some ⟨k, 0, none⟩) n tg] H fun r H' => r = encR (l.take n) H.next ∧ H' = H.add (encO (l.take n)) :=
  (runs12 l tg hok n hn hl).atK (ro_same fun i cs hi => by rcases i with _ | _ | i <;> simp at hi ⊢; exact hi) [k] (by simp) (by simp) (by simp [hk]) (by simp) (by rw [renE_encR]; simp [sh]) (by
    have := ren_encO (sh 1 H.next [k]) (l.take n)
    unfold encO at this ⊢
    simp [upd_get hk, this])
theorem encode_arr {H : AH GD} {k tg : Nat} {e : TypeId} {l : List Ins} (hk : H.get k = some (.arr e (inss l))) (hkn : k < H.next) (hok : ∀ e ∈ l, e.Ok) {n : Nat} (hn : n ≤ l.length) (hl : n ≤ 1000) :
    Runs Tryd.prog cfg 12 [.slice (some ⟨k, 0, none⟩) n tg] H fun r H' => r = encR (l.take n) H.next ∧ H' = H.add (encO (l.take n)) := by
  refine Runs.borrow k hk ((encode_ro (H := H.upd k (.ro (inss l))) (by rw [AH.get_upd, if_pos rfl]) hok hn hl).mono ?_)
  rintro r H' ⟨h1, rfl⟩
  refine ⟨by rw [AH.get_add, AH.next_upd, if_neg (by omega), AH.get_upd, if_pos rfl], fun j cs2 hj hcs hne => ⟨cs2, ?_, hne⟩, by rw [h1, AH.next_upd], ?_⟩
  · rw [AH.get_add, AH.next_upd] at hcs
    split at hcs
    · unfold encO at hcs; cases hcs
    · rw [AH.get_upd, if_neg hj] at hcs; exact hcs
  · refine AH.ext' (by simp) fun j => ?_
    rw [AH.get_upd, AH.get_add, AH.get_add, AH.next_upd, AH.get_upd]
    by_cases h : j = k
    · subst h; rw [if_pos rfl, if_neg (by omega), hk]
    · rw [if_neg h, if_neg h]
def st12 : CStep GD := fun args H => match args with
  | [.slice (some ⟨k, 0, none⟩) n tg] => match H.get k with
    | some (.ro cs) => (asInss cs).map fun l => (n ≤ l.length ∧ (∀ e ∈ l, e.Ok) ∧ n ≤ 1000, encR (l.take n) H.next, H.add (encO (l.take n)))
    | some (.arr e cs) => (asInss cs).map fun l => (k < H.next ∧ n ≤ l.length ∧ (∀ e ∈ l, e.Ok) ∧ n ≤ 1000, encR (l.take n) H.next, H.add (encO (l.take n)))
    | _ => none
  | _ => none
theorem st12_ok : CStepOk Tryd.prog cfg 12 st12 := by
  intro args H p r H' h hp
  unfold st12 at h
  split at h
  case h_2 => cases h
  split at h
  · simp only [Option.map_eq_some_iff] at h
    obtain ⟨l, hl, h⟩ := h
    rename_i k n tg x cs hk
    cases h
    rw [asInss_inv hl] at hk
    obtain ⟨h1, h2, h3⟩ := hp
    exact encode_ro hk h2 h1 h3
  · simp only [Option.map_eq_some_iff] at h
    obtain ⟨l, hl, h⟩ := h
    rename_i k n tg x e cs hk
    cases h
    rw [asInss_inv hl] at hk
    obtain ⟨h0, h1, h2, h3⟩ := hp
    exact encode_arr hk h0 h2 h1 h3
  · cases h
end YteegnbbblcokdaaDoor
end Go.Proofs
/-
  CODE: the reference's Encode.
-/
set_option linter.unusedSimpArgs false
set_option linter.unusedVariables false
set_option linter.unnecessarySimpa false
set_option linter.unusedSectionVars false
namespace Go.Proofs
namespace YteegnbbblcokdaaDoor
open Go.Abs
set_option linter.unusedSimpArgs false

theorem inss_at {l : List Ins} {i : Nat} {x : Ins} (h : l[i]? = some x) : (inss l)[i * 3]? = some (.int .u8 x.o) ∧ (inss l)[i * 3 + 1]? = some (.int .i64 x.a) ∧ (inss l)[i * 3 + 2]? = some (.int .u64 x.v) := by
  have h3 := many_inss h
  have g : ∀ j, j < 3 → (inss l)[i * 3 + j]? = x.cells[j]? := fun j hj => by
    rw [← h3, List.getElem?_take, if_pos hj, List.getElem?_drop]
  exact ⟨g 0 (by omega), g 1 (by omega), g 2 (by omega)⟩
def dv (v : Int) (j : Nat) : Int := v / 256 ^ j
theorem dv_succ (v : Int) (j : Nat) : dv v j / 256 = dv v (j + 1) := by
  unfold dv
  rw [Int.ediv_ediv_of_nonneg (Int.le_of_lt (Int.pow_pos (by omega))), Int.pow_succ]
theorem dv_be (v : Int) {k : Nat} : dv v (7 - k) % 256 = be v k := by
  unfold dv be
  have h : (2 : Int) ^ 8 = 256 := by decide
  rw [Int.pow_mul, h]
theorem dv_range {v : Int} (h0 : 0 ≤ v) (h1 : v < 18446744073709551616) (j : Nat) : 0 ≤ dv v j ∧ dv v j < 18446744073709551616 := by
  have hp : (0 : Int) < 256 ^ j := Int.pow_pos (by omega)
  exact ⟨Int.ediv_nonneg h0 (Int.le_of_lt hp), Int.lt_of_le_of_lt (Int.ediv_le_self _ h0) h1⟩

def tblER : List (FuncId × CStep GD) := [(20, st20), (21, st21)]
theorem tblER_ok : ∀ x ∈ tblER, CStepOk Tryd.prog cfg x.1 x.2 := by simp [tblER, st20_ok, st21_ok]
end YteegnbbblcokdaaDoor
end Go.Proofs
/-
  DERIVED: THE SHELF's CONTRACTS AT THIS DUMP, IN PLAIN WORDS (tools/lay-plain.mjs out of 'TrydShelf.lean', which tools/lay-shelf.mjs wrote): THE SAME DECLARATIONS UNDER THE SAME NAMES: 'import', 'namespace', 'open', 'def', 'theorem' AND NOTHING ELSE: no command of the shelf's: FOR A HAND-IN. Each laying: the table of numbers ('.._ren') and one theorem, a field a fact of the dump's own or the kernel's comparison; each contract: ONE APPLICATION.
-/
namespace Go.Proofs
open Go.Shelf
def Tryd.lays156_ren : Go.Shelf.Ren := ⟨fun | 156 => 19 | 165 => 37 | 166 => 38 | 169 => 39 | 240 => 48 | 241 => 49 | 276 => 58 | 277 => 59 | n => n, fun | 31 => 48 | 9 => 9 | 3 => 3 | 4 => 4 | 0 => 0 | 20 => 20 | 72 => 74 | 76 => 78 | 70 => 72 | 37 => 36 | 75 => 77 | 127 => 89 | 164 => 99 | 5 => 5 | 80 => 80 | n => n, fun | n => n⟩
theorem Tryd.lays156 : Go.Proofs.Lays.n156 Tryd.prog Tryd.lays156_ren := {
  mixed := by kernel_rfl
  f156 := Tryd.func19.trans (congrArg some (by kernel_rfl))
  f165 := Tryd.func37.trans (congrArg some (by kernel_rfl))
  f166 := Tryd.func38.trans (congrArg some (by kernel_rfl))
  f169 := Tryd.func39.trans (congrArg some (by kernel_rfl))
  f240 := Tryd.func48.trans (congrArg some (by kernel_rfl))
  f241 := Tryd.func49.trans (congrArg some (by kernel_rfl))
  f276 := Tryd.func58.trans (congrArg some (by kernel_rfl))
  f277 := Tryd.func59.trans (congrArg some (by kernel_rfl))
  t0 := Tryd.underlying0
  a0 := Tryd.isAgg0
  z0 := Tryd.sizeOf0
  v0 := Tryd.zeroValue0
  t3 := Tryd.underlying3
  a3 := Tryd.isAgg3
  z3 := Tryd.sizeOf3
  v3 := Tryd.zeroValue3
  t4 := Tryd.underlying4
  a4 := Tryd.isAgg4
  z4 := Tryd.sizeOf4
  v4 := Tryd.zeroValue4
  t9 := Tryd.underlying9
  a9 := Tryd.isAgg9
  z9 := Tryd.sizeOf9
  v9 := Tryd.zeroValue9
  t20 := Tryd.underlying20
  a20 := Tryd.isAgg20
  z20 := Tryd.sizeOf20
  v20 := Tryd.zeroValue20
  t31 := Tryd.underlying48
  a31 := Tryd.isAgg48
  z31 := Tryd.sizeOf48
  v31 := Tryd.zeroValue48
  t37 := Tryd.underlying36
  a37 := Tryd.isAgg36
  z37 := Tryd.sizeOf36
  v37 := Tryd.zeroValue36
  t70 := Tryd.underlying72
  a70 := Tryd.isAgg72
  z70 := Tryd.sizeOf72
  v70 := Tryd.zeroValue72
  t72 := Tryd.underlying74
  a72 := Tryd.isAgg74
  z72 := Tryd.sizeOf74
  v72 := Tryd.zeroValue74
  t75 := Tryd.underlying77
  a75 := Tryd.isAgg77
  z75 := Tryd.sizeOf77
  v75 := Tryd.zeroValue77
  t76 := Tryd.underlying78
  a76 := Tryd.isAgg78
  z76 := Tryd.sizeOf78
  v76 := Tryd.zeroValue78
  t127 := Tryd.underlying89
  a127 := Tryd.isAgg89
  z127 := Tryd.sizeOf89
  v127 := Tryd.zeroValue89
  t164 := Tryd.underlying99
  a164 := Tryd.isAgg99
  z164 := Tryd.sizeOf99
  v164 := Tryd.zeroValue99 }
theorem Tryd.Builder_Extra_156 : Builder.Extra Tryd.prog Tryd.lays156_ren := {
  sizeBuilder := by kernel_rfl
  liesBuilder := by kernel_rfl
  t5 := Tryd.underlying5
  a5 := Tryd.isAgg5
  z5 := Tryd.sizeOf5
  v5 := Tryd.zeroValue5
  infoByte := by kernel_rfl
  cellsByte := by kernel_rfl
  sizeByte := by kernel_rfl
  neB5 := by decide }
open Go.RowKit in
/-- No element: the empty string; the world is as it was. (Whatever the slice's address and capacity: a nil slice too.) (LAID: no walk: one application.) -/
theorem Tryd.strings_Join_none (a : Option Addr) (c : Nat) (sep : ByteArray) (w : World) :
    Calls Tryd.prog 19 #[.slice a 0 c, .string sep] w fun e w' => e = .returned (.string ⟨#[]⟩) ∧ w' = w := Any.strings_Join_none Tryd.lays156 Tryd.Builder_Extra_156 a c sep w
open Go.RowKit in
/-- strings.Join: "Join concatenates the elements of its first argument to create a single string. The separator string sep is placed between elements in the resulting string.": HOWEVER MANY ELEMENTS. Below the heap's end the world is as it was. (LAID: no walk: one application.) -/
theorem Tryd.strings_Join (bk o c : Nat) (xs : List ByteArray) (sep : ByteArray) (w : World) (hcells : ∀ (j : Nat) x, xs[j]? = some x → w.cell? ⟨bk, o + j, none⟩ = some (.string x)) (hbk : bk < w.heap.size) (hN : xs.length ≤ 140737488355328) (hcap : xs.length ≤ c) (hlen : (Lib.join (xs.map (·.data.toList)) sep.data.toList).length ≤ 140737488355328) :
    Calls Tryd.prog 19 #[.slice (some ⟨bk, o, none⟩) xs.length c, .string sep] w fun e w' => e = .returned (.string ⟨(Lib.join (xs.map (·.data.toList)) sep.data.toList).toArray⟩) ∧ Below w.heap.size w w' := Any.strings_Join Tryd.lays156 Tryd.Builder_Extra_156 bk o c xs sep w hcells hbk hN hcap hlen
def Tryd.lays171_ren : Go.Shelf.Ren := ⟨fun | 171 => 17 | 243 => 35 | 246 => 47 | 283 => 54 | 284 => 55 | 285 => 56 | 286 => 57 | 129 => 65 | 317 => 64 | 318 => 66 | 319 => 67 | 320 => 68 | 337 => 71 | 338 => 72 | n => n, fun | 3 => 3 | 9 => 9 | 2 => 2 | 4 => 4 | 171 => 94 | 0 => 0 | 53 => 23 | 37 => 36 | 5 => 5 | 173 => 97 | 212 => 105 | 51 => 106 | 20 => 20 | 213 => 107 | 46 => 87 | 232 => 113 | 233 => 114 | n => n, fun | 17 => 2 | 18 => 3 | 19 => 4 | n => n⟩
theorem Tryd.lays171 : Go.Proofs.Lays.n171 Tryd.prog Tryd.lays171_ren := {
  mixed := by kernel_rfl
  f129 := Tryd.func65.trans (congrArg some (by kernel_rfl))
  f171 := Tryd.func17.trans (congrArg some (by kernel_rfl))
  f243 := Tryd.func35.trans (congrArg some (by kernel_rfl))
  f246 := Tryd.func47.trans (congrArg some (by kernel_rfl))
  f283 := Tryd.func54.trans (congrArg some (by kernel_rfl))
  f284 := Tryd.func55.trans (congrArg some (by kernel_rfl))
  f285 := Tryd.func56.trans (congrArg some (by kernel_rfl))
  f286 := Tryd.func57.trans (congrArg some (by kernel_rfl))
  f317 := Tryd.func64.trans (congrArg some (by kernel_rfl))
  f318 := Tryd.func66.trans (congrArg some (by kernel_rfl))
  f319 := Tryd.func67.trans (congrArg some (by kernel_rfl))
  f320 := Tryd.func68.trans (congrArg some (by kernel_rfl))
  f337 := Tryd.func71.trans (congrArg some (by kernel_rfl))
  f338 := Tryd.func72.trans (congrArg some (by kernel_rfl))
  t0 := Tryd.underlying0
  a0 := Tryd.isAgg0
  z0 := Tryd.sizeOf0
  v0 := Tryd.zeroValue0
  t2 := Tryd.underlying2
  a2 := Tryd.isAgg2
  z2 := Tryd.sizeOf2
  v2 := Tryd.zeroValue2
  t3 := Tryd.underlying3
  a3 := Tryd.isAgg3
  z3 := Tryd.sizeOf3
  v3 := Tryd.zeroValue3
  t4 := Tryd.underlying4
  a4 := Tryd.isAgg4
  z4 := Tryd.sizeOf4
  v4 := Tryd.zeroValue4
  t5 := Tryd.underlying5
  a5 := Tryd.isAgg5
  z5 := Tryd.sizeOf5
  v5 := Tryd.zeroValue5
  t9 := Tryd.underlying9
  a9 := Tryd.isAgg9
  z9 := Tryd.sizeOf9
  v9 := Tryd.zeroValue9
  t20 := Tryd.underlying20
  a20 := Tryd.isAgg20
  z20 := Tryd.sizeOf20
  v20 := Tryd.zeroValue20
  t37 := Tryd.underlying36
  a37 := Tryd.isAgg36
  z37 := Tryd.sizeOf36
  v37 := Tryd.zeroValue36
  t46 := Tryd.underlying87
  a46 := Tryd.isAgg87
  z46 := Tryd.sizeOf87
  v46 := Tryd.zeroValue87
  t51 := Tryd.underlying106
  a51 := Tryd.isAgg106
  z51 := Tryd.sizeOf106
  v51 := Tryd.zeroValue106
  t53 := Tryd.underlying23
  a53 := Tryd.isAgg23
  z53 := Tryd.sizeOf23
  v53 := Tryd.zeroValue23
  t171 := Tryd.underlying94
  a171 := Tryd.isAgg94
  z171 := Tryd.sizeOf94
  v171 := Tryd.zeroValue94
  t173 := Tryd.underlying97
  a173 := Tryd.isAgg97
  z173 := Tryd.sizeOf97
  v173 := Tryd.zeroValue97
  t212 := Tryd.underlying105
  a212 := Tryd.isAgg105
  z212 := Tryd.sizeOf105
  v212 := Tryd.zeroValue105
  t213 := Tryd.underlying107
  a213 := Tryd.isAgg107
  z213 := Tryd.sizeOf107
  t232 := Tryd.underlying113
  a232 := Tryd.isAgg113
  z232 := Tryd.sizeOf113
  v232 := Tryd.zeroValue113
  t233 := Tryd.underlying114
  a233 := Tryd.isAgg114
  z233 := Tryd.sizeOf114
  v233 := Tryd.zeroValue114
  g17 := by kernel_rfl
  g18 := by kernel_rfl
  g19 := by kernel_rfl }
open Go.RowKit Go.Sort Go.Lib in
/-- THE ROAD WITHOUT THE TABLE: 0 <= i < 100: NO PREMISE ON THE WORLD, AND THE WORLD IS AS IT WAS: a row that keeps its argument in that range need list no table ('laid = []'). (LAID: no walk: one application.) -/
theorem Tryd.strconv_Itoa_small (i : Nat) (hi : i < 100) (w : World) :
    Calls Tryd.prog 17 #[.int .i64 i] w fun e w' => e = .returned (.string ⟨(Lib.decDigits i).toArray⟩) ∧ w' = w := Any.strconv_Itoa_small Tryd.lays171 i hi w
def Tryd.lays219_ren : Go.Shelf.Ren := ⟨fun | 219 => 51 | 217 => 60 | 225 => 61 | 224 => 62 | 267 => 63 | 266 => 69 | 314 => 70 | n => n, fun | 9 => 9 | 3 => 3 | 4 => 4 | 5 => 5 | 46 => 87 | 146 => 110 | 51 => 106 | n => n, fun | 1 => 1 | n => n⟩
theorem Tryd.lays219 : Go.Proofs.Lays.n219 Tryd.prog Tryd.lays219_ren := {
  mixed := by kernel_rfl
  f217 := Tryd.func60.trans (congrArg some (by kernel_rfl))
  f219 := Tryd.func51.trans (congrArg some (by kernel_rfl))
  f224 := Tryd.func62.trans (congrArg some (by kernel_rfl))
  f225 := Tryd.func61.trans (congrArg some (by kernel_rfl))
  f266 := Tryd.func69.trans (congrArg some (by kernel_rfl))
  f267 := Tryd.func63.trans (congrArg some (by kernel_rfl))
  f314 := Tryd.func70.trans (congrArg some (by kernel_rfl))
  t3 := Tryd.underlying3
  a3 := Tryd.isAgg3
  z3 := Tryd.sizeOf3
  v3 := Tryd.zeroValue3
  t4 := Tryd.underlying4
  a4 := Tryd.isAgg4
  z4 := Tryd.sizeOf4
  v4 := Tryd.zeroValue4
  t5 := Tryd.underlying5
  a5 := Tryd.isAgg5
  z5 := Tryd.sizeOf5
  v5 := Tryd.zeroValue5
  t9 := Tryd.underlying9
  a9 := Tryd.isAgg9
  z9 := Tryd.sizeOf9
  v9 := Tryd.zeroValue9
  t46 := Tryd.underlying87
  a46 := Tryd.isAgg87
  z46 := Tryd.sizeOf87
  v46 := Tryd.zeroValue87
  t51 := Tryd.underlying106
  a51 := Tryd.isAgg106
  z51 := Tryd.sizeOf106
  v51 := Tryd.zeroValue106
  t146 := Tryd.underlying110
  a146 := Tryd.isAgg110
  z146 := Tryd.sizeOf110
  v146 := Tryd.zeroValue110
  g1 := by kernel_rfl }
open Go.RowKit Go.Lib in
/-- internal/stringslite.Index (what strings.Index calls) AT A substr OF ONE BYTE c: IT RETURNS 'Lib.indexByte s c'; the world is as it was. (LAID: no walk: one application.) -/
theorem Tryd.stringslite_Index_one (s : ByteArray) (c : UInt8) (w : World) :
    Calls Tryd.prog 51 #[.string s, .string ⟨#[c]⟩] w fun e w' => e = .returned (.int .i64 (Lib.indexByte s.data.toList c)) ∧ w' = w := Any.stringslite_Index_one Tryd.lays219 s c w
end Go.Proofs
/-
  CODE: the reference's Encode as a contract; live.
-/
set_option linter.unusedSimpArgs false
set_option linter.unusedVariables false
set_option linter.unnecessarySimpa false
set_option linter.unusedSectionVars false
namespace Go.Proofs
namespace YteegnbbblcokdaaDoor
open Go.Abs
set_option linter.unusedSimpArgs false

/-! ### live -/
theorem index_in : ∀ args w, (callFunc 51 args).run Tryd.prog w = .ok (.enter 51 args) w := callable_of Tryd.func51 (by kernel_rfl) (by kernel_rfl)
def p51 : PStep
  | [.string s, .string ⟨⟨[c]⟩⟩] => some (True, .int .i64 (Lib.indexByte s.data.toList c))
  | _ => none
abbrev st51 := pureStep p51
theorem st51_ok : CStepOk Tryd.prog cfg 51 st51 := pure_ok fun args p v h hp => by
  unfold p51 at h
  split at h
  · cases h
    exact ⟨rfl, rfl, runs_still index_in rfl rfl (fun w => Tryd.stringslite_Index_one _ _ w) _⟩
  · cases h
theorem small17 : Runs Tryd.prog cfg 27 [.string ⟨#[49, 55]⟩] (AH.of []) fun r H' => r = .ret (.tuple #[.int .i64 17, .bool true]) ∧ H' = AH.of [] := by
  refine Runs.ends ?_
  refine runs_by (tbl := []) (by simp) 5 0 (af := a27) rfl ?_
  rw [a27, b27, run_eq]
  refine ⟨by simp, ?_⟩
  simp (implicitDefEqProofs := false)
  refine loop_inv (sg_mono gX_ok (tabS_ok (by simp)) _ _ noY noY_mono) (fun m tm H => tm 0 = .string ⟨#[49, 55]⟩ ∧ tm 8 = .pointer (some ⟨0, 0, none⟩) ∧ ((m = 2 ∧ tm 4 = .int .i64 0 ∧ H = AH.of [some (.siter ⟨#[49, 55]⟩ 0)]) ∨ (m = 1 ∧ tm 4 = .int .i64 1 ∧ H = AH.of [some (.siter ⟨#[49, 55]⟩ 1)]) ∨ (m = 0 ∧ tm 4 = .int .i64 17 ∧ H = AH.of [some (.siter ⟨#[49, 55]⟩ 2)]))) (m := 2) (by simp) (by omega) ?_
  have d0 : Utf8.decode ⟨#[49, 55]⟩ 0 = (49, 1) := by decide
  have d1 : Utf8.decode ⟨#[49, 55]⟩ 1 = (55, 1) := by decide
  have ds : (⟨#[49, 55]⟩ : ByteArray).size = 2 := rfl
  rintro m tm H ⟨t0, t8, ⟨rfl, t4, rfl⟩ | ⟨rfl, t4, rfl⟩ | ⟨rfl, t4, rfl⟩⟩
  · simp (implicitDefEqProofs := false) [t0, t8, t4, d0, ds, IntKind.wrap, IntKind.bits, IntKind.signed]
  · simp (implicitDefEqProofs := false) [t0, t8, t4, d1, ds, IntKind.wrap, IntKind.bits, IntKind.signed]
  · simp (implicitDefEqProofs := false) [t0, t8, t4, ds]
    refine ends_plan [] [] ?_ ?_ ?_ <;> simp
def p27 : PStep
  | [.string s] => if s = ⟨#[49, 55]⟩ then some (True, .tuple #[.int .i64 17, .bool true]) else none
  | _ => none
abbrev st27 := pureStep p27
theorem st27_ok : CStepOk Tryd.prog cfg 27 st27 := pure_ok fun args p v h hp => by
  unfold p27 at h
  split at h
  · split at h
    · rename_i hs
      cases h; subst hs; exact ⟨rfl, rfl, small17⟩
    · cases h
  · cases h
def tblJ : List (FuncId × CStep GD) := [(12, st12), (31, st31), (26, st26), (16, st16), (15, st15), (27, st27), (51, st51)]
theorem tblJ_ok : ∀ x ∈ tblJ, CStepOk Tryd.prog cfg x.1 x.2 := by simp [tblJ, st12_ok, st31_ok, st26_ok, st16_ok, st15_ok, st27_ok, st51_ok]
set_option maxHeartbeats 2000000 in
set_option maxRecDepth 100000 in
theorem runs10 : Runs Tryd.prog cfg 10 [] (AH.of []) fun r H' => r = .ret (.bool true) ∧ H' = AH.of [] := by
  refine Runs.ends ?_
  refine runs_by (tbl := tblJ) tblJ_ok 5 4 (af := a10) rfl ?_
  rw [a10, b10, run_eq]
  refine ⟨by simp, ?_⟩
  have e1 : encR [⟨4, 3, 0⟩] = fun k => .ret (.tuple #[.slice (some ⟨k, 0, none⟩) 2 1, .int .i64 0]) := rfl
  have e2 : encO [⟨4, 3, 0⟩] = .arr 5 [.int .u8 4, .int .u8 3] := rfl
  have e3 : asInss [.int .u8 4, .int .i64 3, .int .u64 0] = some [⟨4, 3, 0⟩] := rfl
  have e4 : Ins.Ok ⟨4, 3, 0⟩ := ⟨by decide, by decide⟩
  have e5 : Lib.indexByte [106, 117, 109, 112, 32, 49, 55] 32 = 4 := by decide
  have e6 : (⟨#[106, 117, 109, 112, 32, 49, 55]⟩ : ByteArray).size = 7 := rfl
  have e7 : (⟨#[106, 117, 109, 112, 32, 49, 55]⟩ : ByteArray).extract 0 4 = ⟨#[106, 117, 109, 112]⟩ := by decide
  have e8 : (⟨#[106, 117, 109, 112, 32, 49, 55]⟩ : ByteArray).extract 5 7 = ⟨#[49, 55]⟩ := by decide
  have e9 : (⟨#[32]⟩ : ByteArray).size = 1 := rfl
  have e10 : readW ⟨#[106, 117, 109, 112]⟩ = some 19 := by decide
  have e11 : IntKind.i64.wrap 5 = 5 := by decide
  have e14 : rightI ⟨19, 17, 0⟩ = true := by decide
  have e15 : popsO 7 = 2 := rfl
  have e16 : pushO 7 = 0 := rfl
  have e17 : bytesOf? [.int .u8 4, .int .u8 3] = some [4, 3] := rfl
  have e12 : usesA 19 = true := by decide
  have e13 : usesV 19 = false := by decide
  simp (implicitDefEqProofs := false) [tblJ, st12, e1, e2, e3, e4, e5, e6, e7, e8, e9, e10, e11, e12, e13, forms7, a7, b7, forms25, a25, b25, forms43, a43, b43, pureStep, p51, p26, p16, p27, p15, p31, e14, e15, e16, e17]
  refine ends_plan [] [] ?_ ?_ ?_ <;> simp
end YteegnbbblcokdaaDoor
end Go.Proofs
/-
  CODE: the laws of the bytes: unlike, joined.
-/
set_option linter.unusedSimpArgs false
set_option linter.unusedVariables false
set_option linter.unnecessarySimpa false
set_option linter.unusedSectionVars false
namespace Go.Proofs
namespace YteegnbbblcokdaaDoor
open Go.Abs
set_option linter.unusedSimpArgs false

def st10 : CStep GD := fun args H => match args with
  | [] => some (True, .ret (.bool true), H)
  | _ => none
theorem st10_ok : CStepOk Tryd.prog cfg 10 st10 := by
  intro args H p r H' h hp
  unfold st10 at h
  split at h
  case h_2 => cases h
  cases h
  exact runs10.atK (ro_none rfl) [] (by simp) (by simp) trivial (by simp) (by simp) (by simp)

theorem runs11 (k n tg : Nat) (H : AH GD) : Runs Tryd.prog cfg 11 [.slice (some ⟨k, 0, none⟩) n tg] H
    fun r H' => r = .ret (.slice (some ⟨k, 0, none⟩) (min n 60) tg) ∧ H' = H := by
  by_cases h : 60 < n
  · have h1 : (60 : Int) < n := by omega
    have h2 : (60 : Int) ≤ n := by omega
    have h3 : min n 60 = 60 := by omega
    refine runs_by (tbl := []) (by simp) 0 0 (af := a11) rfl ?_
    rw [a11, b11, run_eq]
    refine ⟨by simp, ?_⟩
    simp (implicitDefEqProofs := false) [h1, h2, h3]
  · have h1 : ¬ (60 : Int) < n := by omega
    have h3 : min n 60 = n := by omega
    refine runs_by (tbl := []) (by simp) 0 0 (af := a11) rfl ?_
    rw [a11, b11, run_eq]
    refine ⟨by simp, ?_⟩
    simp (implicitDefEqProofs := false) [h1, h3]
def st11 : CStep GD := fun args H => match args with
  | [.slice (some ⟨k, 0, none⟩) n tg] => some (True, .ret (.slice (some ⟨k, 0, none⟩) (min n 60) tg), H)
  | _ => none
theorem st11_ok : CStepOk Tryd.prog cfg 11 st11 := by
  intro args H p r H' h hp
  unfold st11 at h
  split at h
  case h_2 => cases h
  cases h
  exact runs11 _ _ _ H

theorem encR_ok {l : List Ins} (h : encOk l = true) (k : Nat) : encR l k = .ret (.tuple #[.slice (some ⟨k, 0, none⟩) (encB l).length 1, .int .i64 0]) := by rw [encR, if_pos h]
theorem encR_bad {l : List Ins} (h : encOk l = false) (k : Nat) : encR l k = .ret (.tuple #[.slice none 0 0, .int .i64 3]) := by rw [encR, if_neg (by rw [h]; decide)]
theorem encO_ok {l : List Ins} (h : encOk l = true) : encO l = .arr 5 (bs (encB l)) := by rw [encO, if_pos h]
theorem encO_bad {l : List Ins} (h : encOk l = false) : encO l = .arr 5 [] := by rw [encO, if_neg (by rw [h]; decide)]
theorem encOk_append (a b : List Ins) : encOk (a ++ b) = (encOk a && encOk b) := by simp [encOk]
theorem encB_append (a b : List Ins) : encB (a ++ b) = encB a ++ encB b := by simp [encB]
theorem inss_append (a b : List Ins) : inss (a ++ b) = inss a ++ inss b := by simp [inss]
theorem inss_take (l : List Ins) (n : Nat) : (inss l).take (n * 3) = inss (l.take n) := by
  induction n generalizing l with
  | zero => simp [inss]
  | succ n ih =>
    cases l with
    | nil => simp [inss]
    | cons e l =>
      rw [inss_cons, show (n + 1) * 3 = n * 3 + 3 by omega]
      simp only [List.take_succ_cons, ih]
      rfl
theorem asInss_app (a b : List Ins) : asInss (inss a ++ inss b) = some (a ++ b) := by rw [← inss_append, asInss_inss]
def u8L (l : List Int) : List UInt8 := l.map fun n => UInt8.ofNat n.toNat
theorem bytesOf_bs : ∀ l : List Int, bytesOf? (bs l) = some (u8L l)
  | [] => rfl
  | v :: l => by
    show (bytesOf? (bs l)).map (_ :: ·) = _
    rw [bytesOf_bs l]; rfl

theorem add_bytes (x y : List UInt8) (h : x.length + y.length ≤ 9223372036854775807) : abin .add (.string ⟨x.toArray⟩) (.string ⟨y.toArray⟩) = some (.string ⟨(x ++ y).toArray⟩) := by
  show (if (⟨x.toArray⟩ : ByteArray).size + (⟨y.toArray⟩ : ByteArray).size ≤ 9223372036854775807 then some (Value.string (⟨x.toArray⟩ ++ ⟨y.toArray⟩)) else none) = _
  have hs : (⟨x.toArray⟩ : ByteArray).size + (⟨y.toArray⟩ : ByteArray).size ≤ 9223372036854775807 := by
    show x.toArray.size + y.toArray.size ≤ _
    simpa using h
  rw [if_pos hs]
  congr 2
theorem u8L_append (a b : List Int) : u8L (a ++ b) = u8L a ++ u8L b := by simp [u8L]
theorem u8L_length (a : List Int) : (u8L a).length = a.length := by simp [u8L]
def tblQ : List (FuncId × CStep GD) := [(12, st12), (10, st10), (11, st11), (15, st15)]
theorem tblQ_ok : ∀ x ∈ tblQ, CStepOk Tryd.prog cfg x.1 x.2 := by simp [tblQ, st12_ok, st10_ok, st11_ok, st15_ok]
end YteegnbbblcokdaaDoor
end Go.Proofs
/-
  CODE: unlike right instructions have unlike bytes, and none's begin another's.
-/
set_option linter.unusedSimpArgs false
set_option linter.unusedVariables false
set_option linter.unnecessarySimpa false
set_option linter.unusedSectionVars false
namespace Go.Proofs
namespace YteegnbbblcokdaaDoor
open Go.Abs
set_option linter.unusedSimpArgs false

theorem be_inj {v w : Int} (hv : 0 ≤ v ∧ v < 18446744073709551616) (hw : 0 ≤ w ∧ w < 18446744073709551616) (h : ∀ k, k < 8 → be v k = be w k) : v = w := by
  have key : ∀ j, j ≤ 8 → dv v (8 - j) = dv w (8 - j) := by
    intro j
    induction j with
    | zero =>
      intro _
      have p : (256 : Int) ^ 8 = 18446744073709551616 := by decide
      unfold dv
      rw [p, Int.ediv_eq_zero_of_lt hv.1 hv.2, Int.ediv_eq_zero_of_lt hw.1 hw.2]
    | succ j ih =>
      intro hj
      have i := ih (by omega)
      have e1 := dv_succ v (8 - (j + 1))
      have e2 := dv_succ w (8 - (j + 1))
      have h8 : 8 - (j + 1) + 1 = 8 - j := by omega
      rw [h8] at e1 e2
      have b1 := dv_be v (k := j)
      have b2 := dv_be w (k := j)
      have h7 : 7 - j = 8 - (j + 1) := by omega
      rw [h7] at b1 b2
      have b3 := h j (by omega)
      omega
  have := key 8 (by omega)
  simpa [dv] using this
theorem be8_inj {v w : Int} (hv : 0 ≤ v ∧ v < 18446744073709551616) (hw : 0 ≤ w ∧ w < 18446744073709551616) (h : be8 v 8 = be8 w 8) : v = w := by
  refine be_inj hv hw fun k hk => ?_
  have h1 : (be8 v 8)[k]? = some (be v k) := by simp [be8, hk]
  have h2 : (be8 w 8)[k]? = some (be w k) := by simp [be8, hk]
  rw [h, h2] at h1
  exact (Option.some.inj h1).symm

theorem bytesI_byte {i : Ins} (hi : i.Ok) (hr : rightI i = true) : ∀ b ∈ bytesI i, 0 ≤ b ∧ b < 256 := by
  have ha := right_arg hr
  intro b hb
  unfold bytesI at hb
  simp only [List.mem_append, List.mem_singleton] at hb
  rcases hb with (rfl | hb) | hb
  · exact hi.1
  · split at hb
    · simp at hb; subst hb; omega
    · cases hb
  · split at hb
    · simp only [be8, List.mem_map, List.mem_range] at hb
      obtain ⟨k, _, rfl⟩ := hb
      unfold be; omega
    · cases hb
theorem u8_inj : ∀ {a b : List Int}, (∀ x ∈ a, 0 ≤ x ∧ x < 256) → (∀ x ∈ b, 0 ≤ x ∧ x < 256) → u8L a = u8L b → a = b
  | [], [], _, _, _ => rfl
  | [], y :: b, _, _, h => by simp [u8L] at h
  | x :: a, [], _, _, h => by simp [u8L] at h
  | x :: a, y :: b, ha, hb, h => by
    simp only [u8L, List.map_cons, List.cons.injEq] at h
    have hx := ha x List.mem_cons_self
    have hy := hb y List.mem_cons_self
    have e : x.toNat = y.toNat := by
      have := congrArg UInt8.toNat h.1
      simp [UInt8.toNat_ofNat'] at this
      omega
    have : x = y := by omega
    rw [this, u8_inj (fun z hz => ha z (List.mem_cons_of_mem _ hz)) (fun z hz => hb z (List.mem_cons_of_mem _ hz)) h.2]
/-- Whose bytes begin another one's is that one. -/
theorem begins_eq {i j : Ins} (hi : i.Ok) (hj : j.Ok) (ri : rightI i = true) (rj : rightI j = true) (h : (bytesI j).take (bytesI i).length = bytesI i) : i = j := by
  have ho : i.o = j.o := by
    have : ((bytesI j).take (bytesI i).length)[0]? = (bytesI i)[0]? := by rw [h]
    rw [List.getElem?_take] at this
    simp [bytesI] at this
    exact this.symm
  have hlen : (bytesI j).length = (bytesI i).length := by simp only [bytesI, ho]; split <;> split <;> simp [be8]
  rw [List.take_of_length_le (by omega)] at h
  have di := of_decide_eq_true ri
  have dj := of_decide_eq_true rj
  simp only [bytesI, ho, List.append_assoc, List.cons_append, List.nil_append, List.cons.injEq, true_and] at h
  have hav : i.a = j.a ∧ i.v = j.v := by
    by_cases hA : usesA j.o.toNat = true
    · by_cases hV : usesV j.o.toNat = true
      · exfalso
        have h1 : j.o.toNat = 1 := by simpa [usesV] using hV
        rw [h1] at hA; revert hA; decide
      · simp [hA, hV] at h
        rw [ho] at di
        exact ⟨h.symm, by have := di.2.2.1; have := dj.2.2.1; simp [hV] at *; omega⟩
    · by_cases hV : usesV j.o.toNat = true
      · simp [hA, hV] at h
        rw [ho] at di
        exact ⟨by have := di.2.1; have := dj.2.1; simp [hA] at *; omega, (be8_inj hj.2 hi.2 h).symm⟩
      · rw [ho] at di
        exact ⟨by have := di.2.1; have := dj.2.1; simp [hA] at *; omega, by have := di.2.2.1; have := dj.2.2.1; simp [hV] at *; omega⟩
  cases i; cases j
  simp_all
end YteegnbbblcokdaaDoor
end Go.Proofs
/-
  CODE: the law of the unlike.
-/
set_option linter.unusedSimpArgs false
set_option linter.unusedVariables false
set_option linter.unnecessarySimpa false
set_option linter.unusedSectionVars false
namespace Go.Proofs
namespace YteegnbbblcokdaaDoor
open Go.Abs
set_option linter.unusedSimpArgs false

theorem str_inj {a b : List UInt8} : ((⟨a.toArray⟩ : ByteArray) = ⟨b.toArray⟩) ↔ a = b := by
  constructor
  · intro h
    have h := congrArg ByteArray.data h
    simpa using h
  · intro h; rw [h]
theorem ins_eq (x y : Ins) : aeqF [(0, 1, false, .int), (1, 1, false, .int), (2, 1, false, .int)] [.int .u8 x.o, .int .i64 x.a, .int .u64 x.v] [.int .u8 y.o, .int .i64 y.a, .int .u64 y.v] = some (decide (x = y)) := by
  obtain ⟨a, b, c⟩ := x
  obtain ⟨a', b', c'⟩ := y
  have beq : ∀ x y : Int, (x == y) = decide (x = y) := fun x y => by by_cases h : x = y <;> simp [h]
  simp [aeqF, beq]
  by_cases h1 : a = a' <;> by_cases h2 : b = b' <;> by_cases h3 : c = c' <;> simp [h1, h2, h3]
theorem asInss_one (o a v : Int) : asInss [.int .u8 o, .int .i64 a, .int .u64 v] = some [⟨o, a, v⟩] := rfl
theorem encOk_one (i : Ins) : encOk [i] = rightI i := by simp [encOk]
theorem encB_one (i : Ins) : encB [i] = bytesI i := by simp [encB]
theorem bs_take (l : List Int) (n : Nat) : (bs l).take n = bs (l.take n) := by simp [bs, List.map_take]
end YteegnbbblcokdaaDoor
end Go.Proofs
/-
  What the arguments of the code's laws read as.
-/
set_option linter.unusedSimpArgs false
set_option linter.unusedVariables false
set_option linter.unnecessarySimpa false
set_option linter.unusedSectionVars false
namespace Go.Proofs
namespace YteegnbbblcokdaaDoor
open Go.Abs Go.ChangeShapes Go.WideShapes Go.ChangeAt Go.RowKit
set_option linter.unusedSimpArgs false
set_option linter.unusedVariables false
set_option maxRecDepth 100000

theorem cells26 : Tryd.prog.cellsOf 26 = 3 := by kernel_rfl
theorem cells5 : Tryd.prog.cellsOf 5 = 1 := by kernel_rfl
def ltypes : List TypeId := [35, 36, 26, 5, 22, 3, 24, 9]
theorem lclosed : closedB Tryd.prog ltypes = true := by kernel_rfl
section
variable {H : Type} {enc : TypeId × Value → H} {w : World}
theorem ins_cells {fuel : Nat} {cs : List Value} {y : DataW H × List MemPlace} (h : DataW.trod enc Tryd.prog w 0 (fun _ => true) true fuel 26 cs = some y) : ∃ e : Ins, cs = e.cells ∧ e.Ok := by
  obtain ⟨h1, h2⟩ := struct_cells Tryd.underlying26 (by kernel_rfl) h cells26
  obtain ⟨v0, n0, y0, g0, t0⟩ := h2 0 _ rfl
  obtain ⟨v1, n1, y1, g1, t1⟩ := h2 1 _ rfl
  obtain ⟨v2, n2, y2, g2, t2⟩ := h2 2 _ rfl
  obtain ⟨a, ha, _, hwa⟩ := DataW.trod_int Tryd.underlying22 t0
  obtain ⟨b, hb, _, _⟩ := DataW.trod_int Tryd.underlying3 t1
  obtain ⟨c, hc, _, hw⟩ := DataW.trod_int Tryd.underlying24 t2
  have h3 : cs.length = 3 := h1
  match cs, h3 with
  | [c0, c1, c2], _ =>
    simp only [List.getElem?_cons_zero, List.getElem?_cons_succ, Option.some.injEq] at g0 g1 g2
    cases g0; cases g1; cases g2
    cases ha; cases hb; cases hc
    exact ⟨⟨a, b, c⟩, rfl, wf_u8 hwa, wf_u64 hw⟩
theorem open_inss {r : Reach} {b0 : Nat} {v : Value} {d : DataW H} {ps : List MemPlace} (hok : Value.okWide Tryd.prog w r b0 35 v) (hd : DataW.Trod enc Tryd.prog w 0 (fun _ => true) true 35 v d ps) :
    ∃ l : List Ins, (∀ e ∈ l, e.Ok) ∧ l.length ≤ maxLen ∧ ArgRow w v l.length (inss l) :=
  open_rows (ea := Ins.cells) Tryd.underlying35 (by rw [cells26]; omega) (fun x => cells26.symm) (fun _ _ _ h => ins_cells h) hok hd
theorem open_ins {r : Reach} {b0 : Nat} {v : Value} {d : DataW H} {ps : List MemPlace} (hok : Value.okWide Tryd.prog w r b0 26 v) (hd : DataW.Trod enc Tryd.prog w 0 (fun _ => true) true 26 v d ps) : ∃ e : Ins, v = .agg #[.int .u8 e.o, .int .i64 e.a, .int .u64 e.v] ∧ e.Ok := by
  obtain ⟨cs, rfl, _⟩ := okWide_struct Tryd.underlying26 hok
  obtain ⟨fuel, hf⟩ := hd
  obtain ⟨e, h1, h2⟩ := ins_cells hf
  refine ⟨e, ?_, h2⟩
  have : cs.toList = e.cells := h1
  show Value.agg cs = .agg e.cells.toArray
  rw [← this]
theorem inss_one (l : List Ins) : (inss l).all (·.oneCell') = true := by
  induction l with
  | nil => rfl
  | cons e l ih => rw [inss_cons]; simpa [Value.oneCell'] using ih
end
end YteegnbbblcokdaaDoor
end Go.Proofs
/-
  What a text reads as.
-/
set_option linter.unusedSimpArgs false
set_option linter.unusedVariables false
set_option linter.unnecessarySimpa false
set_option linter.unusedSectionVars false
namespace Go.Proofs
namespace YteegnbbblcokdaaDoor
open Go.Abs Go.ChangeShapes Go.WideShapes Go.ChangeAt Go.RowKit
set_option linter.unusedSimpArgs false
set_option linter.unusedVariables false
set_option maxRecDepth 100000

section
variable {H : Type} {enc : TypeId × Value → H} {w : World}
theorem open_str {r : Reach} {b0 : Nat} {v : Value} {d : DataW H} {ps : List MemPlace} (hok : Value.okWide Tryd.prog w r b0 9 v) (hd : DataW.Trod enc Tryd.prog w 0 (fun _ => true) true 9 v d ps) : ∃ s : ByteArray, v = .string s ∧ True := by
  obtain ⟨s, rfl⟩ := okWide_string Tryd.underlying9 hok
  exact ⟨s, rfl, trivial⟩
end
end YteegnbbblcokdaaDoor
end Go.Proofs
/-
  CODE: what bytes say: one instruction.
-/
set_option linter.unusedSimpArgs false
set_option linter.unusedVariables false
set_option linter.unnecessarySimpa false
set_option linter.unusedSectionVars false
namespace Go.Proofs
namespace YteegnbbblcokdaaDoor
open Go.Abs
set_option linter.unusedSimpArgs false

def atB (B : List Int) (p : Nat) : Int := (B[p]?).getD 0
def valD (B : List Int) (q : Nat) : Nat → Int
  | 0 => 0
  | k + 1 => valD B q k * 256 + atB B (q + k)
/-- The instruction at a place, and the place behind it. -/
def stepD (B : List Int) (p : Nat) : Option (Ins × Nat) :=
  if usesA (atB B p).toNat then (if p + 1 < B.length then some (⟨atB B p, atB B (p + 1), 0⟩, p + 2) else none)
  else if usesV (atB B p).toNat then (if p + 9 ≤ B.length then some (⟨atB B p, 0, valD B (p + 1) 8⟩, p + 9) else none)
  else some (⟨atB B p, 0, 0⟩, p + 1)
def ByteL (B : List Int) : Prop := ∀ b ∈ B, 0 ≤ b ∧ b < 256
theorem atB_byte {B : List Int} (h : ByteL B) (p : Nat) : 0 ≤ atB B p ∧ atB B p < 256 := by
  unfold atB
  cases hx : B[p]? with
  | some v => exact h v (List.mem_of_getElem? hx)
  | none => simp
theorem valD_range {B : List Int} (h : ByteL B) (q : Nat) : ∀ k, 0 ≤ valD B q k ∧ valD B q k < 256 ^ k
  | 0 => by simp [valD]
  | k + 1 => by
    have ih := valD_range h q k
    have hb := atB_byte h (q + k)
    have hp : (256 : Int) ^ (k + 1) = 256 ^ k * 256 := Int.pow_succ _ _
    rw [valD, hp]
    omega
theorem bs_atB {B : List Int} {p : Nat} (h : p < B.length) : (bs B)[p]? = some (.int .u8 (atB B p)) := by
  have : B[p]? = some B[p] := List.getElem?_eq_getElem h
  simp [bs, atB, this]
def tblO : List (FuncId × CStep GD) := [(16, st16), (15, st15)]
theorem tblO_ok : ∀ x ∈ tblO, CStepOk Tryd.prog cfg x.1 x.2 := by simp [tblO, st16_ok, st15_ok]
def oneR (B : List Int) (p : Nat) (k : Nat) : AEnd := match stepD B p with
  | some (i, q) => .ret (.tuple #[.agg #[.int .u8 i.o, .int .i64 i.a, .int .u64 i.v], .slice (some ⟨k, q, none⟩) (B.length - q) 0, .bool (rightI i)])
  | none => .ret (.tuple #[.agg #[.int .u8 (atB B p), .int .i64 0, .int .u64 0], .slice none 0 0, .bool false])
theorem stepD_A {B : List Int} {p : Nat} (hA : usesA (atB B p).toNat = true) (h : p + 1 < B.length) : stepD B p = some (⟨atB B p, atB B (p + 1), 0⟩, p + 2) := by rw [stepD, if_pos hA, if_pos h]
theorem stepD_A0 {B : List Int} {p : Nat} (hA : usesA (atB B p).toNat = true) (h : ¬ p + 1 < B.length) : stepD B p = none := by rw [stepD, if_pos hA, if_neg h]
theorem stepD_V {B : List Int} {p : Nat} (hA : usesA (atB B p).toNat = false) (hV : usesV (atB B p).toNat = true) (h : p + 9 ≤ B.length) : stepD B p = some (⟨atB B p, 0, valD B (p + 1) 8⟩, p + 9) := by rw [stepD, if_neg (by rw [hA]; decide), if_pos hV, if_pos h]
theorem stepD_V0 {B : List Int} {p : Nat} (hA : usesA (atB B p).toNat = false) (hV : usesV (atB B p).toNat = true) (h : ¬ p + 9 ≤ B.length) : stepD B p = none := by rw [stepD, if_neg (by rw [hA]; decide), if_pos hV, if_neg h]
theorem stepD_N {B : List Int} {p : Nat} (hA : usesA (atB B p).toNat = false) (hV : usesV (atB B p).toNat = false) : stepD B p = some (⟨atB B p, 0, 0⟩, p + 1) := by rw [stepD, if_neg (by rw [hA]; decide), if_neg (by rw [hV]; decide)]
set_option maxHeartbeats 4000000 in
theorem runs32 (B C : List Int) (p n : Nat) (hB : ByteL B) (hn : 0 < n) (hpn : p + n = B.length) : Runs Tryd.prog cfg 32 [.slice (some ⟨0, p, none⟩) n 0] (AH.of [some (.ro (bs (B ++ C)))])
    fun r H' => r = oneR B p 0 ∧ H' = AH.of [some (.ro (bs (B ++ C)))] := by
  refine Runs.ends ?_
  have hp : p < B.length := by omega
  have hat : ∀ q, q < B.length → (bs (B ++ C))[q]? = some (.int .u8 (atB B q)) := fun q hq => by rw [bs_append, List.getElem?_append_left (by rw [bs_length]; exact hq), bs_atB hq]
  have hb := atB_byte hB p
  have hn1 : (1 : Int) ≤ n := by omega
  cases hA : usesA (atB B p).toNat with
  | true =>
    have hV : usesV (atB B p).toNat = false := by
      cases h : usesV (atB B p).toNat with
      | false => rfl
      | true =>
        have h1 : (atB B p).toNat = 1 := by simpa [usesV] using h
        rw [h1] at hA; revert hA; decide
    by_cases h2 : p + 1 < B.length
    · have hs := stepD_A hA h2
      have hn2 : ¬ n - 1 = 0 := by omega
      have hn3 : 0 < n - 1 := by omega
      have hn4 : (1 : Int) ≤ ((n - 1 : Nat) : Int) := by omega
      have hb2 := atB_byte hB (p + 1)
      have hw : IntKind.i64.wrap (atB B (p + 1)) = atB B (p + 1) := wrap_i64 (by omega) (by omega)
      have hq : n - 1 - 1 = B.length - (p + 2) := by omega
      refine runs_by (tbl := tblO) tblO_ok 10 0 (af := a32) rfl ?_
      rw [a32, b32, run_eq]
      refine ⟨by simp, ?_⟩
      simp (implicitDefEqProofs := false) [tblO, pureStep, p16, p15, hn, hn1, hn2, hn3, hn4, hat p hp, hat (p + 1) h2, hb, hA, hV, hw]
      simp only [oneR, hs]
      refine ends_plan [] [0] ?_ ?_ ?_ <;> simp [hq]
    · have hs := stepD_A0 hA h2
      have hn2 : n - 1 = 0 := by omega
      refine runs_by (tbl := tblO) tblO_ok 10 0 (af := a32) rfl ?_
      rw [a32, b32, run_eq]
      refine ⟨by simp, ?_⟩
      simp (implicitDefEqProofs := false) [tblO, pureStep, p16, p15, hn, hn1, hn2, hat p hp, hb, hA, hV]
      simp only [oneR, hs]
      refine ends_plan [] [0] ?_ ?_ ?_ <;> simp
  | false =>
    cases hV : usesV (atB B p).toNat with
    | true =>
      by_cases h9 : p + 9 ≤ B.length
      · have hs := stepD_V hA hV h9
        have hn2 : ¬ ((n - 1 : Nat) : Int) < 8 := by omega
        have hn3 : ¬ n - 1 < 8 := by omega
        have hn4 : (8 : Int) ≤ ((n - 1 : Nat) : Int) := by omega
        have hn5 : 8 ≤ n - 1 := by omega
        have hq : n - 1 - 8 = B.length - (p + 9) := by omega
        refine runs_by (tbl := tblO) tblO_ok 10 0 (af := a32) rfl ?_
        rw [a32, b32, run_eq]
        refine ⟨by simp, ?_⟩
        simp (implicitDefEqProofs := false) [tblO, pureStep, p16, p15, hn, hn1, hn2, hn3, hn4, hn5, hat p hp, hb, hA, hV]
        refine loop_inv (sg_mono gX_ok (tabS_ok tblO_ok) _ _ noY noY_mono) (fun m tm H => ∃ k : Nat, m + k = 8 ∧ tm 0 = .slice (some ⟨0, p + 1, none⟩) (n - 1) 0 ∧ tm 2 = .pointer (some ⟨1, 0, none⟩) ∧ tm 37 = .slice (some ⟨0, p + 1, none⟩) 8 0 ∧ tm 38 = .int .i64 8 ∧ tm 39 = .int .i64 k ∧
          H = AH.of [some (.ro (bs (B ++ C))), some (.arr 26 [.int .u8 (atB B p), .int .i64 0, .int .u64 (valD B (p + 1) k)]), some (.arr 46 [.string (wordO (atB B p).toNat), .bool false, .bool true, .int .i64 (popsO (atB B p).toNat), .int .i64 (pushO (atB B p).toNat)])]) (m := 8) ⟨0, by simp [valD]⟩ (by omega) ?_
        rintro m tm H ⟨k, hm, t0, t2, t37, t38, t39, rfl⟩
        by_cases hk : k < 8
        · have hk' : (k : Int) < 8 := by omega
          have hwk := inc_i64 hk (by omega)
          have hvr := valD_range hB (p + 1) k
          have hcb := atB_byte hB (p + 1 + k)
          have h7 : (256 : Int) ^ k ≤ 72057594037927936 := by
            have : ∀ j : Nat, j < 8 → (256 : Int) ^ j ≤ 72057594037927936 := by decide
            exact this k hk
          have hw1 : IntKind.u64.wrap (valD B (p + 1) k * 256) = valD B (p + 1) k * 256 := wrap_u64 (by omega) (by omega)
          have hw2 : IntKind.u64.wrap (atB B (p + 1 + k)) = atB B (p + 1 + k) := wrap_u64 (by omega) (by omega)
          have hor : bOr .u64 (valD B (p + 1) k * 256) (atB B (p + 1 + k)) = valD B (p + 1) (k + 1) := by
            have p8 : (2 : Int) ^ 8 = 256 := by decide
            have := bOr_low (a := valD B (p + 1) k) (b := atB B (p + 1 + k)) 8 hvr.1 hcb.1 (by rw [p8]; exact hcb.2) (by rw [p8]; omega)
            rw [p8] at this
            rw [this]; rfl
          simp (implicitDefEqProofs := false) [t0, t2, t37, t38, t39, hk, hk', hat (p + 1 + k) (by omega), IntKind.bits, hw1, hw2, hor, hwk]
          exact ⟨m - 1, by omega, k + 1, by omega, by omega, rfl⟩
        · have hke : k = 8 := by omega
          subst hke
          simp (implicitDefEqProofs := false) [tblO, pureStep, p15, t0, t2, t37, t38, t39, hn4, hn5, hb]
          simp only [oneR, hs]
          refine ends_plan [] [0] ?_ ?_ ?_ <;> simp [hq]
      · have hs := stepD_V0 hA hV h9
        have hn2 : ((n - 1 : Nat) : Int) < 8 := by omega
        have hn3 : n - 1 < 8 := by omega
        refine runs_by (tbl := tblO) tblO_ok 10 0 (af := a32) rfl ?_
        rw [a32, b32, run_eq]
        refine ⟨by simp, ?_⟩
        simp (implicitDefEqProofs := false) [tblO, pureStep, p16, p15, hn, hn1, hn2, hn3, hat p hp, hb, hA, hV]
        simp only [oneR, hs]
        refine ends_plan [] [0] ?_ ?_ ?_ <;> simp
    | false =>
      have hs := stepD_N hA hV
      have hq : n - 1 = B.length - (p + 1) := by omega
      refine runs_by (tbl := tblO) tblO_ok 10 0 (af := a32) rfl ?_
      rw [a32, b32, run_eq]
      refine ⟨by simp, ?_⟩
      simp (implicitDefEqProofs := false) [tblO, pureStep, p16, p15, hn, hn1, hat p hp, hb, hA, hV]
      simp only [oneR, hs]
      refine ends_plan [] [0] ?_ ?_ ?_ <;> simp [hq]
end YteegnbbblcokdaaDoor
end Go.Proofs
/-
  CODE: Decode.
-/
set_option linter.unusedSimpArgs false
set_option linter.unusedVariables false
set_option linter.unnecessarySimpa false
set_option linter.unusedSectionVars false
namespace Go.Proofs
namespace YteegnbbblcokdaaDoor
open Go.Abs
set_option linter.unusedSimpArgs false

def asBs : List Value → Option (List Int)
  | [] => some []
  | .int .u8 v :: l => (asBs l).map (v :: ·)
  | _ => none
theorem asBs_bs : ∀ h : List Int, asBs (bs h) = some h
  | [] => rfl
  | v :: h => by
    show (asBs (bs h)).map (v :: ·) = _
    rw [asBs_bs h]; rfl
theorem asBs_inv : ∀ {cs : List Value} {h : List Int}, asBs cs = some h → cs = bs h
  | cs, l, e => by
    unfold asBs at e
    split at e
    · cases e; rfl
    · simp only [Option.map_eq_some_iff] at e
      obtain ⟨l', e1, rfl⟩ := e
      rw [asBs_inv e1]; rfl
    · cases e
attribute [simp] asBs_bs
theorem renE_oneR (θ : Nat → Nat) (B : List Int) (p k : Nat) : renE θ (oneR B p k) = oneR B p (θ k) := by
  unfold oneR
  split
  · rw [renE_ret]; simp [ren]
  · rw [renE_ret]; simp [ren]
def st32 : CStep GD := fun args H => match args with
  | [.slice (some ⟨k, p, none⟩) n 0] => match H.get k with
    | some (.ro cs) => (asBs cs).map fun L => (ByteL L ∧ 0 < n ∧ p + n ≤ L.length, oneR (L.take (p + n)) p k, H)
    | _ => none
  | _ => none
theorem st32_ok : CStepOk Tryd.prog cfg 32 st32 := by
  intro args H p r H' h hp
  unfold st32 at h
  split at h
  case h_2 => cases h
  split at h
  case h_2 => cases h
  simp only [Option.map_eq_some_iff] at h
  obtain ⟨L, hL, h⟩ := h
  rename_i k q n x cs hk
  cases h
  rw [asBs_inv hL] at hk
  obtain ⟨h1, h2, h3⟩ := hp
  have e : bs L = bs (L.take (q + n) ++ L.drop (q + n)) := by rw [List.take_append_drop]
  have hk0 := hk
  rw [e] at hk
  exact (runs32 (L.take (q + n)) (L.drop (q + n)) q n (fun b hb => h1 b (List.mem_of_mem_take hb)) h2 (by rw [List.length_take]; omega)).atK (ro_same fun i cs hi => by rcases i with _ | i <;> simp at hi ⊢; exact hi) [k] (by simp) (by simp) (by simp [hk]) (by simp) (by rw [renE_oneR]; simp [sh]) (by simp [upd_get hk0])

/-! What bytes say. -/
def decF : Nat → List Int → Nat → List Ins → Option (List Ins)
  | 0, _, _, _ => none
  | f + 1, B, p, acc => if p < B.length then (match stepD B p with
    | some (i, q) => if rightI i then decF f B q (acc ++ [i]) else none
    | none => none) else some acc
def decB (B : List Int) : Option (List Ins) := decF (B.length + 1) B 0 []
theorem stepD_le {B : List Int} {p q : Nat} {i : Ins} (hp : p < B.length) (h : stepD B p = some (i, q)) : p < q ∧ q ≤ B.length := by
  unfold stepD at h
  split at h
  · split at h
    · cases h; omega
    · cases h
  · split at h
    · split at h
      · cases h; omega
      · cases h
    · cases h; omega
theorem decF_bad1 {f : Nat} {B : List Int} {p : Nat} {acc : List Ins} (hp : p < B.length) (h : stepD B p = none) : decF (f + 1) B p acc = none := by rw [decF, if_pos hp, h]
theorem decF_bad2 {f : Nat} {B : List Int} {p q : Nat} {i : Ins} {acc : List Ins} (hp : p < B.length) (h : stepD B p = some (i, q)) (hr : rightI i = false) : decF (f + 1) B p acc = none := by
  rw [decF, if_pos hp, h]
  simp [hr]
theorem decF_step {f : Nat} {B : List Int} {p q : Nat} {i : Ins} {acc : List Ins} (hp : p < B.length) (h : stepD B p = some (i, q)) (hr : rightI i = true) : decF (f + 1) B p acc = decF f B q (acc ++ [i]) := by
  rw [decF, if_pos hp, h]
  simp [hr]
theorem decF_end {f : Nat} {B : List Int} {p : Nat} {acc : List Ins} (hp : ¬ p < B.length) : decF (f + 1) B p acc = some acc := by rw [decF, if_neg hp]
def decR (D : Option (List Ins)) (k : Nat) : AEnd := match D with
  | some l => .ret (.tuple #[.slice (some ⟨k, 0, none⟩) l.length 1, .int .i64 0])
  | none => .ret (.tuple #[.slice none 0 0, .int .i64 3])
def decO (D : Option (List Ins)) : AObj GD := .arr 26 (match D with
  | some l => inss l
  | none => [])

theorem inss_single (i : Ins) : inss [i] = [.int .u8 i.o, .int .i64 i.a, .int .u64 i.v] := rfl
def tblDc : List (FuncId × CStep GD) := [(32, st32)]
theorem tblDc_ok : ∀ x ∈ tblDc, CStepOk Tryd.prog cfg x.1 x.2 := by simp [tblDc, st32_ok]
set_option maxHeartbeats 4000000 in
theorem runs13 (L : List Int) (N : Nat) (hL : ByteL L) (hN : N ≤ L.length) (h400 : N ≤ 1000) : Runs Tryd.prog cfg 13 [.slice (some ⟨0, 0, none⟩) N 0] (AH.of [some (.ro (bs L))])
    fun r H' => r = decR (decB (L.take N)) 1 ∧ H' = AH.of [some (.ro (bs L)), some (decO (decB (L.take N)))] := by
  refine Runs.ends ?_
  obtain ⟨B, hB⟩ : ∃ B, L.take N = B := ⟨_, rfl⟩
  have hBl : B.length = N := by rw [← hB, List.length_take]; omega
  rw [hB]
  obtain ⟨D, hD⟩ : ∃ D, decB B = D := ⟨_, rfl⟩
  rw [hD]
  refine runs_by (tbl := tblDc) tblDc_ok 1001 0 (af := a13) rfl ?_
  rw [a13, b13, run_eq]
  refine ⟨by simp, ?_⟩
  simp (implicitDefEqProofs := false)
  refine loop_view (sg_mono gX_ok (tabS_ok tblDc_ok) _ _ noY noY_mono) (fun m tm H => ∃ p : Nat, p ≤ N ∧ N ≤ m + p ∧ tm 0 = .slice (some ⟨0, p, none⟩) (N - p) 0 ∧ ∃ acc : List Ins, acc.length ≤ p ∧ decF (m + 1) B p acc = D ∧ tm 4 = .slice (some ⟨1, 0, none⟩) acc.length 1 ∧
    H = AH.of [some (.ro (bs L)), some (.arr 26 (inss acc))]) (m := N) ?_ (by omega) ?_
  · refine round_wk [.nil 26] [0, 1] [some (.ro (bs L)), some (.arr 26 (inss []))] [(4, .slice (some ⟨1, 0, none⟩) 0 1)] N (by omega) ?_ ?_ ?_ ⟨0, by omega, by omega, ?_, [], by simp, by rw [← hD, decB, hBl], ?_⟩ <;> simp [inss]
    done
  rintro m tm H ⟨p, hpN, hNm, t0, acc, hap, hdec, t4, rfl⟩
  by_cases hp : p < N
  · have hp' : p < B.length := by omega
    have hn0 : 0 < N - p := by omega
    have hn0' : (0 : Int) < ((N - p : Nat) : Int) := by omega
    have e1 : p + (N - p) = N := by omega
    have hla : acc.length * 3 ≤ (inss acc).length := by rw [inss_length]; omega
    have htk : (inss acc).take (acc.length * 3) = inss acc := by rw [inss_take, List.take_of_length_le (by omega)]
    have hr3 : (acc.length + 1) * 24 ≤ 140737488355328 ∧ acc.length ≤ 9223372036854775806 := by omega
    cases hs : stepD B p with
    | none =>
      have hone : oneR B p 0 = .ret (.tuple #[.agg #[.int .u8 (atB B p), .int .i64 0, .int .u64 0], .slice none 0 0, .bool false]) := by rw [oneR, hs]
      have hDn : D = none := by rw [← hdec]; exact decF_bad1 hp' hs
      simp (implicitDefEqProofs := false) [tblDc, st32, t0, t4, hn0, hn0', e1, hB, hN, hL, hone]
      simp only [decR, decO, hDn]
      refine ends_plan [.nil 26] [0, 3] ?_ ?_ ?_ <;> simp
    | some iq =>
      obtain ⟨i, q⟩ := iq
      have hone : oneR B p 0 = .ret (.tuple #[.agg #[.int .u8 i.o, .int .i64 i.a, .int .u64 i.v], .slice (some ⟨0, q, none⟩) (B.length - q) 0, .bool (rightI i)]) := by rw [oneR, hs]
      have hq := stepD_le hp' hs
      cases hr : rightI i with
      | false =>
        have hDn : D = none := by rw [← hdec]; exact decF_bad2 hp' hs hr
        simp (implicitDefEqProofs := false) [tblDc, st32, t0, t4, hn0, hn0', e1, hB, hN, hL, hone, hr]
        simp only [decR, decO, hDn]
        refine ends_plan [.nil 26] [0, 3] ?_ ?_ ?_ <;> simp
      | true =>
        have hm : ∃ m', m = m' + 1 := ⟨m - 1, by omega⟩
        obtain ⟨m', rfl⟩ := hm
        have hD2 : decF (m' + 1) B q (acc ++ [i]) = D := by rw [← hdec]; exact (decF_step hp' hs hr).symm
        simp (implicitDefEqProofs := false) [tblDc, st32, t0, t4, hn0, hn0', e1, hB, hN, hL, hone, hr, hla, htk, hr3]
        refine round_plan [] [0, 4] [some (.ro (bs L)), some (.arr 26 (inss (acc ++ [i])))] m' (by omega) ?_ ?_ ⟨q, by omega, by omega, ?_, acc ++ [i], by simp; omega, hD2, ?_⟩ <;> simp [t0, t4, hBl, inss_append, inss_single]
  · have hpe : p = N := by omega
    have hDs : D = some acc := by rw [← hdec]; exact decF_end (by omega)
    have hz : N - p = 0 := by omega
    simp (implicitDefEqProofs := false) [t0, t4, hz]
    simp only [decR, decO, hDs]
    refine ends_plan [] [0, 1] ?_ ?_ ?_ <;> simp
end YteegnbbblcokdaaDoor
end Go.Proofs
/-
  CODE: the reference's Decode.
-/
set_option linter.unusedSimpArgs false
set_option linter.unusedVariables false
set_option linter.unnecessarySimpa false
set_option linter.unusedSectionVars false
namespace Go.Proofs
namespace YteegnbbblcokdaaDoor
open Go.Abs
set_option linter.unusedSimpArgs false

def tblDr : List (FuncId × CStep GD) := [(21, st21), (20, st20)]
theorem tblDr_ok : ∀ x ∈ tblDr, CStepOk Tryd.prog cfg x.1 x.2 := by simp [tblDr, st21_ok, st20_ok]
end YteegnbbblcokdaaDoor
end Go.Proofs
/-
  CODE: the law of the forms.
-/
set_option linter.unusedSimpArgs false
set_option linter.unusedVariables false
set_option linter.unnecessarySimpa false
set_option linter.unusedSectionVars false
namespace Go.Proofs
namespace YteegnbbblcokdaaDoor
open Go.Abs
set_option linter.unusedSimpArgs false

def shortS (s : ByteArray) : ByteArray := if 200 < s.size then s.extract 0 200 else s
def p8 : PStep
  | [.string s] => some (True, .string (shortS s))
  | _ => none
abbrev st8 := pureStep p8
theorem st8_ok : CStepOk Tryd.prog cfg 8 st8 := pure_ok fun args p v h hp => by
  unfold p8 at h
  split at h
  case h_2 => cases h
  rename_i s
  cases h
  refine ⟨rfl, rfl, ?_⟩
  refine Runs.ends ?_
  by_cases hs : 200 < s.size
  · have h1 : (200 : Int) < s.size := by omega
    have h2 : (200 : Int) ≤ s.size := by omega
    refine runs_by (tbl := []) (by simp) 0 0 (af := a8) rfl ?_
    rw [a8, b8, run_eq]
    refine ⟨by simp, ?_⟩
    simp (implicitDefEqProofs := false) [h1, h2]
    refine ends_plan [] [] ?_ ?_ ?_ <;> simp [shortS, hs]
  · have h1 : ¬ (200 : Int) < s.size := by omega
    refine runs_by (tbl := []) (by simp) 0 0 (af := a8) rfl ?_
    rw [a8, b8, run_eq]
    refine ⟨by simp, ?_⟩
    simp (implicitDefEqProofs := false) [h1]
    refine ends_plan [] [] ?_ ?_ ?_ <;> simp [shortS, hs]

end YteegnbbblcokdaaDoor
end Go.Proofs
/-
  CODE: Decode of both as contracts; Same; the law of the bytes.
-/
set_option linter.unusedSimpArgs false
set_option linter.unusedVariables false
set_option linter.unnecessarySimpa false
set_option linter.unusedSectionVars false
namespace Go.Proofs
namespace YteegnbbblcokdaaDoor
open Go.Abs
set_option linter.unusedSimpArgs false

theorem inss_gr (l : List Ins) : grounds (inss l) = true := by
  induction l with
  | nil => rfl
  | cons e l ih => rw [inss_cons]; simpa [grounds, ground] using ih
theorem ren_decO (θ : Nat → Nat) (D : Option (List Ins)) : (decO D).ren θ = decO D := by
  unfold decO
  cases D with
  | none => rfl
  | some l => exact congrArg (AObj.arr _) (rens_ground θ _ (inss_gr l))
theorem renE_decR (θ : Nat → Nat) (D : Option (List Ins)) (k : Nat) : renE θ (decR D k) = decR D (θ k) := by
  unfold decR
  split
  · rw [renE_ret]; simp [ren]
  · rw [renE_ret]; simp [ren]
/-- What two functions of bytes have in common. -/
theorem dec_ro {f : FuncId} (hf : ∀ (L : List Int) (N : Nat), ByteL L → N ≤ L.length → N ≤ 1000 → Runs Tryd.prog cfg f [.slice (some ⟨0, 0, none⟩) N 0] (AH.of [some (.ro (bs L))])
    fun r H' => r = decR (decB (L.take N)) 1 ∧ H' = AH.of [some (.ro (bs L)), some (decO (decB (L.take N)))]) {H : AH GD} {k : Nat} {L : List Int} (hk : H.get k = some (.ro (bs L))) (hok : ByteL L) {n : Nat} (hn : n ≤ L.length) (hl : n ≤ 1000) :
    Runs Tryd.prog cfg f [.slice (some ⟨k, 0, none⟩) n 0] H fun r H' => r = decR (decB (L.take n)) H.next ∧ H' = H.add (decO (decB (L.take n))) :=
  (hf L n hok hn hl).atK (ro_same fun i cs hi => by rcases i with _ | _ | i <;> simp [decO] at hi ⊢; exact hi) [k] (by simp) (by simp) (by simp [hk]) (by simp) (by rw [renE_decR]; simp [sh]) (by
    have := ren_decO (sh 1 H.next [k]) (decB (L.take n))
    unfold decO at this ⊢
    simp [upd_get hk, this])
theorem dec_weak {f : FuncId} {H : AH GD} {k n tg : Nat} {Q : AEnd → AH GD → Prop} (h : Runs Tryd.prog cfg f [.slice (some ⟨k, 0, none⟩) n 0] H Q) : Runs Tryd.prog cfg f [.slice (some ⟨k, 0, none⟩) n tg] H Q := by
  refine ⟨h.1, fun ρ own w args' hr hv => h.2 ρ own w args' hr ?_⟩
  obtain ⟨l⟩ := args'
  simp only at hv ⊢
  cases hv with
  | cons _ v' _ _ h1 h2 =>
    refine .cons _ _ _ _ ?_ h2
    cases h1 with
    | slice _ _ o' _ _ cc l a b c d e => exact .slice _ _ _ _ _ _ _ a b c (fun h => by cases h) (fun m hm => by omega)
    | slicen _ _ a cc b c => exact .slicen _ _ _ _ (by omega) (fun h => c (h.elim (fun h => absurd h (by omega)) .inr))
theorem dec_arr {f : FuncId} (hf : ∀ (L : List Int) (N : Nat), ByteL L → N ≤ L.length → N ≤ 1000 → Runs Tryd.prog cfg f [.slice (some ⟨0, 0, none⟩) N 0] (AH.of [some (.ro (bs L))])
    fun r H' => r = decR (decB (L.take N)) 1 ∧ H' = AH.of [some (.ro (bs L)), some (decO (decB (L.take N)))]) {H : AH GD} {k : Nat} {e : TypeId} {L : List Int} (hk : H.get k = some (.arr e (bs L))) (hkn : k < H.next) (hok : ByteL L) {n : Nat} (hn : n ≤ L.length) (hl : n ≤ 1000) :
    Runs Tryd.prog cfg f [.slice (some ⟨k, 0, none⟩) n 0] H fun r H' => r = decR (decB (L.take n)) H.next ∧ H' = H.add (decO (decB (L.take n))) := by
  refine Runs.borrow k hk ((dec_ro hf (H := H.upd k (.ro (bs L))) (by rw [AH.get_upd, if_pos rfl]) hok hn hl).mono ?_)
  rintro r H' ⟨h1, rfl⟩
  refine ⟨by rw [AH.get_add, AH.next_upd, if_neg (by omega), AH.get_upd, if_pos rfl], fun j cs2 hj hcs hne => ⟨cs2, ?_, hne⟩, by rw [h1, AH.next_upd], ?_⟩
  · rw [AH.get_add, AH.next_upd] at hcs
    split at hcs
    · unfold decO at hcs; cases hcs
    · rw [AH.get_upd, if_neg hj] at hcs; exact hcs
  · refine AH.ext' (by simp) fun j => ?_
    rw [AH.get_upd, AH.get_add, AH.get_add, AH.next_upd, AH.get_upd]
    by_cases h : j = k
    · subst h; rw [if_pos rfl, if_neg (by omega), hk]
    · rw [if_neg h, if_neg h]
def decSt : CStep GD := fun args H => match args with
  | [.slice (some ⟨k, 0, none⟩) n _] => match H.get k with
    | some (.ro cs) => (asBs cs).map fun l => (n ≤ l.length ∧ ByteL l ∧ n ≤ 1000, decR (decB (l.take n)) H.next, H.add (decO (decB (l.take n))))
    | some (.arr e cs) => (asBs cs).map fun l => (k < H.next ∧ n ≤ l.length ∧ ByteL l ∧ n ≤ 1000, decR (decB (l.take n)) H.next, H.add (decO (decB (l.take n))))
    | _ => none
  | _ => none
theorem decSt_ok {f : FuncId} (hf : ∀ (L : List Int) (N : Nat), ByteL L → N ≤ L.length → N ≤ 1000 → Runs Tryd.prog cfg f [.slice (some ⟨0, 0, none⟩) N 0] (AH.of [some (.ro (bs L))])
    fun r H' => r = decR (decB (L.take N)) 1 ∧ H' = AH.of [some (.ro (bs L)), some (decO (decB (L.take N)))]) : CStepOk Tryd.prog cfg f decSt := by
  intro args H p r H' h hp
  unfold decSt at h
  split at h
  case h_2 => cases h
  split at h
  · simp only [Option.map_eq_some_iff] at h
    obtain ⟨l, hl, h⟩ := h
    rename_i hk
    cases h
    rw [asBs_inv hl] at hk
    obtain ⟨h1, h2, h3⟩ := hp
    exact dec_weak (dec_ro hf hk h2 h1 h3)
  · simp only [Option.map_eq_some_iff] at h
    obtain ⟨l, hl, h⟩ := h
    rename_i hk
    cases h
    rw [asBs_inv hl] at hk
    obtain ⟨h0, h1, h2, h3⟩ := hp
    exact dec_weak (dec_arr hf hk h0 h2 h1 h3)
  · cases h
theorem dec_code : CStepOk Tryd.prog cfg 13 decSt := decSt_ok runs13
/-! Same -/
theorem aeq_ins (o o' a a' v v' : Int) : aeqF [(0, 1, false, .int), (1, 1, false, .int), (2, 1, false, .int)] [.int .u8 o, .int .i64 a, .int .u64 v] [.int .u8 o', .int .i64 a', .int .u64 v'] = some (decide ((⟨o, a, v⟩ : Ins) = ⟨o', a', v'⟩)) := by
  have beq : ∀ a b : Int, (a == b) = decide (a = b) := fun a b => by by_cases h : a = b <;> simp [h]
  by_cases h1 : o = o' <;> by_cases h2 : a = a' <;> by_cases h3 : v = v' <;> simp [aeq, aeqF, aggOf2, partOf, eqInt, beq, h1, h2, h3]
set_option maxHeartbeats 4000000 in
theorem runs14 (a b : List Ins) (n m ta tb : Nat) (hn : n ≤ a.length) (hm : m ≤ b.length) (hl : n ≤ 1000) : Runs Tryd.prog cfg 14 [.slice (some ⟨0, 0, none⟩) n ta, .slice (some ⟨1, 0, none⟩) m tb] (AH.of [some (.ro (inss a)), some (.ro (inss b))])
    fun r H' => r = .ret (.bool (decide (a.take n = b.take m))) ∧ H' = AH.of [some (.ro (inss a)), some (.ro (inss b))] := by
  refine Runs.ends ?_
  by_cases hnm : n = m
  · subst hnm
    refine runs_by (tbl := []) (by simp) 1001 0 (af := a14) rfl ?_
    rw [a14, b14, run_eq]
    refine ⟨by simp, ?_⟩
    simp (implicitDefEqProofs := false)
    refine loop_inv (sg_mono gX_ok (tabS_ok (by simp)) _ _ noY noY_mono) (fun mm tm H => ∃ i : Nat, mm + i = n ∧ a.take i = b.take i ∧ tm 0 = .slice (some ⟨0, 0, none⟩) n ta ∧ tm 1 = .slice (some ⟨1, 0, none⟩) n tb ∧ tm 5 = .int .i64 i ∧ H = AH.of [some (.ro (inss a)), some (.ro (inss b))]) (m := n) ⟨0, by simp⟩ (by omega) ?_
    rintro mm tm H ⟨i, hmm, hpre, t0, t1, t5, rfl⟩
    by_cases hi : i < n
    · obtain ⟨x, hx⟩ : ∃ x, a[i]? = some x := ⟨a[i]'(by omega), List.getElem?_eq_getElem (by omega)⟩
      obtain ⟨y, hy⟩ : ∃ y, b[i]? = some y := ⟨b[i]'(by omega), List.getElem?_eq_getElem (by omega)⟩
      have hi' : (i : Int) < n := by omega
      have hwr := inc_i64 hi (by omega)
      have rx := many_inss hx
      have ry := many_inss hy
      have lx : i * 3 + 3 ≤ (inss a).length := by rw [inss_length]; omega
      have ly : i * 3 + 3 ≤ (inss b).length := by rw [inss_length]; omega
      by_cases hxy : x = y
      · subst hxy
        have hpre2 : a.take (i + 1) = b.take (i + 1) := by rw [List.take_add_one, List.take_add_one, hpre, hx, hy]
        simp (implicitDefEqProofs := false) [t0, t1, t5, hi, hi', rx, ry, lx, ly, Ins.cells, aeq_ins, aggOf2, hwr]
        exact ⟨mm - 1, by omega, i + 1, by omega, hpre2, by omega⟩
      · have hne : a.take n ≠ b.take n := fun e => hxy (by
          have e1 : (a.take n)[i]? = some x := by rw [List.getElem?_take, if_pos hi]; exact hx
          rw [e, List.getElem?_take, if_pos hi, hy] at e1
          exact (Option.some.inj e1).symm)
        have hxy2 : ¬ ((⟨x.o, x.a, x.v⟩ : Ins) = ⟨y.o, y.a, y.v⟩) := fun h => hxy h
        simp (implicitDefEqProofs := false) [t0, t1, t5, hi, hi', rx, ry, lx, ly, Ins.cells, aeq_ins, aggOf2, hwr, hne, hxy]
        refine ends_plan [] [0, 1] ?_ ?_ ?_ <;> simp
    · have hie : i = n := by omega
      subst hie
      have hi' : ¬ (i : Int) < i := by omega
      simp (implicitDefEqProofs := false) [t0, t1, t5, hpre]
      refine ends_plan [] [0, 1] ?_ ?_ ?_ <;> simp
  · have hne : a.take n ≠ b.take m := fun e => hnm (by
      have := congrArg List.length e
      rw [List.length_take, List.length_take] at this; omega)
    have hnm' : ¬ (n : Int) = m := by omega
    refine runs_by (tbl := []) (by simp) 1001 0 (af := a14) rfl ?_
    rw [a14, b14, run_eq]
    refine ⟨by simp, ?_⟩
    simp (implicitDefEqProofs := false) [hnm', hnm, hne]
    refine ends_plan [] [0, 1] ?_ ?_ ?_ <;> simp

theorem borrow_same {f : FuncId} {args : List Value} {H : AH GD} {k : Nat} {e : TypeId} {cs : List Value} {r0 : AEnd} (hk : H.get k = some (.arr e cs))
    (h : Runs Tryd.prog cfg f args (H.upd k (.ro cs)) fun r H' => r = r0 ∧ H' = H.upd k (.ro cs)) : Runs Tryd.prog cfg f args H fun r H' => r = r0 ∧ H' = H := by
  refine Runs.borrow k hk (h.mono ?_)
  rintro r H' ⟨h1, rfl⟩
  refine ⟨by rw [AH.get_upd, if_pos rfl], fun j cs2 hj hcs hne => ⟨cs2, by rw [AH.get_upd, if_neg hj] at hcs; exact hcs, hne⟩, h1, ?_⟩
  rw [upd_upd, upd_get hk]
def insAt (H : AH GD) (k : Nat) : Option (List Ins) := (H.row k).bind asInss
theorem insAt_inv {H : AH GD} {k : Nat} {l : List Ins} (h : insAt H k = some l) : H.get k = some (.ro (inss l)) ∨ ∃ e, H.get k = some (.arr e (inss l)) := by
  unfold insAt AH.row at h
  split at h
  · rename_i e cs hk
    exact .inr ⟨e, by rw [hk, asInss_inv h]⟩
  · rename_i cs hk
    exact .inl (by rw [hk, asInss_inv h])
  · cases h
theorem same_ro {H : AH GD} {k j : Nat} {a b : List Ins} {n m ta tb : Nat} (hk : H.get k = some (.ro (inss a))) (hj : H.get j = some (.ro (inss b))) (hkj : k ≠ j) (hn : n ≤ a.length) (hm : m ≤ b.length) (hl : n ≤ 1000) :
    Runs Tryd.prog cfg 14 [.slice (some ⟨k, 0, none⟩) n ta, .slice (some ⟨j, 0, none⟩) m tb] H fun r H' => r = .ret (.bool (decide (a.take n = b.take m))) ∧ H' = H :=
  (runs14 a b n m ta tb hn hm hl).atK (ro_same fun i cs hi => hi) [k, j] (by simp [hkj]) (by simp) (by simp [hk, hj]) (by simp) (by simp) (by
    simp [upd_get hk, upd_get hj])
theorem same_any {H : AH GD} {k j : Nat} {a b : List Ins} {n m ta tb : Nat} (hk : insAt H k = some a) (hj : insAt H j = some b) (hkj : k ≠ j) (hn : n ≤ a.length) (hm : m ≤ b.length) (hl : n ≤ 1000) :
    Runs Tryd.prog cfg 14 [.slice (some ⟨k, 0, none⟩) n ta, .slice (some ⟨j, 0, none⟩) m tb] H fun r H' => r = .ret (.bool (decide (a.take n = b.take m))) ∧ H' = H := by
  rcases insAt_inv hk with hk | ⟨e, hk⟩ <;> rcases insAt_inv hj with hj | ⟨e', hj⟩
  · exact same_ro hk hj hkj hn hm hl
  · exact borrow_same hj (same_ro (by rw [AH.get_upd, if_neg hkj]; exact hk) (by rw [AH.get_upd, if_pos rfl]) hkj hn hm hl)
  · exact borrow_same hk (same_ro (by rw [AH.get_upd, if_pos rfl]) (by rw [AH.get_upd, if_neg (Ne.symm hkj)]; exact hj) hkj hn hm hl)
  · refine borrow_same hk (borrow_same (H := H.upd k (.ro (inss a))) (k := j) (by rw [AH.get_upd, if_neg (Ne.symm hkj)]; exact hj) (same_ro ?_ (by rw [AH.get_upd, if_pos rfl]) hkj hn hm hl))
    rw [AH.get_upd, if_neg hkj, AH.get_upd, if_pos rfl]
theorem same_nil (H : AH GD) : Runs Tryd.prog cfg 14 [.slice none 0 0, .slice none 0 0] H fun r H' => r = .ret (.bool true) ∧ H' = H := by
  refine runs_by (tbl := []) (by simp) 1 0 (af := a14) rfl ?_
  rw [a14, b14, run_eq]
  refine ⟨by simp, ?_⟩
  simp (implicitDefEqProofs := false)
  refine loop_inv (sg_mono gX_ok (tabS_ok (by simp)) _ _ noY noY_mono) (fun mm tm H' => mm = 0 ∧ tm 0 = .slice none 0 0 ∧ tm 5 = .int .i64 0 ∧ H' = H) (m := 0) (by simp) (by omega) ?_
  rintro mm tm H' ⟨rfl, t0, t5, rfl⟩
  simp (implicitDefEqProofs := false) [t0, t5]
def st14 : CStep GD := fun args H => match args with
  | [.slice none 0 0, .slice none 0 0] => some (True, .ret (.bool true), H)
  | [.slice (some ⟨k, 0, none⟩) n _, .slice (some ⟨j, 0, none⟩) m _] => match insAt H k, insAt H j with
    | some a, some b => some (k ≠ j ∧ n ≤ a.length ∧ m ≤ b.length ∧ n ≤ 1000, .ret (.bool (decide (a.take n = b.take m))), H)
    | _, _ => none
  | _ => none
theorem st14_ok : CStepOk Tryd.prog cfg 14 st14 := by
  intro args H p r H' h hp
  unfold st14 at h
  split at h
  · cases h; exact same_nil H
  · split at h
    · rename_i h1 h2
      cases h
      exact same_any h1 h2 hp.1 hp.2.1 hp.2.2.1 hp.2.2.2
    · cases h
  · cases h
theorem insAt_of (l : List (Option (AObj GD))) (k : Nat) : insAt (AH.of l) k = match (l[k]?).join with
  | some (.arr _ cs) => asInss cs
  | some (.ro cs) => asInss cs
  | _ => none := by
  unfold insAt
  rw [of_row]
  generalize (l[k]?).join = x
  rcases x with _ | o
  · rfl
  · cases o <;> rfl

/-! The law of the bytes. -/
theorem decB_len {B : List Int} {l : List Ins} (h : decB B = some l) : l.length ≤ B.length := by
  have key : ∀ f p acc, p ≤ B.length → ∀ l, decF f B p acc = some l → l.length ≤ acc.length + (B.length - p) := by
    intro f
    induction f with
    | zero => intro p acc _ l h; cases h
    | succ f ih =>
      intro p acc hp l h
      rw [decF] at h
      split at h
      · split at h
        · rename_i i q hs
          split at h
          · have := stepD_le ‹_› hs
            have h2 := ih q _ this.2 l h
            rw [List.length_append, List.length_singleton] at h2
            omega
          · cases h
        · cases h
      · cases h; omega
  have := key _ 0 [] (by omega) l h
  simpa using this
end YteegnbbblcokdaaDoor
end Go.Proofs
/-
  What bytes read as.
-/
set_option linter.unusedSimpArgs false
set_option linter.unusedVariables false
set_option linter.unnecessarySimpa false
set_option linter.unusedSectionVars false
namespace Go.Proofs
namespace YteegnbbblcokdaaDoor
open Go.Abs Go.ChangeShapes Go.WideShapes Go.ChangeAt Go.RowKit
set_option linter.unusedSimpArgs false
set_option linter.unusedVariables false
set_option maxRecDepth 100000

section
variable {H : Type} {enc : TypeId × Value → H} {w : World}
theorem byte_cell {fuel : Nat} {cs : List Value} {y : DataW H × List MemPlace} (h : DataW.trod enc Tryd.prog w 0 (fun _ => true) true fuel 5 cs = some y) : ∃ v : Int, cs = [.int .u8 v] ∧ (0 ≤ v ∧ v < 256) := by
  obtain ⟨a, ha, _, hw⟩ := DataW.trod_int Tryd.underlying5 h
  exact ⟨a, ha, wf_u8 hw⟩
theorem bs_flat (h : List Int) : h.flatMap (fun v => [Value.int .u8 v]) = bs h := by
  induction h with
  | nil => rfl
  | cons v h ih => rw [List.flatMap_cons, ih]; rfl
theorem bs_one (l : List Int) : (bs l).all (·.oneCell') = true := by simp [bs, Value.oneCell']
theorem open_bytes {r : Reach} {b0 : Nat} {v : Value} {d : DataW H} {ps : List MemPlace} (hok : Value.okWide Tryd.prog w r b0 36 v) (hd : DataW.Trod enc Tryd.prog w 0 (fun _ => true) true 36 v d ps) :
    ∃ l : List Int, ByteL l ∧ l.length ≤ maxLen ∧ ArgRow w v l.length (bs l) := by
  obtain ⟨l, h1, h2, h3⟩ := open_rows (ea := fun v => [Value.int .u8 v]) (Ok := fun v => 0 ≤ v ∧ v < 256) Tryd.underlying36 (by rw [cells5]; omega) (fun x => cells5.symm) (fun _ _ _ h => byte_cell h) hok hd
  rw [bs_flat] at h3
  exact ⟨l, h1, h2, h3⟩
end
end YteegnbbblcokdaaDoor
end Go.Proofs
/-
  VALUES: which are the same.
-/
set_option linter.unusedSimpArgs false
set_option linter.unusedVariables false
set_option linter.unnecessarySimpa false
set_option linter.unusedSectionVars false
namespace Go.Proofs
namespace YteegnbbblcokdaaDoor
open Go.Abs
set_option linter.unusedSimpArgs false

def canonV (v : Int) : Int := if rightB v then v else 9221120237041090560
theorem runs36 (v : Int) (H : AH GD) : Runs Tryd.prog cfg 36 [.int .u64 v] H fun r H' => r = .ret (.int .u64 (canonV v)) ∧ H' = H := by
  refine runs_by (tbl := [(34, st34)]) (by simp [st34_ok]) 0 0 (af := a36) rfl ?_
  rw [a36, b36, run_eq]
  refine ⟨by simp, ?_⟩
  simp (implicitDefEqProofs := false) [st34]
  repeat' (first | with_reducible apply And.intro | with_reducible intro _)
  all_goals simp [canonV, *]
def st36 : CStep GD := fun args H => match args with
  | [x] => (asU x).map fun v => (True, .ret (.int .u64 (canonV v)), H)
  | _ => none
theorem st36_ok : CStepOk Tryd.prog cfg 36 st36 := by
  intro args H p r H' h hp
  unfold st36 at h
  split at h
  case h_2 => cases h
  simp only [Option.map_eq_some_iff] at h
  obtain ⟨v, hv, h⟩ := h
  cases h
  rw [asU_inv hv]
  exact runs36 v H
def sameB (a b : Int) : Bool := decide (canonV a = canonV b)
end YteegnbbblcokdaaDoor
end Go.Proofs
/-
  TEXTS: the library's Join, Itoa of what is small, the references' Digits.
-/
set_option linter.unusedSimpArgs false
set_option linter.unusedVariables false
set_option linter.unnecessarySimpa false
set_option linter.unusedSectionVars false
namespace Go.Proofs
namespace YteegnbbblcokdaaDoor
open Go.Abs
set_option linter.unusedSimpArgs false

def asStrs : List Value → Option (List ByteArray)
  | [] => some []
  | .string s :: l => (asStrs l).map (s :: ·)
  | _ => none
theorem asStrs_strs : ∀ l : List ByteArray, asStrs (strs l) = some l
  | [] => rfl
  | s :: l => by
    show (asStrs (strs l)).map (s :: ·) = _
    rw [asStrs_strs l]; rfl
theorem asStrs_inv : ∀ {cs : List Value} {l : List ByteArray}, asStrs cs = some l → cs = strs l
  | cs, l, e => by
    unfold asStrs at e
    split at e
    · cases e; rfl
    · simp only [Option.map_eq_some_iff] at e
      obtain ⟨l', e1, rfl⟩ := e
      rw [asStrs_inv e1]; rfl
    · cases e
attribute [simp] asStrs_strs
theorem join_in : ∀ args w, (callFunc 19 args).run Tryd.prog w = .ok (.enter 19 args) w := callable_of Tryd.func19 (by kernel_rfl) (by kernel_rfl)
def st19 : CStep GD := fun args H => match args with
  | [.slice (some ⟨k, 0, none⟩) n _, .string sep] => match H.get k with
    | some (.arr _ cs) => (asStrs cs).map fun xs => (n = xs.length ∧ xs ≠ [] ∧ xs.length ≤ 1000 ∧ (joinS xs sep).size ≤ 1000000, .ret (.string (joinS xs sep)), H)
    | _ => none
  | _ => none
theorem st19_ok : CStepOk Tryd.prog cfg 19 st19 := by
  intro args H p r H' h hp
  unfold st19 at h
  split at h
  case h_2 => cases h
  split at h
  case h_2 => cases h
  simp only [Option.map_eq_some_iff] at h
  obtain ⟨xs, hx, h⟩ := h
  rename_i k n tg sep x e cs hk
  cases h
  rw [asStrs_inv hx] at hk
  obtain ⟨h1, h2, h3, h4⟩ := hp
  rw [h1]
  exact (runs_join join_in (fun bk o c xs sep w g1 g2 g3 g4 g5 => Tryd.strings_Join bk o c xs sep w g1 g2 g3 g4 g5) e xs sep tg h2 (by omega) (by omega)).atK (ro_none rfl) [k] (by simp) (by simp) (by simp [hk]) (by simp) (by simp) (by simp [upd_get hk])

/-! Itoa -/
def decS (n : Nat) : ByteArray := ⟨(Lib.decDigits n).toArray⟩
theorem decDigits_one {n : Nat} (h : n < 10) : Lib.decDigits n = [UInt8.ofNat (48 + n)] := by unfold Lib.decDigits; simp [h]
theorem decDigits_two {n : Nat} (h : 10 ≤ n) (h2 : n < 100) : Lib.decDigits n = [UInt8.ofNat (48 + n / 10), UInt8.ofNat (48 + n % 10)] := by
  rw [Lib.decDigits, dif_neg (by omega), decDigits_one (by omega)]; rfl
theorem itoa_in : ∀ args w, (callFunc 17 args).run Tryd.prog w = .ok (.enter 17 args) w := callable_of Tryd.func17 (by kernel_rfl) (by kernel_rfl)
def p17 : PStep
  | [.int .i64 n] => some (0 ≤ n ∧ n < 100, .string (decS n.toNat))
  | _ => none
abbrev st17 := pureStep p17
theorem st17_ok : CStepOk Tryd.prog cfg 17 st17 := pure_ok fun args p v h hp => by
  unfold p17 at h
  split at h
  · rename_i n
    cases h
    refine ⟨rfl, rfl, ?_⟩
    have e : n = (n.toNat : Int) := by omega
    rw [e]
    exact runs_still itoa_in rfl rfl (fun w => Tryd.strconv_Itoa_small n.toNat (by omega) w) _
  · cases h
end YteegnbbblcokdaaDoor
end Go.Proofs
/-
  TEXTS: a value's digits.
-/
set_option linter.unusedSimpArgs false
set_option linter.unusedVariables false
set_option linter.unnecessarySimpa false
set_option linter.unusedSectionVars false
namespace Go.Proofs
namespace YteegnbbblcokdaaDoor
open Go.Abs
set_option linter.unusedSimpArgs false

/-- A digit, and what is written of it. -/
def hexC (d : Nat) : Nat := if d < 10 then 48 + d else 87 + d
theorem hexC_lt (d : Nat) (h : d < 16) : hexC d < 256 := by unfold hexC; split <;> omega
theorem hexC_at : ∀ d, d < 16 → ([48, 49, 50, 51, 52, 53, 54, 55, 56, 57, 97, 98, 99, 100, 101, 102] : List UInt8)[d]? = some (UInt8.ofNat (hexC d)) := by decide
def byL (l : List Nat) : List Value := l.map fun n : Nat => Value.int .u8 (n : Int)
theorem byL_length (l : List Nat) : (byL l).length = l.length := by simp [byL]
theorem byL_set (l : List Nat) (i n : Nat) : (byL l).set i (.int .u8 n) = byL (l.set i n) := by simp [byL, List.map_set]
theorem byL_ground (l : List Nat) : grounds (byL l) = true := by
  induction l with
  | nil => rfl
  | cons e l ih => simp [byL, grounds, ground] at ih ⊢; exact ih
theorem byL_ren (θ : Nat → Nat) (l : List Nat) : rens θ (byL l) = byL l := rens_ground θ _ (byL_ground l)
theorem byL_one (l : List Nat) : (byL l).all (·.oneCell') = true := by simp [byL, Value.oneCell']
attribute [simp] byL_length byL_ren
def hexD (w j : Nat) : Nat := w / 16 ^ (15 - j) % 16
def hexL (w : Nat) : List Nat := (List.range 16).map fun j => hexC (hexD w j)
def hexP (w i : Nat) : List Nat := (List.range 16).map fun j => if j < i then hexC (hexD w j) else 0
theorem hexP_set (w : Nat) {i : Nat} (h : i < 16) : (hexP w i).set i (hexC (hexD w i)) = hexP w (i + 1) := by
  refine List.ext_getElem? fun j => ?_
  by_cases hj : j < 16
  · rw [List.getElem?_set]
    by_cases hij : i = j
    · subst hij; simp [hexP, hj]
    · rw [if_neg hij]
      simp only [hexP, List.getElem?_map, List.getElem?_range hj, Option.map_some]
      have : (j < i) ↔ (j < i + 1) := by omega
      simp [this]
  · rw [List.getElem?_eq_none (by simp [hexP]; omega), List.getElem?_eq_none (by simp [hexP]; omega)]
theorem hexP_end (w : Nat) : hexP w 16 = hexL w := by
  unfold hexP hexL
  exact List.map_congr_left fun j hj => by rw [if_pos (List.mem_range.1 hj)]
def hexS (w : Nat) : ByteArray := ⟨((hexL w).map UInt8.ofNat).toArray⟩
theorem bytesOf_byL (l : List Nat) : bytesOf? (byL l) = some (l.map UInt8.ofNat) := by
  induction l with
  | nil => rfl
  | cons n l ih =>
    show (bytesOf? (byL l)).map _ = _
    rw [ih]; simp
def tblHx : List (FuncId × CStep GD) := [(36, st36)]
theorem tblHx_ok : ∀ x ∈ tblHx, CStepOk Tryd.prog cfg x.1 x.2 := by simp [tblHx, st36_ok]
set_option maxHeartbeats 2000000 in
theorem runs18 (v : Int) (hv : 0 ≤ v ∧ v < 18446744073709551616) : Runs Tryd.prog cfg 18 [.int .u64 v] (AH.of [])
    fun r H' => r = .ret (.string (hexS (canonV v).toNat)) ∧ H' = AH.of [] := by
  refine Runs.ends ?_
  have hc : 0 ≤ canonV v ∧ canonV v < 18446744073709551616 := by unfold canonV; split <;> omega
  obtain ⟨n, hn⟩ : ∃ n : Nat, canonV v = (n : Int) := ⟨(canonV v).toNat, by omega⟩
  have hnl : n < 18446744073709551616 := by omega
  refine runs_by (tbl := tblHx) tblHx_ok 17 0 (af := a18) rfl ?_
  rw [a18, b18, run_eq]
  refine ⟨by simp, ?_⟩
  simp (implicitDefEqProofs := false) [tblHx, st36, hn]
  refine loop_inv (sg_mono gX_ok (tabS_ok tblHx_ok) _ _ noY noY_mono) (fun m tm H => ∃ i : Nat, m + i = 16 ∧ tm 0 = .int .u64 n ∧ tm 3 = .pointer (some ⟨0, 0, none⟩) ∧ tm 7 = .int .i64 i ∧ H = AH.of [some (.arr 71 (byL (hexP n i)))]) (m := 16) ⟨0, by simp [hexP, byL]; rfl⟩ (by omega) ?_
  rintro m tm H ⟨i, hm, t0, t3, t7, rfl⟩
  by_cases hi : i < 16
  · have hi' : (i : Int) < 16 := by omega
    have hwr := inc_i64 hi (by omega)
    have h1 : IntKind.i64.wrap (4 * (i : Int)) = 4 * (i : Int) := wrap_i64 (by omega) (by omega)
    have h2 : IntKind.i64.wrap (60 - 4 * (i : Int)) = ((60 - 4 * i : Nat) : Int) := by rw [wrap_i64 (by omega) (by omega)]; omega
    have hz : ¬ ((60 - 4 * i : Nat) : Int) < 0 := by omega
    have h3 : min (60 - 4 * i) 64 = 60 - 4 * i := by omega
    have h4 : (n : Int).fdiv (2 ^ (60 - 4 * i)) = ((n / 16 ^ (15 - i) : Nat) : Int) := by
      have e : (2 : Int) ^ (60 - 4 * i) = ((16 ^ (15 - i) : Nat) : Int) := by
        rw [show 60 - 4 * i = 4 * (15 - i) by omega, Int.pow_mul]; norm_cast
      rw [e, Int.fdiv_eq_ediv_of_nonneg _ (Int.natCast_nonneg _)]; norm_cast
    have h5 : bAnd .u64 ((n / 16 ^ (15 - i) : Nat) : Int) 15 = ((hexD n i : Nat) : Int) := by
      have h := bAnd_nat (n := n / 16 ^ (15 - i)) (m := 15) (Nat.lt_of_le_of_lt (Nat.div_le_self _ _) hnl) (by omega)
      rw [show ((15 : Nat) : Int) = 15 from rfl] at h
      rw [h, show (15 : Nat) = 2 ^ 4 - 1 from rfl, Nat.and_two_pow_sub_one_eq_mod]; rfl
    obtain ⟨q, hq⟩ : ∃ q, n / 16 ^ (15 - i) = q := ⟨_, rfl⟩
    rw [hq] at h4 h5
    have hd : hexD n i < 16 := Nat.mod_lt _ (by omega)
    have h6 := hexC_at _ hd
    have h7 : (UInt8.ofNat (hexC (hexD n i))).toNat = hexC (hexD n i) := by rw [UInt8.toNat_ofNat']; exact Nat.mod_eq_of_lt (hexC_lt _ hd)
    simp (implicitDefEqProofs := false) [t0, t3, t7, hi, hi', hwr, h1, h2, hz, IntKind.bits, h3, h4, h5, h6, h7, byL_length, byL_set, hexP_set n hi]
    exact ⟨by simp [hexP]; omega, m - 1, by omega, i + 1, by omega, by omega, rfl⟩
  · have hi' : ¬ (i : Int) < 16 := by omega
    obtain rfl : i = 16 := by omega
    have hm16 : (byL (hexL n)).take 16 = byL (hexL n) := List.take_of_length_le (by simp [hexL])
    have hl16 : (hexL n).length = 16 := by simp [hexL]
    rw [hexP_end]
    simp (implicitDefEqProofs := false) [t0, t3, t7, hm16, hl16, bytesOf_byL]
    refine ends_plan [] [] ?_ ?_ ?_ <;> simp [hexS, hn]
def p18 : PStep
  | [.int .u64 v] => some (0 ≤ v ∧ v < 18446744073709551616, .string (hexS (canonV v).toNat))
  | _ => none
abbrev st18 := pureStep p18
theorem st18_ok : CStepOk Tryd.prog cfg 18 st18 := pure_ok fun args p v h hp => by
  unfold p18 at h
  split at h
  · cases h; exact ⟨rfl, rfl, runs18 _ hp⟩
  · cases h
end YteegnbbblcokdaaDoor
end Go.Proofs
/-
  TEXTS: the references' digits.
-/
set_option linter.unusedSimpArgs false
set_option linter.unusedVariables false
set_option linter.unnecessarySimpa false
set_option linter.unusedSectionVars false
namespace Go.Proofs
namespace YteegnbbblcokdaaDoor
open Go.Abs
set_option linter.unusedSimpArgs false

def tblRc : List (FuncId × CStep GD) := [(41, st41)]
theorem tblRc_ok : ∀ x ∈ tblRc, CStepOk Tryd.prog cfg x.1 x.2 := by simp [tblRc, st41_ok]
def p42 : PStep
  | [.int .u64 v] => some (0 ≤ v ∧ v < 18446744073709551616, .int .u64 (canonV v))
  | _ => none
abbrev st42 := pureStep p42
theorem st42_ok : CStepOk Tryd.prog cfg 42 st42 := pure_ok fun args p v h hp => by
  unfold p42 at h
  split at h
  case h_2 => cases h
  cases h
  refine ⟨rfl, rfl, ?_⟩
  refine Runs.ends ?_
  refine runs_by (tbl := tblRc) tblRc_ok 0 0 (af := a42) rfl ?_
  rw [a42, b42, run_eq]
  refine ⟨by simp, ?_⟩
  simp (implicitDefEqProofs := false) [tblRc, st41, hp.1, hp.2]
  repeat' (first | with_reducible apply And.intro | with_reducible intro _)
  all_goals (refine ends_plan [] [] ?_ ?_ ?_ <;> simp [canonV, *])

def hexB (n i : Nat) : ByteArray := ⟨(((hexL n).drop (16 - i)).map UInt8.ofNat).toArray⟩
theorem hexB_size {n i : Nat} (h : i ≤ 16) : (hexB n i).size = i := by
  simp [hexB, hexL, ByteArray.size]; omega
theorem hexB_end (n : Nat) : hexB n 16 = hexS n := rfl
theorem hexB_succ (n : Nat) {i : Nat} (h : i < 16) : (⟨#[UInt8.ofNat (hexC (hexD n (15 - i)))]⟩ : ByteArray) ++ hexB n i = hexB n (i + 1) := by
  have e : (hexL n).drop (16 - (i + 1)) = hexC (hexD n (15 - i)) :: (hexL n).drop (16 - i) := by
    have hl : 15 - i < (hexL n).length := by simp [hexL]; omega
    rw [show 16 - (i + 1) = 15 - i by omega, List.drop_eq_getElem_cons hl, show 15 - i + 1 = 16 - i by omega]
    congr 1
    simp [hexL]
  apply ByteArray.ext
  unfold hexB
  rw [e]
  simp [ByteArray.data_append]
theorem hex_extract : ∀ d, d < 16 → (⟨#[48, 49, 50, 51, 52, 53, 54, 55, 56, 57, 97, 98, 99, 100, 101, 102]⟩ : ByteArray).extract d (d + 1) = ⟨#[UInt8.ofNat (hexC d)]⟩ := by decide
def tblRh : List (FuncId × CStep GD) := [(42, st42)]
theorem tblRh_ok : ∀ x ∈ tblRh, CStepOk Tryd.prog cfg x.1 x.2 := by simp [tblRh, st42_ok]
set_option maxHeartbeats 2000000 in
theorem runs24 (v : Int) (hv : 0 ≤ v ∧ v < 18446744073709551616) : Runs Tryd.prog cfg 24 [.int .u64 v] (AH.of [])
    fun r H' => r = .ret (.string (hexS (canonV v).toNat)) ∧ H' = AH.of [] := by
  refine Runs.ends ?_
  have hc : 0 ≤ canonV v ∧ canonV v < 18446744073709551616 := by unfold canonV; split <;> omega
  obtain ⟨n, hn⟩ : ∃ n : Nat, canonV v = (n : Int) := ⟨(canonV v).toNat, by omega⟩
  have hnl : n < 18446744073709551616 := by omega
  have hw0 : IntKind.u64.wrap (n : Int) = n := wrap_u64 (by omega) (by omega)
  refine runs_by (tbl := tblRh) tblRh_ok 17 0 (af := a24) rfl ?_
  rw [a24, b24, run_eq]
  refine ⟨by simp, ?_⟩
  simp (implicitDefEqProofs := false) [tblRh, pureStep, p42, hv, hn, hw0]
  refine loop_inv (sg_mono gX_ok (tabS_ok tblRh_ok) _ _ noY noY_mono) (fun m tm H => ∃ i : Nat, m + i = 16 ∧ tm 3 = .string (hexB n i) ∧ tm 4 = .int .u64 ((n / 16 ^ i : Nat) : Int) ∧ tm 5 = .int .i64 i ∧ H = AH.of []) (m := 16) ⟨0, by simp [hexB, hexL]⟩ (by omega) ?_
  rintro m tm H ⟨i, hm, t3, t4, t5, rfl⟩
  by_cases hi : i < 16
  · have hi' : (i : Int) < 16 := by omega
    have hwr := inc_i64 hi (by omega)
    obtain ⟨q, hq⟩ : ∃ q, n / 16 ^ i = q := ⟨_, rfl⟩
    have hql : q ≤ n := by rw [← hq]; exact Nat.div_le_self _ _
    have hd : q % 16 = hexD n (15 - i) := by rw [← hq, hexD, show 15 - (15 - i) = i by omega]
    obtain ⟨d, hd2⟩ : ∃ d, q % 16 = d := ⟨_, rfl⟩
    have hd16 : d < 16 := by omega
    have hm1 : (q : Int).tmod 16 = (d : Int) := by rw [Int.tmod_eq_emod_of_nonneg (by omega)]; omega
    have hw1 : IntKind.u64.wrap ((d : Int) + 1) = ((d + 1 : Nat) : Int) := by rw [wrap_u64 (by omega) (by omega)]; omega
    have hq2 : (q : Int).tdiv 16 = ((n / 16 ^ (i + 1) : Nat) : Int) := by
      rw [Int.tdiv_eq_ediv_of_nonneg (by omega), Nat.pow_succ, ← Nat.div_div_eq_div_mul, hq]; omega
    obtain ⟨q2, hq3⟩ : ∃ q2, n / 16 ^ (i + 1) = q2 := ⟨_, rfl⟩
    have hq2l : q2 ≤ n := by rw [← hq3]; exact Nat.div_le_self _ _
    rw [hq3] at hq2
    have hw2 : IntKind.u64.wrap (q2 : Int) = q2 := wrap_u64 (by omega) (by omega)
    have hx := hex_extract d hd16
    have hs := hexB_succ n hi
    rw [← hd, hd2] at hs
    have hsz := hexB_size (n := n) (i := i) (by omega)
    have hsz1 : (⟨#[UInt8.ofNat (hexC d)]⟩ : ByteArray).size = 1 := rfl
    have hsz2 : 1 + i ≤ 9223372036854775807 := by omega
    have hd3 : (0 : Int) ≤ (d : Int) + 1 ∧ (d : Int) + 1 ≤ 16 := by omega
    have hd4 : (d : Int) ≤ (d : Int) + 1 := by omega
    have ds : (⟨#[48, 49, 50, 51, 52, 53, 54, 55, 56, 57, 97, 98, 99, 100, 101, 102]⟩ : ByteArray).size = 16 := rfl
    rw [hq] at t4
    simp (implicitDefEqProofs := false) [t3, t4, t5, hi, hi', hwr, hm1, hw1, hq2, hw2, hx, hs, hsz, hsz1, hsz2, hd3, hd4, ds]
    exact ⟨m - 1, by omega, i + 1, by omega, rfl, by rw [← hq3]; norm_cast, by omega⟩
  · have hi' : ¬ (i : Int) < 16 := by omega
    obtain rfl : i = 16 := by omega
    simp (implicitDefEqProofs := false) [t3, t4, t5]
    refine ends_plan [] [] ?_ ?_ ?_ <;> simp [hexB_end, hn]
def p24 : PStep
  | [.int .u64 v] => some (0 ≤ v ∧ v < 18446744073709551616, .string (hexS (canonV v).toNat))
  | _ => none
abbrev st24 := pureStep p24
theorem st24_ok : CStepOk Tryd.prog cfg 24 st24 := pure_ok fun args p v h hp => by
  unfold p24 at h
  split at h
  · cases h; exact ⟨rfl, rfl, runs24 _ hp⟩
  · cases h
/-! Digits -/
def digB (d : Nat) : UInt8 := UInt8.ofNat (48 + d)
def D1 (d : Nat) : ByteArray := ⟨#[digB d]⟩
def D2 (a b : Nat) : ByteArray := ⟨#[digB a, digB b]⟩
theorem D1_size (d : Nat) : (D1 d).size = 1 := rfl
theorem D2_size (a b : Nat) : (D2 a b).size = 2 := rfl
theorem D1_ne (d : Nat) : ¬ D1 d = ⟨#[]⟩ := fun h => by have := congrArg ByteArray.size h; rw [D1_size] at this; cases this
theorem D2_ne (a b : Nat) : ¬ D2 a b = ⟨#[]⟩ := fun h => by have := congrArg ByteArray.size h; rw [D2_size] at this; cases this
theorem D1_nil (d : Nat) : D1 d ++ ⟨#[]⟩ = D1 d := rfl
theorem D1_D1 (a b : Nat) : D1 a ++ D1 b = D2 a b := rfl
theorem decS_one {n : Nat} (h : n < 10) : decS n = D1 n := by unfold decS D1 digB; rw [decDigits_one h]
theorem decS_two {n : Nat} (h : 10 ≤ n) (h2 : n < 100) : decS n = D2 (n / 10) (n % 10) := by unfold decS D2 digB; rw [decDigits_two h h2]
theorem dec_extract : ∀ d, d < 10 → (⟨#[48, 49, 50, 51, 52, 53, 54, 55, 56, 57]⟩ : ByteArray).extract d (d + 1) = D1 d := by decide
set_option maxHeartbeats 2000000 in
theorem runs23 (n : Nat) (hn : n < 100) : Runs Tryd.prog cfg 23 [.int .i64 n] (AH.of [])
    fun r H' => r = .ret (.string (decS n)) ∧ H' = AH.of [] := by
  refine Runs.ends ?_
  have ds : (⟨#[48, 49, 50, 51, 52, 53, 54, 55, 56, 57]⟩ : ByteArray).size = 10 := rfl
  have nil0 : (⟨#[]⟩ : ByteArray).size = 0 := rfl
  refine runs_by (tbl := []) (by simp) 3 0 (af := a23) rfl ?_
  rw [a23, b23, run_eq]
  refine ⟨by simp, ?_⟩
  simp (implicitDefEqProofs := false)
  refine loop_inv (sg_mono gX_ok (tabS_ok (by simp)) _ _ noY noY_mono) (fun m tm H => H = AH.of [] ∧ ∃ (k : Nat) (S : ByteArray), tm 0 = .int .i64 k ∧ tm 3 = .string S ∧ ((m = 2 ∧ k = n ∧ S = ⟨#[]⟩) ∨ (m = 1 ∧ k = n / 10 ∧ S = D1 (n % 10)) ∨ (m = 0 ∧ k = 0 ∧ S = D2 (n / 10) (n % 10) ∧ 10 ≤ n))) (m := 2) ⟨rfl, n, ⟨#[]⟩, by simp, by simp, .inl (by simp)⟩ (by omega) ?_
  rintro m tm H ⟨rfl, k, S, t0, t3, hcase⟩
  have hk : k < 100 := by rcases hcase with h | h | h <;> omega
  obtain ⟨d, hd⟩ : ∃ d, k % 10 = d := ⟨_, rfl⟩
  have hd10 : d < 10 := by omega
  have hm1 : (k : Int).tmod 10 = (d : Int) := by rw [Int.tmod_eq_emod_of_nonneg (by omega)]; omega
  have hq1 : (k : Int).tdiv 10 = ((k / 10 : Nat) : Int) := by rw [Int.tdiv_eq_ediv_of_nonneg (by omega)]; omega
  obtain ⟨k2, hk2⟩ : ∃ k2, k / 10 = k2 := ⟨_, rfl⟩
  rw [hk2] at hq1
  have hw1 : IntKind.i64.wrap ((d : Int) + 1) = ((d + 1 : Nat) : Int) := by rw [wrap_i64 (by omega) (by omega)]; omega
  have hw2 : IntKind.i64.wrap (k2 : Int) = k2 := wrap_i64 (by omega) (by omega)
  have hx := dec_extract d hd10
  have hd3 : (0 : Int) ≤ (d : Int) + 1 ∧ (d : Int) + 1 ≤ 10 := by omega
  have hd4 : (d : Int) ≤ (d : Int) + 1 := by omega
  have hkk : ¬ k = 0 → 0 < k := by omega
  rcases hcase with ⟨rfl, rfl, rfl⟩ | ⟨rfl, hkn, rfl⟩ | ⟨rfl, rfl, rfl, h10⟩
  · by_cases hk0 : k = 0
    · have hno : ¬ 0 < k := by omega
      simp (implicitDefEqProofs := false) [t0, t3, hno, hm1, hq1, hw1, hw2, hx, hd3, hd4, ds, D1_size, D1_nil, nil0]
      exact ⟨1, by omega, k2, rfl, .inr (.inl ⟨rfl, by omega, by rw [← hd]⟩)⟩
    · have hgo := hkk hk0
      simp (implicitDefEqProofs := false) [t0, t3, hgo, hm1, hq1, hw1, hw2, hx, hd3, hd4, ds, D1_size, D1_nil, nil0]
      exact ⟨1, by omega, k2, rfl, .inr (.inl ⟨rfl, by omega, by rw [← hd]⟩)⟩
  · by_cases hk0 : k = 0
    · subst hk0
      have hl : n < 10 := by omega
      have he := decS_one hl
      rw [← Nat.mod_eq_of_lt hl] at he
      rw [Nat.mod_eq_of_lt hl] at he
      have hnm : n % 10 = n := Nat.mod_eq_of_lt hl
      simp (implicitDefEqProofs := false) [t0, t3, D1_ne]
      refine ends_plan [] [] ?_ ?_ ?_ <;> simp [he, hnm]
    · have hgo := hkk hk0
      simp (implicitDefEqProofs := false) [t0, t3, hgo, hm1, hq1, hw1, hw2, hx, hd3, hd4, ds, D1_size, D1_D1]
      exact ⟨k2, rfl, by omega, by rw [← hd, hkn, Nat.mod_eq_of_lt (by omega)], by omega⟩
  · have he := decS_two h10 hn
    simp (implicitDefEqProofs := false) [t0, t3, D2_ne]
    refine ends_plan [] [] ?_ ?_ ?_ <;> simp [he]
def p23 : PStep
  | [.int .i64 n] => some (0 ≤ n ∧ n < 100, .string (decS n.toNat))
  | _ => none
abbrev st23 := pureStep p23
theorem st23_ok : CStepOk Tryd.prog cfg 23 st23 := pure_ok fun args p v h hp => by
  unfold p23 at h
  split at h
  · rename_i n
    cases h
    refine ⟨rfl, rfl, ?_⟩
    have e : n = (n.toNat : Int) := by omega
    have := runs23 n.toNat (by omega)
    rw [← e] at this; exact this
  · cases h
end YteegnbbblcokdaaDoor
end Go.Proofs
/-
  TEXTS: what digits say.
-/
set_option linter.unusedSimpArgs false
set_option linter.unusedVariables false
set_option linter.unnecessarySimpa false
set_option linter.unusedSectionVars false
namespace Go.Proofs
namespace YteegnbbblcokdaaDoor
open Go.Abs
set_option linter.unusedSimpArgs false

/-- What a digit says. -/
def hexV (b : Nat) : Option Nat := if 48 ≤ b ∧ b ≤ 57 then some (b - 48) else if 97 ≤ b ∧ b ≤ 102 then some (b - 87) else none
theorem hexV_lt {b d : Nat} (h : hexV b = some d) : d < 16 := by
  unfold hexV at h
  split at h
  · cases h; omega
  · split at h
    · cases h; omega
    · cases h
theorem hexV_hexC {d : Nat} (h : d < 16) : hexV (hexC d) = some d := by
  unfold hexV hexC
  split
  · rw [if_pos ⟨by omega, by omega⟩]; congr 1; omega
  · rw [if_neg (by omega), if_pos ⟨by omega, by omega⟩]; congr 1; omega
theorem hexC_hexV {b d : Nat} (h : hexV b = some d) : hexC d = b := by
  unfold hexV at h
  unfold hexC
  split at h
  · cases h; rw [if_pos (by omega)]; omega
  · split at h
    · cases h; rw [if_neg (by omega)]; omega
    · cases h
/-- What digits say, one behind the other. -/
def hexF (l : List UInt8) : Option Nat := l.foldl (fun a b => a.bind fun n => (hexV b.toNat).map fun d => n * 16 + d) (some 0)
theorem hexF_snoc (l : List UInt8) (b : UInt8) : hexF (l ++ [b]) = (hexF l).bind fun n => (hexV b.toNat).map fun d => n * 16 + d := by simp [hexF]
theorem hex_none (l : List UInt8) : l.foldl (fun a b => a.bind fun n => (hexV b.toNat).map fun d => n * 16 + d) none = none := by
  induction l with
  | nil => rfl
  | cons b l ih => exact ih
theorem hexF_lt : ∀ (l : List UInt8) {n : Nat}, hexF l = some n → n < 16 ^ l.length := by
  have key : ∀ (l : List UInt8) (a n : Nat), l.foldl (fun a b => a.bind fun n => (hexV b.toNat).map fun d => n * 16 + d) (some a) = some n → n < (a + 1) * 16 ^ l.length := by
    intro l
    induction l with
    | nil => intro a n h; cases h; simp
    | cons b l ih =>
      intro a n h
      simp only [List.foldl_cons, Option.bind_some] at h
      cases hd : hexV b.toNat with
      | none => rw [hd, Option.map_none, hex_none] at h; cases h
      | some d =>
        rw [hd, Option.map_some] at h
        have := ih _ _ h
        have hd := hexV_lt hd
        refine Nat.lt_of_lt_of_le this ?_
        rw [List.length_cons, Nat.pow_succ, Nat.mul_comm (16 ^ l.length) 16, ← Nat.mul_assoc]
        exact Nat.mul_le_mul_right _ (by omega)
  intro l n h
  have := key l 0 n h
  omega
/-- What a text of digits says, if it may be. -/
def bitsS (s : ByteArray) : Option Nat := if s.size = 16 then (hexF s.data.toList).bind fun n => if rightB n then some n else none else none

/-! digit, bits -/
def refV : Value := .iface 84 (.agg #[])
def digR (c : Int) : AEnd := match hexV c.toNat with
  | some d => .ret (.int .u64 (d : Int))
  | none => .pan refV
theorem runs53 (c : Int) (hc : 0 ≤ c ∧ c < 256) : Runs Tryd.prog cfg 53 [.int .u8 c] (AH.of []) fun r H' => r = digR c ∧ H' = AH.of [] := by
  refine Runs.ends ?_
  refine runs_by (tbl := []) (by simp) 0 0 (af := a53) rfl ?_
  rw [a53, b53, run_eq]
  refine ⟨by simp, ?_⟩
  simp (implicitDefEqProofs := false)
  have w1 : 48 ≤ c → IntKind.u64.wrap (IntKind.u8.wrap (c - 48)) = c - 48 := fun h => by simp [IntKind.wrap, IntKind.bits, IntKind.signed]; omega
  have w2 : 97 ≤ c → IntKind.u64.wrap (IntKind.u64.wrap (IntKind.u8.wrap (c - 97)) + 10) = c - 87 := fun h => by simp [IntKind.wrap, IntKind.bits, IntKind.signed]; omega
  have d1 : 48 ≤ c → c ≤ 57 → digR c = .ret (.int .u64 (c - 48)) := fun h h' => by
    have : hexV c.toNat = some (c.toNat - 48) := by unfold hexV; rw [if_pos ⟨by omega, by omega⟩]
    unfold digR; rw [this]; simp; omega
  have d2 : 97 ≤ c → c ≤ 102 → digR c = .ret (.int .u64 (c - 87)) := fun h h' => by
    have : hexV c.toNat = some (c.toNat - 87) := by unfold hexV; rw [if_neg (by omega), if_pos ⟨by omega, by omega⟩]
    unfold digR; rw [this]; simp; omega
  have d3 : ¬ (48 ≤ c ∧ c ≤ 57) → ¬ (97 ≤ c ∧ c ≤ 102) → digR c = .pan refV := fun h h' => by
    have : hexV c.toNat = none := by unfold hexV; rw [if_neg (by omega), if_neg (by omega)]
    unfold digR; rw [this]
  repeat' (first | with_reducible apply And.intro | with_reducible intro _)
  · rw [d1 (by assumption) (by assumption), w1 (by assumption)]
    refine ends_plan [] [] ?_ ?_ ?_ <;> simp
  · rw [d2 (by assumption) (by assumption), w2 (by assumption)]
    refine ends_plan [] [] ?_ ?_ ?_ <;> simp
  · rw [d3 (by omega) (by omega)]
    refine ends_plan [] [] ?_ ?_ ?_ <;> simp [refV]
  · rw [d3 (by omega) (by omega)]
    refine ends_plan [] [] ?_ ?_ ?_ <;> simp [refV]
  · rw [d2 (by assumption) (by assumption), w2 (by assumption)]
    refine ends_plan [] [] ?_ ?_ ?_ <;> simp
  · rw [d3 (by omega) (by omega)]
    refine ends_plan [] [] ?_ ?_ ?_ <;> simp [refV]
  · rw [d3 (by omega) (by omega)]
    refine ends_plan [] [] ?_ ?_ ?_ <;> simp [refV]
theorem digR_ren (θ : Nat → Nat) (c : Int) : renE θ (digR c) = digR c := by
  unfold digR
  split <;> rfl
def st53 : CStep GD := fun args H => match args with
  | [.int .u8 c] => some (0 ≤ c ∧ c < 256, digR c, H)
  | _ => none
theorem st53_ok : CStepOk Tryd.prog cfg 53 st53 := by
  intro args H p r H' h hp
  unfold st53 at h
  split at h
  case h_2 => cases h
  cases h
  exact (runs53 _ hp).atK (ro_none rfl) [] (by simp) (by simp) trivial (by simp) (by rw [digR_ren]) (by simp)
end YteegnbbblcokdaaDoor
end Go.Proofs
/-
  TEXTS: what 16 digits say.
-/
set_option linter.unusedSimpArgs false
set_option linter.unusedVariables false
set_option linter.unnecessarySimpa false
set_option linter.unusedSectionVars false
namespace Go.Proofs
namespace YteegnbbblcokdaaDoor
open Go.Abs
set_option linter.unusedSimpArgs false

theorem hexF_take_none {l : List UInt8} {i : Nat} (h : hexF (l.take i) = none) : hexF l = none := by
  have e : hexF l = (l.drop i).foldl (fun a b => a.bind fun n => (hexV b.toNat).map fun d => n * 16 + d) (hexF (l.take i)) := by
    unfold hexF
    rw [← List.foldl_append, List.take_append_drop]
  rw [e, h, hex_none]
theorem hexF_succ {l : List UInt8} {i : Nat} {b : UInt8} (h : l[i]? = some b) : hexF (l.take (i + 1)) = (hexF (l.take i)).bind fun n => (hexV b.toNat).map fun d => n * 16 + d := by
  rw [List.take_add_one, h]; exact hexF_snoc _ _
def bitsR (s : ByteArray) : AEnd := match bitsS s with
  | some n => .ret (.int .u64 (n : Int))
  | none => .pan refV
def tblBi : List (FuncId × CStep GD) := [(53, st53), (34, st34)]
theorem tblBi_ok : ∀ x ∈ tblBi, CStepOk Tryd.prog cfg x.1 x.2 := by simp [tblBi, st53_ok, st34_ok]
theorem pow16_le {i : Nat} (h : i ≤ 16) : 16 ^ i ≤ 18446744073709551616 := Nat.pow_le_pow_right (n := 16) (by omega) h
set_option maxHeartbeats 2000000 in
theorem runs46 (s : ByteArray) : Runs Tryd.prog cfg 46 [.string s] (AH.of []) fun r H' => r = bitsR s ∧ H' = AH.of [] := by
  refine Runs.ends ?_
  refine runs_by (tbl := tblBi) tblBi_ok 17 0 (af := a46) rfl ?_
  rw [a46, b46, run_eq]
  refine ⟨by simp, ?_⟩
  by_cases hs : s.size = 16
  · have hs' : (s.size : Int) = 16 := by omega
    have hl : s.data.toList.length = 16 := by rw [Array.length_toList]; exact hs
    simp (implicitDefEqProofs := false) [hs, hs']
    refine loop_inv (sg_mono gX_ok (tabS_ok tblBi_ok) _ _ noY noY_mono) (fun m tm H => H = AH.of [] ∧ ∃ i n : Nat, m + i = 16 ∧ hexF (s.data.toList.take i) = some n ∧ n < 16 ^ i ∧ tm 0 = .string s ∧ tm 3 = .int .u64 n ∧ tm 11 = .int .i64 16 ∧ tm 12 = .int .i64 i) (m := 16) ⟨rfl, 0, 0, by simp, rfl, by simp, by simp⟩ (by omega) ?_
    rintro m tm H ⟨rfl, i, n, hm, hn, hnl, t0, t3, t11, t12⟩
    by_cases hi : i < 16
    · have hi' : (i : Int) < 16 := by omega
      have hwr := inc_i64 hi (by omega)
      obtain ⟨b, hb⟩ : ∃ b, s.data.toList[i]? = some b := ⟨s.data.toList[i]'(by omega), List.getElem?_eq_getElem (by omega)⟩
      have hb2 : s.data[i]? = some b := by simpa using hb
      have hsu := hexF_succ hb
      rw [hn] at hsu
      have hbl : b.toNat < 256 := b.toNat_lt
      have hb0 : (0 : Int) ≤ (b.toNat : Int) ∧ (b.toNat : Int) < 256 := by omega
      have hp16 : n * 16 < 18446744073709551616 := by
        have h1 : n * 16 < 16 ^ (i + 1) := by rw [Nat.pow_succ]; exact Nat.mul_lt_mul_of_pos_right hnl (by omega)
        exact Nat.lt_of_lt_of_le h1 (pow16_le (by omega))
      have hw1 : IntKind.u64.wrap ((n : Int) * 16) = (n : Int) * 16 := wrap_u64 (by omega) (by omega)
      cases hd : hexV b.toNat with
      | none =>
        rw [hd] at hsu
        have hR : digR (b.toNat : Int) = .pan refV := by simp [digR, hd]
        have hF : bitsR s = .pan refV := by unfold bitsR bitsS; rw [if_pos hs, hexF_take_none (i := i + 1) hsu]; rfl
        rw [hF]
        simp (implicitDefEqProofs := false) [tblBi, st53, t0, t3, t11, t12, hi, hi', hb, hb2, hb0, hR, IntKind.bits, hw1]
        refine ends_plan [] [] ?_ ?_ ?_ <;> simp [refV]
      | some d =>
        rw [hd] at hsu
        have hd16 := hexV_lt hd
        have hR : digR (b.toNat : Int) = .ret (.int .u64 d) := by simp [digR, hd]
        have hor : bOr .u64 ((n : Int) * 16) d = ((n * 16 + d : Nat) : Int) := by
          have := bOr_low (a := n) (b := d) 4 (by omega) (by omega) (by show (d : Int) < 16; omega) (by show (n : Int) * 16 + d < _; omega)
          rw [show (2 : Int) ^ 4 = 16 from rfl] at this
          rw [this]; omega
        simp (implicitDefEqProofs := false) [tblBi, st53, t0, t3, t11, t12, hi, hi', hb, hb2, hb0, hR, IntKind.bits, hw1, hor, hwr]
        exact ⟨m - 1, by omega, i + 1, by omega, n * 16 + d, by simpa using hsu, by rw [Nat.pow_succ]; omega, by omega, by omega⟩
    · obtain rfl : i = 16 := by omega
      have ht : s.data.toList.take 16 = s.data.toList := List.take_of_length_le (by omega)
      rw [ht] at hn
      simp (implicitDefEqProofs := false) [tblBi, st34, t0, t3, t11, t12]
      cases hr : rightB n with
      | true =>
        have hF : bitsR s = .ret (.int .u64 n) := by unfold bitsR bitsS; rw [if_pos hs, hn]; simp [hr]
        rw [hF]
        simp (implicitDefEqProofs := false)
        refine ends_plan [] [] ?_ ?_ ?_ <;> simp
      | false =>
        have hF : bitsR s = .pan refV := by unfold bitsR bitsS; rw [if_pos hs, hn]; simp [hr]
        rw [hF]
        simp (implicitDefEqProofs := false)
        refine ends_plan [] [] ?_ ?_ ?_ <;> simp [refV]
  · have hs' : ¬ (s.size : Int) = 16 := by omega
    have hF : bitsR s = .pan refV := by unfold bitsR bitsS; rw [if_neg hs]
    rw [hF]
    simp (implicitDefEqProofs := false) [hs, hs']
    refine ends_plan [] [] ?_ ?_ ?_ <;> simp [refV]
theorem bitsR_ren (θ : Nat → Nat) (s : ByteArray) : renE θ (bitsR s) = bitsR s := by
  unfold bitsR
  split <;> rfl
def st46 : CStep GD := fun args H => match args with
  | [.string s] => some (True, bitsR s, H)
  | _ => none
theorem st46_ok : CStepOk Tryd.prog cfg 46 st46 := by
  intro args H p r H' h hp
  unfold st46 at h
  split at h
  case h_2 => cases h
  rename_i s
  cases h
  exact (runs46 s).atK (ro_none rfl) [] (by simp) (by simp) trivial (by simp) (by rw [bitsR_ren]) (by simp)

/-! Parse -/
def parseT (s : ByteArray) : Value := match bitsS s with
  | some n => .tuple #[.int .u64 (n : Int), .int .i64 0]
  | none => .tuple #[.int .u64 0, .int .i64 3]
def tblVp : List (FuncId × CStep GD) := [(46, st46)]
theorem tblVp_ok : ∀ x ∈ tblVp, CStepOk Tryd.prog cfg x.1 x.2 := by simp [tblVp, st46_ok]
theorem runs28 (s : ByteArray) : Runs Tryd.prog cfg 28 [.string s] (AH.of []) fun r H' => r = .ret (parseT s) ∧ H' = AH.of [] := by
  refine Runs.ends ?_
  cases hb : bitsS s with
  | some n =>
    have hR : bitsR s = .ret (.int .u64 n) := by unfold bitsR; rw [hb]
    refine runs_by (tbl := tblVp) tblVp_ok 0 3 (af := a28) rfl ?_
    rw [a28, b28, run_eq]
    refine ⟨by simp, ?_⟩
    simp (implicitDefEqProofs := false) [tblVp, st46, hR, forms45, a45, b45]
    refine ends_plan [] [] ?_ ?_ ?_ <;> simp [parseT, hb]
  | none =>
    have hR : bitsR s = .pan refV := by unfold bitsR; rw [hb]
    refine runs_by (tbl := tblVp) tblVp_ok 0 3 (af := a28) rfl ?_
    rw [a28, b28, run_eq]
    refine ⟨by simp, ?_⟩
    simp (implicitDefEqProofs := false) [tblVp, st46, hR, refV, forms45, a45, b45]
    refine ends_plan [] [] ?_ ?_ ?_ <;> simp [parseT, hb]
theorem parseT_ground (s : ByteArray) : ground (parseT s) = true := by unfold parseT; split <;> rfl
def p28 : PStep
  | [.string s] => some (True, parseT s)
  | _ => none
abbrev st28 := pureStep p28
theorem st28_ok : CStepOk Tryd.prog cfg 28 st28 := pure_ok fun args p v h hp => by
  unfold p28 at h
  split at h
  · cases h; exact ⟨rfl, parseT_ground _, runs28 _⟩
  · cases h
end YteegnbbblcokdaaDoor
end Go.Proofs
/-
  TEXTS: what 16 digits say to the reference.
-/
set_option linter.unusedSimpArgs false
set_option linter.unusedVariables false
set_option linter.unnecessarySimpa false
set_option linter.unusedSectionVars false
namespace Go.Proofs
namespace YteegnbbblcokdaaDoor
open Go.Abs
set_option linter.unusedSimpArgs false

theorem hexV_none_of {b : Nat} (h : ∀ d, d < 16 → hexC d ≠ b) : hexV b = none := by
  cases hv : hexV b with
  | none => rfl
  | some d => exact absurd (hexC_hexV hv) (h d (hexV_lt hv))
def tblRp : List (FuncId × CStep GD) := [(41, st41)]
theorem tblRp_ok : ∀ x ∈ tblRp, CStepOk Tryd.prog cfg x.1 x.2 := by simp [tblRp, st41_ok]
set_option maxHeartbeats 4000000 in
theorem runs30 (s : ByteArray) : Runs Tryd.prog cfg 30 [.string s] (AH.of []) fun r H' => r = .ret (parseT s) ∧ H' = AH.of [] := by
  refine Runs.ends ?_
  refine runs_by (tbl := tblRp) tblRp_ok 17 0 (af := a30) rfl ?_
  rw [a30, b30, run_eq]
  refine ⟨by simp, ?_⟩
  by_cases hs : s.size = 16
  · have hs' : (s.size : Int) = 16 := by omega
    have hl : s.data.toList.length = 16 := by rw [Array.length_toList]; exact hs
    simp (implicitDefEqProofs := false) [hs, hs']
    refine loop_inv (sg_mono gX_ok (tabS_ok tblRp_ok) _ _ noY noY_mono) (fun m tm H => H = AH.of [] ∧ ∃ i n : Nat, m + i = 16 ∧ hexF (s.data.toList.take i) = some n ∧ n < 16 ^ i ∧ tm 0 = .string s ∧ tm 4 = .int .u64 n ∧ tm 5 = .int .i64 i) (m := 16) ⟨rfl, 0, 0, by simp, rfl, by simp, by simp⟩ (by omega) ?_
    rintro m tm H ⟨rfl, i, n, hm, hn, hnl, t0, t4, t5⟩
    by_cases hi : i < 16
    · have hi' : (i : Int) < 16 := by omega
      have hwr := inc_i64 hi (by omega)
      obtain ⟨b, hb⟩ : ∃ b, s.data.toList[i]? = some b := ⟨s.data.toList[i]'(by omega), List.getElem?_eq_getElem (by omega)⟩
      have hb2 : s.data[i]? = some b := by simpa using hb
      have hsu := hexF_succ hb
      rw [hn] at hsu
      have hbl : b.toNat < 256 := b.toNat_lt
      have hp16 : n * 16 + 15 < 18446744073709551616 := by
        have h1 : (n + 1) * 16 ≤ 16 ^ (i + 1) := by rw [Nat.pow_succ]; exact Nat.mul_le_mul_right _ hnl
        have := pow16_le (i := i + 1) (by omega)
        omega
      simp (implicitDefEqProofs := false) [t0, t4, t5, hi, hi']
      refine loop_inv (sg_mono gX_ok (tabS_ok tblRp_ok) _ _ noY noY_mono) (fun m tm H => H = AH.of [] ∧ ∃ d : Nat, m + d = 16 ∧ (∀ j, j < d → hexC j ≠ b.toNat) ∧ tm 0 = .string s ∧ tm 4 = .int .u64 n ∧ tm 5 = .int .i64 i ∧ tm 6 = .int .i64 d) (m := 16) ⟨rfl, 0, by simp, by simp, by simp [t0], by simp [t4], by simp [t5], by simp⟩ (by omega) ?_
      rintro m2 tm H ⟨rfl, d, hm2, hno, t0, t4, t5, t6⟩
      by_cases hd : d < 16
      · have hd' : (d : Int) < 16 := by omega
        have hwd := inc_i64 hd (by omega)
        have h6 : ∀ h, ([48, 49, 50, 51, 52, 53, 54, 55, 56, 57, 97, 98, 99, 100, 101, 102] : List UInt8)[d]'h = UInt8.ofNat (hexC d) := fun h => by have := hexC_at d hd; rw [List.getElem?_eq_getElem h] at this; exact Option.some.inj this
        have h7 : (UInt8.ofNat (hexC d)).toNat = hexC d := by rw [UInt8.toNat_ofNat']; exact Nat.mod_eq_of_lt (hexC_lt _ hd)
        by_cases heq : hexC d = b.toNat
        · have hv : hexV b.toNat = some d := by rw [← heq]; exact hexV_hexC hd
          rw [hv] at hsu
          have hne : ¬ d = 16 := by omega
          have hne' : ¬ (d : Int) = 16 := by omega
          have hw1 : IntKind.u64.wrap ((n : Int) * 16) = (n : Int) * 16 := wrap_u64 (by omega) (by omega)
          have hw2 : IntKind.u64.wrap (d : Int) = d := wrap_u64 (by omega) (by omega)
          have hw3 : IntKind.u64.wrap ((n : Int) * 16 + d) = ((n * 16 + d : Nat) : Int) := by rw [wrap_u64 (by omega) (by omega)]; omega
          simp (implicitDefEqProofs := false) [t0, t4, t5, t6, hd, hd', h6, h7, hb, hb2, heq, hne, hne', hw1, hw2, hw3, hwr]
          exact ⟨m - 1, by omega, i + 1, by omega, n * 16 + d, by simpa using hsu, by rw [Nat.pow_succ]; omega, by omega, by omega⟩
        · have heq' : ¬ ((hexC d : Nat) : Int) = ((b.toNat : Nat) : Int) := by omega
          simp (implicitDefEqProofs := false) [t0, t4, t5, t6, hd, hd', h6, h7, hb, hb2, heq, heq', hwd]
          refine ⟨m2 - 1, by omega, d + 1, by omega, fun j hj => ?_, by omega⟩
          by_cases hjd : j = d
          · subst hjd; exact heq
          · exact hno j (by omega)
      · obtain rfl : d = 16 := by omega
        have hv := hexV_none_of hno
        rw [hv] at hsu
        have hF : parseT s = .tuple #[.int .u64 0, .int .i64 3] := by unfold parseT bitsS; rw [if_pos hs, hexF_take_none (i := i + 1) hsu]; rfl
        rw [hF]
        simp (implicitDefEqProofs := false) [t0, t4, t5, t6]
        refine ends_plan [] [] ?_ ?_ ?_ <;> simp
    · obtain rfl : i = 16 := by omega
      have ht : s.data.toList.take 16 = s.data.toList := List.take_of_length_le (by omega)
      rw [ht] at hn
      have hn64 : n < 18446744073709551616 := Nat.lt_of_lt_of_le hnl (pow16_le (by omega))
      have hn0 : (0 : Int) ≤ n ∧ (n : Int) < 18446744073709551616 := by omega
      simp (implicitDefEqProofs := false) [tblRp, st41, t0, t4, t5, hn0]
      cases hr : rightB n with
      | true =>
        have hF : parseT s = .tuple #[.int .u64 n, .int .i64 0] := by unfold parseT bitsS; rw [if_pos hs, hn]; simp [hr]
        rw [hF]
        simp (implicitDefEqProofs := false)
        refine ends_plan [] [] ?_ ?_ ?_ <;> simp
      | false =>
        have hF : parseT s = .tuple #[.int .u64 0, .int .i64 3] := by unfold parseT bitsS; rw [if_pos hs, hn]; simp [hr]
        rw [hF]
        simp (implicitDefEqProofs := false)
        refine ends_plan [] [] ?_ ?_ ?_ <;> simp
  · have hs' : ¬ (s.size : Int) = 16 := by omega
    have hF : parseT s = .tuple #[.int .u64 0, .int .i64 3] := by unfold parseT bitsS; rw [if_neg hs]
    rw [hF]
    simp (implicitDefEqProofs := false) [hs, hs']
    refine ends_plan [] [] ?_ ?_ ?_ <;> simp
def p30 : PStep
  | [.string s] => some (True, parseT s)
  | _ => none
abbrev st30 := pureStep p30
theorem st30_ok : CStepOk Tryd.prog cfg 30 st30 := pure_ok fun args p v h hp => by
  unfold p30 at h
  split at h
  · cases h; exact ⟨rfl, parseT_ground _, runs30 _⟩
  · cases h
end YteegnbbblcokdaaDoor
end Go.Proofs
/-
  CODE: an instruction as text.
-/
set_option linter.unusedSimpArgs false
set_option linter.unusedVariables false
set_option linter.unnecessarySimpa false
set_option linter.unusedSectionVars false
namespace Go.Proofs
namespace YteegnbbblcokdaaDoor
open Go.Abs
set_option linter.unusedSimpArgs false

def blankS : ByteArray := ⟨#[32]⟩
def printB (i : Ins) : ByteArray := if usesA i.o.toNat then wordO i.o.toNat ++ (blankS ++ decS i.a.toNat) else if usesV i.o.toNat then wordO i.o.toNat ++ (blankS ++ hexS i.v.toNat) else wordO i.o.toNat
def printT (i : Ins) : Value := if rightI i then .tuple #[.string (printB i), .int .i64 0] else .tuple #[.string ⟨#[]⟩, .int .i64 3]
theorem wordO_size : ∀ o, (wordO o).size ≤ 10 := by
  have h : ∀ o, o < 29 → (wordO o).size ≤ 10 := by decide
  intro o
  by_cases ho : o < 29
  · exact h o ho
  · have w : wordL[o]? = none := List.getElem?_eq_none (by simpa [wordL] using ho)
    simp [wordO, w, ByteArray.size]
theorem decS_size {n : Nat} (h : n < 100) : (decS n).size ≤ 2 := by
  by_cases h10 : n < 10
  · rw [decS_one h10, D1_size]; omega
  · rw [decS_two (by omega) h, D2_size]; omega
theorem hexS_size (n : Nat) : (hexS n).size = 16 := by simp [hexS, hexL, ByteArray.size]
theorem join_one (w sep : ByteArray) : joinS [w] sep = w := by
  simp [joinS, Lib.join]
theorem join_two (w x sep : ByteArray) : joinS [w, x] sep = w ++ (sep ++ x) := by
  apply ByteArray.ext
  simp [joinS, Lib.join, ByteArray.data_append, List.intercalate]
theorem limit_le (o : Int) : limitO o ≤ 64 := by
  unfold limitO
  repeat' split
  all_goals omega
theorem uses_one (o : Nat) (h : usesA o = true) : usesV o = false := by
  simp only [usesA, usesV, decide_eq_true_eq, decide_eq_false_iff_not] at h ⊢; omega
theorem rightI_inv {i : Ins} (h : rightI i = true) : i.o < 29 ∧ (usesA i.o.toNat = true ∨ i.a = 0) ∧ (usesV i.o.toNat = true ∨ i.v = 0) ∧ 0 ≤ i.a ∧ i.a < limitO i.o ∧ rightB i.v = true := by
  unfold rightI at h; exact of_decide_eq_true h
def tblPt : List (FuncId × CStep GD) := [(15, st15), (16, st16), (17, st17), (18, st18), (19, st19)]
theorem tblPt_ok : ∀ x ∈ tblPt, CStepOk Tryd.prog cfg x.1 x.2 := by simp [tblPt, st15_ok, st16_ok, st17_ok, st18_ok, st19_ok]
set_option maxHeartbeats 4000000 in
theorem runs5 (i : Ins) (hi : i.Ok) : Runs Tryd.prog cfg 5 [.agg #[.int .u8 i.o, .int .i64 i.a, .int .u64 i.v]] (AH.of [])
    fun r H' => r = .ret (printT i) ∧ H' = AH.of [] := by
  refine Runs.ends ?_
  have ho := hi.1
  have hv := hi.2
  cases hr : rightI i with
  | false =>
    have hr' : rightI ⟨i.o, i.a, i.v⟩ = false := hr
    refine runs_by (tbl := tblPt) tblPt_ok 0 0 (af := a5) rfl ?_
    rw [a5, b5, run_eq]
    refine ⟨by simp, ?_⟩
    simp (implicitDefEqProofs := false) [tblPt, pureStep, p15, ho, hv, hr']
    refine ends_plan [] [] ?_ ?_ ?_ <;> simp [printT, hr]
  | true =>
    have hr' : rightI ⟨i.o, i.a, i.v⟩ = true := hr
    obtain ⟨h1, h2, h3, h4, h5, h6⟩ := rightI_inv hr
    have hl := limit_le i.o
    have hc : canonV i.v = i.v := by unfold canonV; rw [if_pos h6]
    have hw := wordO_size i.o.toNat
    have hA : 0 ≤ i.a ∧ i.a < 100 := by omega
    cases ua : usesA i.o.toNat with
    | true =>
      have uv := uses_one _ ua
      have hd := decS_size (n := i.a.toNat) (by omega)
      have hj := join_two (wordO i.o.toNat) (decS i.a.toNat) ⟨#[32]⟩
      have hsz : (joinS [wordO i.o.toNat, decS i.a.toNat] ⟨#[32]⟩).size ≤ 1000000 := by
        rw [hj, ByteArray.size_append, ByteArray.size_append]
        have : (⟨#[32]⟩ : ByteArray).size = 1 := rfl
        omega
      refine runs_by (tbl := tblPt) tblPt_ok 0 0 (af := a5) rfl ?_
      rw [a5, b5, run_eq]
      refine ⟨by simp, ?_⟩
      simp (implicitDefEqProofs := false) [tblPt, pureStep, p15, p16, p17, p18, st19, asStrs, ho, hv, hr', ua, uv, hA, hsz]
      refine ends_plan [] [] ?_ ?_ ?_ <;> simp [printT, hr, printB, ua, hj, blankS]
    | false =>
      cases uv : usesV i.o.toNat with
      | true =>
        have hd := hexS_size i.v.toNat
        have hj := join_two (wordO i.o.toNat) (hexS i.v.toNat) ⟨#[32]⟩
        have hsz : (joinS [wordO i.o.toNat, hexS i.v.toNat] ⟨#[32]⟩).size ≤ 1000000 := by
          rw [hj, ByteArray.size_append, ByteArray.size_append]
          have : (⟨#[32]⟩ : ByteArray).size = 1 := rfl
          omega
        refine runs_by (tbl := tblPt) tblPt_ok 0 0 (af := a5) rfl ?_
        rw [a5, b5, run_eq]
        refine ⟨by simp, ?_⟩
        simp (implicitDefEqProofs := false) [tblPt, pureStep, p15, p16, p17, p18, st19, asStrs, ho, hv, hr', ua, uv, hA, hsz, hc]
        refine ends_plan [] [] ?_ ?_ ?_ <;> simp [printT, hr, printB, ua, uv, hj, blankS]
      | false =>
        have hj := join_one (wordO i.o.toNat) ⟨#[32]⟩
        have hsz : (joinS [wordO i.o.toNat] ⟨#[32]⟩).size ≤ 1000000 := by rw [hj]; omega
        refine runs_by (tbl := tblPt) tblPt_ok 0 0 (af := a5) rfl ?_
        rw [a5, b5, run_eq]
        refine ⟨by simp, ?_⟩
        simp (implicitDefEqProofs := false) [tblPt, pureStep, p15, p16, p17, p18, st19, asStrs, ho, hv, hr', ua, uv, hA, hsz]
        refine ends_plan [] [] ?_ ?_ ?_ <;> simp [printT, hr, printB, ua, uv, hj]
theorem printT_ground (i : Ins) : ground (printT i) = true := by unfold printT; split <;> rfl
def p5 : PStep
  | [.agg ⟨[.int .u8 o, .int .i64 a, .int .u64 v]⟩] => some ((0 ≤ o ∧ o < 256) ∧ 0 ≤ v ∧ v < 18446744073709551616, printT ⟨o, a, v⟩)
  | _ => none
abbrev st5 := pureStep p5
theorem st5_ok : CStepOk Tryd.prog cfg 5 st5 := pure_ok fun args p v h hp => by
  unfold p5 at h
  split at h
  · cases h; exact ⟨rfl, printT_ground _, runs5 ⟨_, _, _⟩ hp⟩
  · cases h

def tblRt : List (FuncId × CStep GD) := [(20, st20), (21, st21), (22, st22), (23, st23), (24, st24)]
theorem tblRt_ok : ∀ x ∈ tblRt, CStepOk Tryd.prog cfg x.1 x.2 := by simp [tblRt, st20_ok, st21_ok, st22_ok, st23_ok, st24_ok]
set_option maxHeartbeats 4000000 in
theorem runs6 (i : Ins) (hi : i.Ok) : Runs Tryd.prog cfg 6 [.agg #[.int .u8 i.o, .int .i64 i.a, .int .u64 i.v]] (AH.of [])
    fun r H' => r = .ret (printT i) ∧ H' = AH.of [] := by
  refine Runs.ends ?_
  have ho := hi.1
  have hv := hi.2
  cases hr : rightI i with
  | false =>
    have hr' : rightI ⟨i.o, i.a, i.v⟩ = false := hr
    refine runs_by (tbl := tblRt) tblRt_ok 0 0 (af := a6) rfl ?_
    rw [a6, b6, run_eq]
    refine ⟨by simp, ?_⟩
    simp (implicitDefEqProofs := false) [tblRt, pureStep, p20, ho, hv, hr']
    refine ends_plan [] [] ?_ ?_ ?_ <;> simp [printT, hr]
  | true =>
    have hr' : rightI ⟨i.o, i.a, i.v⟩ = true := hr
    obtain ⟨h1, h2, h3, h4, h5, h6⟩ := rightI_inv hr
    have hl := limit_le i.o
    have hc : canonV i.v = i.v := by unfold canonV; rw [if_pos h6]
    have hw := wordO_size i.o.toNat
    have hA : 0 ≤ i.a ∧ i.a < 100 := by omega
    have b1 : (⟨#[32]⟩ : ByteArray).size = 1 := rfl
    obtain ⟨W, hW⟩ : ∃ W, wordO i.o.toNat = W := ⟨_, rfl⟩
    rw [hW] at hw
    cases ua : usesA i.o.toNat with
    | true =>
      have uv := uses_one _ ua
      have hd := decS_size (n := i.a.toNat) (by omega)
      obtain ⟨D, hD⟩ : ∃ D, decS i.a.toNat = D := ⟨_, rfl⟩
      rw [hD] at hd
      have s1 : 1 + D.size ≤ 9223372036854775807 := by omega
      have s2 : W.size + (1 + D.size) ≤ 9223372036854775807 := by omega
      refine runs_by (tbl := tblRt) tblRt_ok 0 0 (af := a6) rfl ?_
      rw [a6, b6, run_eq]
      refine ⟨by simp, ?_⟩
      simp (implicitDefEqProofs := false) [tblRt, pureStep, p20, p21, p22, p23, p24, ho, hv, hr', ua, uv, hA, hW, hD, b1, s1, s2]
      refine ends_plan [] [] ?_ ?_ ?_ <;> simp [printT, hr, printB, ua, hW, hD, blankS]
    | false =>
      cases uv : usesV i.o.toNat with
      | true =>
        have hd := hexS_size i.v.toNat
        obtain ⟨D, hD⟩ : ∃ D, hexS i.v.toNat = D := ⟨_, rfl⟩
        rw [hD] at hd
        have s1 : 1 + D.size ≤ 9223372036854775807 := by omega
        have s2 : W.size + (1 + D.size) ≤ 9223372036854775807 := by omega
        refine runs_by (tbl := tblRt) tblRt_ok 0 0 (af := a6) rfl ?_
        rw [a6, b6, run_eq]
        refine ⟨by simp, ?_⟩
        simp (implicitDefEqProofs := false) [tblRt, pureStep, p20, p21, p22, p23, p24, ho, hv, hr', ua, uv, hA, hW, hc, hD, b1, s1, s2]
        refine ends_plan [] [] ?_ ?_ ?_ <;> simp [printT, hr, printB, ua, uv, hW, hD, blankS]
      | false =>
        refine runs_by (tbl := tblRt) tblRt_ok 0 0 (af := a6) rfl ?_
        rw [a6, b6, run_eq]
        refine ⟨by simp, ?_⟩
        simp (implicitDefEqProofs := false) [tblRt, pureStep, p20, p21, p22, p23, p24, ho, hv, hr', ua, uv, hA, hW]
        refine ends_plan [] [] ?_ ?_ ?_ <;> simp [printT, hr, printB, ua, uv, hW]
def p6 : PStep
  | [.agg ⟨[.int .u8 o, .int .i64 a, .int .u64 v]⟩] => some ((0 ≤ o ∧ o < 256) ∧ 0 ≤ v ∧ v < 18446744073709551616, printT ⟨o, a, v⟩)
  | _ => none
abbrev st6 := pureStep p6
theorem st6_ok : CStepOk Tryd.prog cfg 6 st6 := pure_ok fun args p v h hp => by
  unfold p6 at h
  split at h
  · cases h; exact ⟨rfl, printT_ground _, runs6 ⟨_, _, _⟩ hp⟩
  · cases h
end YteegnbbblcokdaaDoor
end Go.Proofs
/-
  CODE: one or two digits.
-/
set_option linter.unusedSimpArgs false
set_option linter.unusedVariables false
set_option linter.unnecessarySimpa false
set_option linter.unusedSectionVars false
namespace Go.Proofs
namespace YteegnbbblcokdaaDoor
open Go.Abs
set_option linter.unusedSimpArgs false

theorem get_at {s : ByteArray} {i : Nat} {b : UInt8} (h : s.data.toList[i]? = some b) : s.get! i = b := by
  have h2 : s.data[i]? = some b := by simpa using h
  obtain ⟨hi, he⟩ := Array.getElem?_eq_some_iff.1 h2
  cases s with
  | mk d =>
    show d[i]! = b
    rw [Array.getElem!_eq_getD, Array.getD_eq_getD_getElem?]
    have h3 : d[i]? = some b := h2
    rw [h3]; rfl
theorem decode_low {s : ByteArray} {i : Nat} {b : UInt8} (h : s.data.toList[i]? = some b) (hb : b.toNat < 128) : Utf8.decode s i = (b.toNat, 1) := by
  unfold Utf8.decode
  simp only [Nat.add_zero, get_at h]
  rw [if_pos hb]
theorem decode_high {s : ByteArray} {i : Nat} {b : UInt8} (h : s.data.toList[i]? = some b) (hb : 128 ≤ b.toNat) : 128 ≤ (Utf8.decode s i).1 := by
  unfold Utf8.decode
  simp only [Nat.add_zero, get_at h]
  rw [if_neg (by omega)]
  repeat' split
  all_goals first
    | (simp [Utf8.runeError]; done)
    | (simp_all; done)
    | (simp_all; omega)
def isDig (b : UInt8) : Bool := decide (48 ≤ b.toNat ∧ b.toNat ≤ 57)
def smallL : List UInt8 → Int × Bool
  | [] => (0, false)
  | [a] => if isDig a then ((a.toNat : Int) - 48, true) else (0, false)
  | [a, b] => if isDig a ∧ isDig b then (10 * ((a.toNat : Int) - 48) + ((b.toNat : Int) - 48), decide (a.toNat ≠ 48)) else (0, false)
  | _ => (0, false)
def smallT (s : ByteArray) : Value := .tuple #[.int .i64 (smallL s.data.toList).1, .bool (smallL s.data.toList).2]
theorem bytes_of_list {s : ByteArray} {l : List UInt8} (h : s.data.toList = l) : s = ⟨l.toArray⟩ := by
  apply ByteArray.ext; rw [← h]
/-- A round at a byte that is no digit, or comes third. -/
theorem small_bad {s : ByteArray} {i : Nat} {b : UInt8} (h : s.data.toList[i]? = some b) (hb : isDig b = false) : ((Utf8.decode s i).1 : Int) < 48 ∨ 57 < ((Utf8.decode s i).1 : Int) := by
  unfold isDig at hb
  rw [decide_eq_false_iff_not] at hb
  by_cases hl : b.toNat < 128
  · rw [decode_low h hl]; simp only; omega
  · have := decode_high h (by omega); omega
theorem small_false {l : List UInt8} {i : Nat} {b : UInt8} (h : l[i]? = some b) (hb : isDig b = false) : smallL l = (0, false) := by
  rcases l with _ | ⟨a, _ | ⟨c, _ | ⟨d, l⟩⟩⟩
  · simp at h
  · rcases i with _ | i
    · simp at h; subst h; simp [smallL, hb]
    · simp at h
  · rcases i with _ | _ | i
    · simp at h; subst h; simp [smallL, hb]
    · simp at h; subst h; simp [smallL, hb]
    · simp at h
  · rfl
theorem small_long {l : List UInt8} (h : 3 ≤ l.length) : smallL l = (0, false) := by
  rcases l with _ | ⟨a, _ | ⟨c, _ | ⟨d, l⟩⟩⟩ <;> first | rfl | (simp at h)
set_option maxHeartbeats 4000000 in
theorem runs27 (s : ByteArray) : Runs Tryd.prog cfg 27 [.string s] (AH.of []) fun r H' => r = .ret (smallT s) ∧ H' = AH.of [] := by
  refine Runs.ends ?_
  have hsz : s.data.toList.length = s.size := Array.length_toList
  refine runs_by (tbl := []) (by simp) 5 0 (af := a27) rfl ?_
  rw [a27, b27, run_eq]
  refine ⟨by simp, ?_⟩
  simp (implicitDefEqProofs := false)
  refine loop_inv (sg_mono gX_ok (tabS_ok (by simp)) _ _ noY noY_mono) (fun m tm H => ∃ (i : Nat) (n : Int), m + i = 2 ∧ i ≤ s.size ∧ (∀ j b, j < i → s.data.toList[j]? = some b → isDig b = true) ∧ (i = 0 → n = 0) ∧ (i = 1 → ∀ a, s.data.toList[0]? = some a → n = (a.toNat : Int) - 48) ∧ (i = 2 → ∀ a b, s.data.toList[0]? = some a → s.data.toList[1]? = some b → n = 10 * ((a.toNat : Int) - 48) + ((b.toNat : Int) - 48)) ∧ tm 0 = .string s ∧ tm 8 = .pointer (some ⟨0, 0, none⟩) ∧ tm 4 = .int .i64 n ∧ H = AH.of [some (.siter s i)]) (m := 2) ⟨0, 0, by simp⟩ (by omega) ?_
  rintro m tm H ⟨i, n, hm, his, hdig, n0, n1, n2, t0, t8, t4, rfl⟩
  by_cases hi : i < s.size
  · obtain ⟨b, hb⟩ : ∃ b, s.data.toList[i]? = some b := ⟨s.data.toList[i]'(by omega), List.getElem?_eq_getElem (by omega)⟩
    obtain ⟨q, hq⟩ : ∃ q, Utf8.decode s i = q := ⟨_, rfl⟩
    cases hd : isDig b with
    | false =>
      have hbad := small_bad hb hd
      have hT : smallT s = .tuple #[.int .i64 0, .bool false] := by
        unfold smallT; rw [small_false hb hd]
      rw [hT]
      rw [hq] at hbad
      by_cases h48 : ((q.1 : Nat) : Int) < 48
      · simp (implicitDefEqProofs := false) [t0, t8, t4, hi, hq, h48]
        refine ends_plan [] [] ?_ ?_ ?_ <;> simp
      · have h57 : 57 < ((q.1 : Nat) : Int) := by omega
        simp (implicitDefEqProofs := false) [t0, t8, t4, hi, hq, h48, h57]
        refine ends_plan [] [] ?_ ?_ ?_ <;> simp
    | true =>
      have hdg := of_decide_eq_true hd
      have hdec := decode_low hb (by omega)
      have c1 : ¬ ((b.toNat : Nat) : Int) < 48 := by omega
      have c2 : ¬ 57 < ((b.toNat : Nat) : Int) := by omega
      by_cases hi2 : i = 2
      · subst hi2
        have hT : smallT s = .tuple #[.int .i64 0, .bool false] := by unfold smallT; rw [small_long (by omega)]
        rw [hT]
        simp (implicitDefEqProofs := false) [t0, t8, t4, hi, hdec, c1, c2]
        refine ends_plan [] [] ?_ ?_ ?_ <;> simp
      · have c3 : ¬ (1 : Int) < i := by omega
        have hn : 0 ≤ n ∧ n ≤ 9 := by
          rcases i with _ | _ | i
          · have := n0 rfl; omega
          · obtain ⟨a, ha⟩ : ∃ a, s.data.toList[0]? = some a := ⟨s.data.toList[0]'(by omega), List.getElem?_eq_getElem (by omega)⟩
            have h1 := n1 rfl a ha
            have h2 := of_decide_eq_true (hdig 0 a (by omega) ha)
            omega
          · omega
        have w1 : IntKind.i64.wrap (10 * n) = 10 * n := wrap_i64 (by omega) (by omega)
        have w2 : IntKind.i32.wrap (((b.toNat : Nat) : Int) - 48) = ((b.toNat : Nat) : Int) - 48 := by simp [IntKind.wrap, IntKind.bits, IntKind.signed]; omega
        have w3 : IntKind.i64.wrap (((b.toNat : Nat) : Int) - 48) = ((b.toNat : Nat) : Int) - 48 := wrap_i64 (by omega) (by omega)
        have w4 : IntKind.i64.wrap (10 * n + (((b.toNat : Nat) : Int) - 48)) = 10 * n + (((b.toNat : Nat) : Int) - 48) := wrap_i64 (by omega) (by omega)
        simp (implicitDefEqProofs := false) [t0, t8, t4, hi, hdec, c1, c2, c3, w1, w2, w3, w4]
        refine ⟨m - 1, by omega, i + 1, by omega, by omega, fun j c hj hc => ?_, 10 * n + (((b.toNat : Nat) : Int) - 48), fun h => by omega, fun h a ha => ?_, fun h a c ha hc => ?_, rfl, rfl⟩
        · by_cases hji : j = i
          · subst hji
            have : s.data[j]? = some b := by simpa using hb
            rw [hc] at this; cases this; exact hd
          · exact hdig j c (by omega) (by simpa using hc)
        · have hi0 : i = 0 := by omega
          subst hi0
          have : s.data[0]? = some b := by simpa using hb
          rw [ha] at this; cases this
          have := n0 rfl; omega
        · have hi1 : i = 1 := by omega
          subst hi1
          have : s.data[1]? = some b := by simpa using hb
          rw [hc] at this; cases this
          have := n1 rfl a (by simpa using ha); omega
  · have hie : i = s.size := by omega
    rcases i with _ | _ | _ | i
    · have hs : s = ⟨#[]⟩ := bytes_of_list (l := []) (List.eq_nil_of_length_eq_zero (by omega))
      have hn := n0 rfl
      have hT : smallT s = .tuple #[.int .i64 0, .bool false] := by rw [hs]; rfl
      rw [hT]
      have nil0 : (⟨#[]⟩ : ByteArray).size = 0 := rfl
      simp (implicitDefEqProofs := false) [t0, t8, t4, hi, hs, hn, nil0]
      refine ends_plan [] [] ?_ ?_ ?_ <;> simp
    · obtain ⟨a, ha⟩ : ∃ a, s.data.toList = [a] := by
        rcases hl : s.data.toList with _ | ⟨a, _ | ⟨c, l⟩⟩
        · rw [hl] at hsz; simp at hsz; omega
        · exact ⟨a, rfl⟩
        · rw [hl] at hsz; simp at hsz; omega
      have hs : s = ⟨#[a]⟩ := bytes_of_list (l := [a]) ha
      have hdg := hdig 0 a (by omega) (by rw [ha]; rfl)
      have hn := n1 rfl a (by rw [ha]; rfl)
      have hT : smallT s = .tuple #[.int .i64 n, .bool true] := by unfold smallT; rw [ha]; simp [smallL, hdg, hn]
      rw [hT]
      have hne : ¬ s = ⟨#[]⟩ := by rw [hs]; exact fun h => by cases h
      have ha0 : s.data[0]? = some a := by rw [hs]; rfl
      by_cases h48 : s = ⟨#[48]⟩
      · have s48 : (⟨#[48]⟩ : ByteArray).size = 1 := rfl
        simp (implicitDefEqProofs := false) [t0, t8, t4, hi, hne, h48, s48]
        refine ends_plan [] [] ?_ ?_ ?_ <;> simp
      · have ha48 : ¬ a.toNat = 48 := fun h => h48 (by rw [hs]; congr 2; exact congrArg (fun x => [x]) (UInt8.toNat_inj.1 (by rw [h]; rfl)))
        have ha48' : ¬ ((a.toNat : Nat) : Int) = 48 := by omega
        simp (implicitDefEqProofs := false) [t0, t8, t4, hi, hne, h48, ha0, ha48, ha48']
        refine ends_plan [] [] ?_ ?_ ?_ <;> simp
    · obtain ⟨a, b, ha⟩ : ∃ a b, s.data.toList = [a, b] := by
        rcases hl : s.data.toList with _ | ⟨a, _ | ⟨c, _ | ⟨d, l⟩⟩⟩
        · rw [hl] at hsz; simp at hsz; omega
        · rw [hl] at hsz; simp at hsz; omega
        · exact ⟨a, c, rfl⟩
        · rw [hl] at hsz; simp at hsz; omega
      have hs : s = ⟨#[a, b]⟩ := bytes_of_list (l := [a, b]) ha
      have hda := hdig 0 a (by omega) (by rw [ha]; rfl)
      have hdb := hdig 1 b (by omega) (by rw [ha]; rfl)
      have hn := n2 rfl a b (by rw [ha]; rfl) (by rw [ha]; rfl)
      have hT : smallT s = .tuple #[.int .i64 n, .bool (decide (a.toNat ≠ 48))] := by unfold smallT; rw [ha]; simp [smallL, hda, hdb, hn]
      rw [hT]
      have hne : ¬ s = ⟨#[]⟩ := by rw [hs]; exact fun h => by cases h
      have hne2 : ¬ s = ⟨#[48]⟩ := by rw [hs]; exact fun h => by cases h
      have ha0 : s.data[0]? = some a := by rw [hs]; rfl
      by_cases ha48 : a.toNat = 48
      · have ha48' : ((a.toNat : Nat) : Int) = 48 := by omega
        simp (implicitDefEqProofs := false) [t0, t8, t4, hi, hne, hne2, ha0, ha48, ha48']
        refine ends_plan [] [] ?_ ?_ ?_ <;> simp [ha48]
      · have ha48' : ¬ ((a.toNat : Nat) : Int) = 48 := by omega
        simp (implicitDefEqProofs := false) [t0, t8, t4, hi, hne, hne2, ha0, ha48, ha48']
        refine ends_plan [] [] ?_ ?_ ?_ <;> simp [ha48]
    · omega
def p227 : PStep
  | [.string s] => some (True, smallT s)
  | _ => none
abbrev st227 := pureStep p227
theorem st227_ok : CStepOk Tryd.prog cfg 27 st227 := pure_ok fun args p v h hp => by
  unfold p227 at h
  split at h
  · cases h; exact ⟨rfl, rfl, runs27 _⟩
  · cases h

/-! Cut at a blank -/
def cutT (s : ByteArray) : Value :=
  if Lib.indexByte s.data.toList 32 < 0 then .tuple #[.string s, .string ⟨#[]⟩, .bool false]
  else .tuple #[.string (s.extract 0 (Lib.indexByte s.data.toList 32).toNat), .string (s.extract ((Lib.indexByte s.data.toList 32).toNat + 1) s.size), .bool true]
theorem indexByte_lt (l : List UInt8) (c : UInt8) : Lib.indexByte l c < l.length := by
  induction l with
  | nil => simp [Lib.indexByte]
  | cons b l ih =>
    unfold Lib.indexByte
    rw [List.length_cons]
    split
    · omega
    · split <;> omega
set_option maxHeartbeats 1000000 in
theorem runs25 (s : ByteArray) (hs : s.size ≤ 1000000) : Runs Tryd.prog cfg 25 [.string s, .string ⟨#[32]⟩] (AH.of []) fun r H' => r = .ret (cutT s) ∧ H' = AH.of [] := by
  refine Runs.ends ?_
  have hlt := indexByte_lt s.data.toList 32
  rw [Array.length_toList] at hlt
  have hlt2 : Lib.indexByte s.data.toList 32 < s.size := hlt
  obtain ⟨k, hk⟩ : ∃ k, Lib.indexByte s.data.toList 32 = k := ⟨_, rfl⟩
  rw [hk] at hlt2
  have b1 : (⟨#[32]⟩ : ByteArray).size = 1 := rfl
  refine runs_by (tbl := [(51, st51)]) (by simp [st51_ok]) 0 3 (af := a25) rfl ?_
  rw [a25, b25, run_eq]
  refine ⟨by simp, ?_⟩
  by_cases h0 : k < 0
  · have h0' : ¬ 0 ≤ k := by omega
    simp (implicitDefEqProofs := false) [pureStep, p51, forms43, a43, b43, hk, h0, h0', b1]
    refine ends_plan [] [] ?_ ?_ ?_ <;> simp [cutT, hk, h0]
  · have h0' : 0 ≤ k := by omega
    have hk1 : k ≤ s.size := by omega
    have hk2 : k + 1 ≤ s.size := by omega
    have hk3 : 0 ≤ k + 1 := by omega
    have hk4 : (k + 1).toNat = k.toNat + 1 := by omega
    have hw : IntKind.i64.wrap (k + 1) = k + 1 := wrap_i64 (by omega) (by omega)
    simp (implicitDefEqProofs := false) [pureStep, p51, forms43, a43, b43, hk, h0, h0', b1, hw, hk1, hk2, hk3, hk4]
    refine ends_plan [] [] ?_ ?_ ?_ <;> simp [cutT, hk, h0]
theorem cutT_ground (s : ByteArray) : ground (cutT s) = true := by unfold cutT; split <;> rfl
def p25 : PStep
  | [.string s, .string ⟨⟨[32]⟩⟩] => some (s.size ≤ 1000000, cutT s)
  | _ => none
abbrev st25 := pureStep p25
theorem st25_ok : CStepOk Tryd.prog cfg 25 st25 := pure_ok fun args p v h hp => by
  unfold p25 at h
  split at h
  · cases h; exact ⟨rfl, cutT_ground _, runs25 _ hp⟩
  · cases h
end YteegnbbblcokdaaDoor
end Go.Proofs
/-
  CODE: what a text says.
-/
set_option linter.unusedSimpArgs false
set_option linter.unusedVariables false
set_option linter.unnecessarySimpa false
set_option linter.unusedSectionVars false
namespace Go.Proofs
namespace YteegnbbblcokdaaDoor
open Go.Abs
set_option linter.unusedSimpArgs false

/-- What is said by a word, and what is behind it. -/
def saysW (w r : ByteArray) (more : Bool) : Option Ins :=
  match readW w with
  | none => none
  | some o =>
    if more ≠ (usesA o || usesV o) then none
    else if usesA o then (if (smallL r.data.toList).2 = true ∧ rightI ⟨o, (smallL r.data.toList).1, 0⟩ = true then some ⟨o, (smallL r.data.toList).1, 0⟩ else none)
    else if usesV o then (match bitsS r with
      | some v => if rightI ⟨o, 0, v⟩ then some ⟨o, 0, v⟩ else none
      | none => none)
    else if rightI ⟨o, 0, 0⟩ then some ⟨o, 0, 0⟩ else none
def saysS (s : ByteArray) : Option Ins :=
  if Lib.indexByte s.data.toList 32 < 0 then saysW s ⟨#[]⟩ false
  else saysW (s.extract 0 (Lib.indexByte s.data.toList 32).toNat) (s.extract ((Lib.indexByte s.data.toList 32).toNat + 1) s.size) true
def insT : Option Ins → Value
  | some i => .tuple #[.agg #[.int .u8 i.o, .int .i64 i.a, .int .u64 i.v], .int .i64 0]
  | none => .tuple #[.agg #[.int .u8 0, .int .i64 0, .int .u64 0], .int .i64 3]
theorem readW_lt {w : ByteArray} {o : Nat} (h : readW w = some o) : o < 29 := by
  unfold readW readL at h
  have := List.mem_of_find?_eq_some h
  exact List.mem_range.1 this
theorem bitsS_lt {r : ByteArray} {v : Nat} (h : bitsS r = some v) : v < 18446744073709551616 := by
  unfold bitsS at h
  split at h
  · rename_i hs
    simp only [Option.bind_eq_some_iff] at h
    obtain ⟨n, hn, h⟩ := h
    split at h
    · cases h
      have := hexF_lt _ hn
      rw [Array.length_toList] at this
      have hs' : r.data.size = 16 := hs
      rw [hs'] at this
      exact this
    · cases h
  · cases h
def tblCp : List (FuncId × CStep GD) := [(25, st25), (26, st26), (16, st16), (27, st227), (28, st28), (15, st15)]
theorem tblCp_ok : ∀ x ∈ tblCp, CStepOk Tryd.prog cfg x.1 x.2 := by simp [tblCp, st25_ok, st26_ok, st16_ok, st227_ok, st28_ok, st15_ok]
set_option maxHeartbeats 8000000 in
theorem runs7 (s : ByteArray) (hs : s.size ≤ 1000000) : Runs Tryd.prog cfg 7 [.string s] (AH.of []) fun r H' => r = .ret (insT (saysS s)) ∧ H' = AH.of [] := by
  obtain ⟨w, r, more, hcut, hsay⟩ : ∃ w r more, cutT s = .tuple #[.string w, .string r, .bool more] ∧ saysS s = saysW w r more := by
    unfold cutT saysS
    split
    · exact ⟨_, _, _, rfl, rfl⟩
    · exact ⟨_, _, _, rfl, rfl⟩
  rw [hsay]
  refine Runs.ends ?_
  cases hw : readW w with
  | none =>
    have hS : saysW w r more = none := by unfold saysW; rw [hw]
    rw [hS]
    refine runs_by (tbl := tblCp) tblCp_ok 0 0 (af := a7) rfl ?_
    rw [a7, b7, run_eq]
    refine ⟨by simp, ?_⟩
    simp (implicitDefEqProofs := false) [tblCp, pureStep, p25, p26, p16, p227, p28, p15, hs, hcut, hw]
    refine ends_plan [] [] ?_ ?_ ?_ <;> simp [insT]
  | some o =>
    have ho := readW_lt hw
    have ho2 : (0 : Int) ≤ o ∧ (o : Int) < 256 := by omega
    by_cases hm : more = (usesA o || usesV o)
    · cases ua : usesA o with
      | true =>
        have uv := uses_one _ ua
        have hmt : more = true := by rw [hm, ua]; rfl
        obtain ⟨n, ok, hsm⟩ : ∃ n ok, smallL r.data.toList = (n, ok) := ⟨_, _, rfl⟩
        have hsT : smallT r = .tuple #[.int .i64 n, .bool ok] := by unfold smallT; rw [hsm]
        have hS : saysW w r more = if ok = true ∧ rightI ⟨o, n, 0⟩ = true then some ⟨o, n, 0⟩ else none := by
          unfold saysW; rw [hw]; simp [hm, ua, hsm]
        rw [hS]
        cases ok with
        | false =>
          refine runs_by (tbl := tblCp) tblCp_ok 0 0 (af := a7) rfl ?_
          rw [a7, b7, run_eq]
          refine ⟨by simp, ?_⟩
          simp (implicitDefEqProofs := false) [tblCp, pureStep, p25, p26, p16, p227, p28, p15, hs, hcut, hw, ho2, hmt, ua, uv, hsT]
          refine ends_plan [] [] ?_ ?_ ?_ <;> simp [insT]
        | true =>
          cases hr : rightI ⟨o, n, 0⟩ with
          | true =>
            refine runs_by (tbl := tblCp) tblCp_ok 0 0 (af := a7) rfl ?_
            rw [a7, b7, run_eq]
            refine ⟨by simp, ?_⟩
            simp (implicitDefEqProofs := false) [tblCp, pureStep, p25, p26, p16, p227, p28, p15, hs, hcut, hw, ho2, hmt, ua, uv, hsT, hr]
            refine ends_plan [] [] ?_ ?_ ?_ <;> simp [insT]
          | false =>
            refine runs_by (tbl := tblCp) tblCp_ok 0 0 (af := a7) rfl ?_
            rw [a7, b7, run_eq]
            refine ⟨by simp, ?_⟩
            simp (implicitDefEqProofs := false) [tblCp, pureStep, p25, p26, p16, p227, p28, p15, hs, hcut, hw, ho2, hmt, ua, uv, hsT, hr]
            refine ends_plan [] [] ?_ ?_ ?_ <;> simp [insT]
      | false =>
        cases uv : usesV o with
        | true =>
          have hmt : more = true := by rw [hm, ua, uv]; rfl
          cases hb : bitsS r with
          | none =>
            have hpT : parseT r = .tuple #[.int .u64 0, .int .i64 3] := by unfold parseT; rw [hb]
            have hS : saysW w r more = none := by unfold saysW; rw [hw]; simp [hm, ua, uv, hb]
            rw [hS]
            refine runs_by (tbl := tblCp) tblCp_ok 0 0 (af := a7) rfl ?_
            rw [a7, b7, run_eq]
            refine ⟨by simp, ?_⟩
            simp (implicitDefEqProofs := false) [tblCp, pureStep, p25, p26, p16, p227, p28, p15, hs, hcut, hw, ho2, hmt, ua, uv, hpT]
            refine ends_plan [] [] ?_ ?_ ?_ <;> simp [insT]
          | some v =>
            have hv := bitsS_lt hb
            have hv2 : (0 : Int) ≤ v ∧ (v : Int) < 18446744073709551616 := by omega
            have hpT : parseT r = .tuple #[.int .u64 v, .int .i64 0] := by unfold parseT; rw [hb]
            have hS : saysW w r more = if rightI ⟨o, 0, v⟩ then some ⟨o, 0, v⟩ else none := by unfold saysW; rw [hw]; simp [hm, ua, uv, hb]
            rw [hS]
            cases hr : rightI ⟨o, 0, v⟩ with
            | true =>
              refine runs_by (tbl := tblCp) tblCp_ok 0 0 (af := a7) rfl ?_
              rw [a7, b7, run_eq]
              refine ⟨by simp, ?_⟩
              simp (implicitDefEqProofs := false) [tblCp, pureStep, p25, p26, p16, p227, p28, p15, hs, hcut, hw, ho2, hmt, ua, uv, hpT, hr, hv2]
              refine ends_plan [] [] ?_ ?_ ?_ <;> simp [insT]
            | false =>
              refine runs_by (tbl := tblCp) tblCp_ok 0 0 (af := a7) rfl ?_
              rw [a7, b7, run_eq]
              refine ⟨by simp, ?_⟩
              simp (implicitDefEqProofs := false) [tblCp, pureStep, p25, p26, p16, p227, p28, p15, hs, hcut, hw, ho2, hmt, ua, uv, hpT, hr, hv2]
              refine ends_plan [] [] ?_ ?_ ?_ <;> simp [insT]
        | false =>
          have hmf : more = false := by rw [hm, ua, uv]; rfl
          have hS : saysW w r more = if rightI ⟨o, 0, 0⟩ then some ⟨o, 0, 0⟩ else none := by unfold saysW; rw [hw]; simp [hm, ua, uv]
          rw [hS]
          cases hr : rightI ⟨o, 0, 0⟩ with
          | true =>
            refine runs_by (tbl := tblCp) tblCp_ok 0 0 (af := a7) rfl ?_
            rw [a7, b7, run_eq]
            refine ⟨by simp, ?_⟩
            simp (implicitDefEqProofs := false) [tblCp, pureStep, p25, p26, p16, p227, p28, p15, hs, hcut, hw, ho2, hmf, ua, uv, hr]
            refine ends_plan [] [] ?_ ?_ ?_ <;> simp [insT]
          | false =>
            refine runs_by (tbl := tblCp) tblCp_ok 0 0 (af := a7) rfl ?_
            rw [a7, b7, run_eq]
            refine ⟨by simp, ?_⟩
            simp (implicitDefEqProofs := false) [tblCp, pureStep, p25, p26, p16, p227, p28, p15, hs, hcut, hw, ho2, hmf, ua, uv, hr]
            refine ends_plan [] [] ?_ ?_ ?_ <;> simp [insT]
    · have hS : saysW w r more = none := by unfold saysW; rw [hw]; simp [hm]
      rw [hS]
      cases more <;> cases ua : usesA o <;> cases uv : usesV o <;> first
        | (exfalso; rw [ua, uv] at hm; exact hm rfl)
        | (refine runs_by (tbl := tblCp) tblCp_ok 0 0 (af := a7) rfl ?_
           rw [a7, b7, run_eq]
           refine ⟨by simp, ?_⟩
           simp (implicitDefEqProofs := false) [tblCp, pureStep, p25, p26, p16, p227, p28, p15, hs, hcut, hw, ho2, ua, uv]
           refine ends_plan [] [] ?_ ?_ ?_ <;> simp [insT])
theorem insT_ground (o : Option Ins) : ground (insT o) = true := by cases o <;> rfl
def p7 : PStep
  | [.string s] => some (s.size ≤ 1000000, insT (saysS s))
  | _ => none
abbrev st7 := pureStep p7
theorem st7_ok : CStepOk Tryd.prog cfg 7 st7 := pure_ok fun args p v h hp => by
  unfold p7 at h
  split at h
  · cases h; exact ⟨rfl, insT_ground _, runs7 _ hp⟩
  · cases h
end YteegnbbblcokdaaDoor
end Go.Proofs
/-
  CODE: what a text says to the reference.
-/
set_option linter.unusedSimpArgs false
set_option linter.unusedVariables false
set_option linter.unnecessarySimpa false
set_option linter.unusedSectionVars false
namespace Go.Proofs
namespace YteegnbbblcokdaaDoor
open Go.Abs
set_option linter.unusedSimpArgs false

/-- The first blank, if there is one. -/
def blankAt (l : List UInt8) : Option Nat := l.findIdx? fun b => b.toNat == 32
theorem blankAt_some {l : List UInt8} {k : Nat} {b : UInt8} (h : l[k]? = some b) (hb : b.toNat = 32) (hno : ∀ (j : Nat) (c : UInt8), j < k → l[j]? = some c → c.toNat ≠ 32) : blankAt l = some k := by
  unfold blankAt
  rw [List.findIdx?_eq_some_iff_getElem]
  obtain ⟨hk, he⟩ := List.getElem?_eq_some_iff.1 h
  refine ⟨hk, by rw [he]; simp [hb], fun j hj => ?_⟩
  have := hno j _ hj (List.getElem?_eq_getElem (by omega))
  simpa using this
theorem blankAt_none {l : List UInt8} (hno : ∀ (j : Nat) (c : UInt8), l[j]? = some c → c.toNat ≠ 32) : blankAt l = none := by
  unfold blankAt
  rw [List.findIdx?_eq_none_iff]
  intro c hc
  obtain ⟨j, hj⟩ := List.getElem?_of_mem hc
  simpa using hno j c hj
def rWord (s : ByteArray) : ByteArray := match blankAt s.data.toList with
  | some k => s.extract 0 k
  | none => s
def rRest (s : ByteArray) : ByteArray := match blankAt s.data.toList with
  | some k => s.extract k s.size
  | none => ⟨#[]⟩
/-- The number that stands behind the word. -/
def argP (r : ByteArray) : Nat → Nat
  | 0 => 0
  | n + 1 => if r = blankS ++ decS n then n else argP r n
def insR (s : ByteArray) (o : Nat) : Ins := ⟨o, if usesA o then (argP (rRest s) 64 : Nat) else 0, if usesV o = true ∧ (rRest s).size = 17 then ((bitsS ((rRest s).extract 1 17)).getD 0 : Nat) else 0⟩
def saysR (s : ByteArray) : Option Ins := match readW (rWord s) with
  | none => none
  | some o => if rightI (insR s o) = true ∧ printB (insR s o) = s then some (insR s o) else none
theorem argP_lt (r : ByteArray) : ∀ n, argP r n ≤ n
  | 0 => Nat.le_refl _
  | n + 1 => by unfold argP; split <;> (first | omega | (have := argP_lt r n; omega))
def tblRq : List (FuncId × CStep GD) := [(29, st29), (21, st21), (30, st30), (23, st23), (6, st6)]
theorem tblRq_ok : ∀ x ∈ tblRq, CStepOk Tryd.prog cfg x.1 x.2 := by simp [tblRq, st29_ok, st21_ok, st30_ok, st23_ok, st6_ok]
set_option maxHeartbeats 8000000 in
theorem runs9 (s : ByteArray) (hs : s.size ≤ 1000000) : Runs Tryd.prog cfg 9 [.string s] (AH.of []) fun r H' => r = .ret (insT (saysR s)) ∧ H' = AH.of [] := by
  refine Runs.ends ?_
  have hsz : s.data.toList.length = s.size := Array.length_toList
  refine runs_by (tbl := tblRq) tblRq_ok (s.size + 70) 0 (af := a9) rfl ?_
  rw [a9, b9, run_eq]
  refine ⟨by simp, ?_⟩
  simp (implicitDefEqProofs := false)
  refine loop_inv (sg_mono gX_ok (tabS_ok tblRq_ok) _ _ noY noY_mono) (fun m tm H => H = AH.of [some (.arr 26 [.int .u8 0, .int .i64 0, .int .u64 0])] ∧ tm 0 = .string s ∧ tm 2 = .pointer (some ⟨0, 0, none⟩) ∧
      ((∃ k : Nat, m = s.size - k + 1 ∧ k ≤ s.size ∧ (∀ j c, j < k → s.data.toList[j]? = some c → c.toNat ≠ 32) ∧ tm 4 = .string s ∧ tm 5 = .string ⟨#[]⟩ ∧ tm 6 = .int .i64 k) ∨
       (m = 0 ∧ ∃ k : Nat, k < s.size ∧ blankAt s.data.toList = some k ∧ tm 4 = .string (s.extract 0 k) ∧ tm 5 = .string (s.extract k s.size) ∧ tm 6 = .int .i64 (k + 1 : Nat)))) (m := s.size + 1) ⟨rfl, by simp, by simp, .inl ⟨0, by simp⟩⟩ (by omega) ?_
  rintro m tm H ⟨rfl, t0, t2, hcase⟩
  have hex : (∃ k : Nat, k < s.size ∧ m = s.size - k + 1 ∧ (∀ (j : Nat) (c : UInt8), j < k → s.data.toList[j]? = some c → c.toNat ≠ 32) ∧ tm 4 = .string s ∧ tm 5 = .string ⟨#[]⟩ ∧ tm 6 = .int .i64 k) ∨
      (∃ k : Nat, tm 6 = .int .i64 k ∧ tm 4 = .string (rWord s) ∧ tm 5 = .string (rRest s) ∧ (¬ k < s.size ∨ (k < s.size ∧ ¬ rRest s = ⟨#[]⟩))) := by
    rcases hcase with ⟨k, hm, hk, hno, t4, t5, t6⟩ | ⟨hm, k, hk, hbl, t4, t5, t6⟩
    · by_cases hks : k < s.size
      · exact .inl ⟨k, hks, hm, hno, t4, t5, t6⟩
      · have hn : blankAt s.data.toList = none := blankAt_none fun j c hc => hno j c (by have := (List.getElem?_eq_some_iff.1 hc).1; omega) hc
        exact .inr ⟨k, t6, by unfold rWord; rw [hn]; exact t4, by unfold rRest; rw [hn]; exact t5, .inl hks⟩
    · refine .inr ⟨k + 1, t6, by unfold rWord; rw [hbl]; exact t4, by unfold rRest; rw [hbl]; exact t5, ?_⟩
      by_cases hk1 : k + 1 < s.size
      · refine .inr ⟨hk1, fun h => ?_⟩
        unfold rRest at h
        rw [hbl] at h
        have := congrArg ByteArray.size h
        rw [ByteArray.size_extract] at this
        have e0 : (⟨#[]⟩ : ByteArray).size = 0 := rfl
        rw [e0] at this
        omega
      · exact .inl hk1
  rcases hex with ⟨k, hks, hm, hno, t4, t5, t6⟩ | ⟨k, t6, t4, t5, hx⟩
  · obtain ⟨b, hb⟩ : ∃ b, s.data.toList[k]? = some b := ⟨s.data.toList[k]'(by omega), List.getElem?_eq_getElem (by omega)⟩
    have hb2 : s.data[k]? = some b := by simpa using hb
    have hbg : ∀ h, s.data[k]'h = b := fun h => by rw [Array.getElem?_eq_getElem h] at hb2; exact Option.some.inj hb2
    have hks' : (k : Int) < s.size := by omega
    have hks2 : (k : Int) ≤ s.size := by omega
    have hwr := inc_i64 hks (by omega)
    by_cases hb32 : b.toNat = 32
    · have hb32' : ((b.toNat : Nat) : Int) = 32 := by omega
      have hbl := blankAt_some hb hb32 hno
      simp (implicitDefEqProofs := false) [t0, t2, t4, t5, t6, hks, hks', hks2, hbg, hb32, hb32', hwr, Nat.le_of_lt hks]
      exact ⟨0, by omega, .inr ⟨rfl, k, hks, hbl, rfl, rfl, by omega⟩⟩
    · have hb32' : ¬ ((b.toNat : Nat) : Int) = 32 := by omega
      simp (implicitDefEqProofs := false) [t0, t2, t4, t5, t6, hks, hks', hbg, hb32, hb32', hwr]
      refine ⟨m - 1, by omega, .inl ⟨k + 1, by omega, by omega, fun j c hj hc => ?_, by omega⟩⟩
      by_cases hjk : j = k
      · subst hjk
        have hc' : s.data.toList[j]? = some c := by simpa using hc
        rw [hb] at hc'; cases hc'; exact hb32
      · exact hno j c (by omega) (by simpa using hc)
  · obtain ⟨W, hW⟩ : ∃ W, rWord s = W := ⟨_, rfl⟩
    obtain ⟨R, hR⟩ : ∃ R, rRest s = R := ⟨_, rfl⟩
    have hfin : ∀ (o : Nat), readW W = some o → saysR s = if rightI (insR s o) = true ∧ printB (insR s o) = s then some (insR s o) else none := fun o ho => by unfold saysR; rw [hW, ho]
    rw [hW] at t4
    rw [hR] at t5 hx
    cases hw : readW W with
    | none =>
      have hS : saysR s = none := by unfold saysR; rw [hW, hw]
      rw [hS]
      rcases hx with hx | ⟨hx, hne⟩
      all_goals
        simp (implicitDefEqProofs := false) [tblRq, pureStep, p29, t0, t2, t4, t5, t6, hx, hw, *]
        refine ends_plan [] [] ?_ ?_ ?_ <;> simp [insT]
    | some o =>
      have ho := readW_lt hw
      have ho2 : (0 : Int) ≤ o ∧ (o : Int) < 256 := by omega
      rw [hfin o hw]
      -- what is found behind the word
      have hval : ∃ v : Nat, v < 18446744073709551616 ∧ insR s o = ⟨o, if usesA o then (argP R 64 : Nat) else 0, (v : Int)⟩ ∧
          ((usesV o = false ∧ v = 0) ∨ (usesV o = true ∧ ¬ (R.size : Int) = 17 ∧ v = 0) ∨ (usesV o = true ∧ ((R.size : Int) = 17 ∧ R.size = 17) ∧ ∃ e : Int, parseT (R.extract 1 17) = .tuple #[.int .u64 v, .int .i64 e])) := by
        unfold insR
        rw [hR]
        cases uv : usesV o with
        | false => exact ⟨0, by omega, by simp, .inl ⟨rfl, rfl⟩⟩
        | true =>
          by_cases h17 : R.size = 17
          · cases hb : bitsS (R.extract 1 17) with
            | none => exact ⟨0, by omega, by simp [h17, hb], .inr (.inr ⟨rfl, ⟨by omega, h17⟩, 3, by unfold parseT; rw [hb]; rfl⟩)⟩
            | some v => exact ⟨v, bitsS_lt hb, by simp [h17, hb], .inr (.inr ⟨rfl, ⟨by omega, h17⟩, 0, by unfold parseT; rw [hb]⟩)⟩
          · exact ⟨0, by omega, by simp [h17], .inr (.inl ⟨rfl, by omega, rfl⟩)⟩
      obtain ⟨v, hv, hI, hv2⟩ := hval
      have hv0 : (0 : Int) ≤ v ∧ (v : Int) < 18446744073709551616 := by omega
      rw [hI]
      obtain ⟨a, ha⟩ : ∃ a : Int, (if usesA o then ((argP R 64 : Nat) : Int) else 0) = a := ⟨_, rfl⟩
      rw [ha]
      have hres : (∃ p : ByteArray, printT ⟨o, a, v⟩ = .tuple #[.string p, .int .i64 0] ∧ ((p = s ∧ (if rightI ⟨o, a, v⟩ = true ∧ printB ⟨o, a, v⟩ = s then some (⟨o, a, v⟩ : Ins) else none) = some ⟨o, a, v⟩) ∨ (¬ p = s ∧ (if rightI ⟨o, a, v⟩ = true ∧ printB ⟨o, a, v⟩ = s then some (⟨o, a, v⟩ : Ins) else none) = none))) ∨
          (printT ⟨o, a, v⟩ = .tuple #[.string ⟨#[]⟩, .int .i64 3] ∧ True ∧ (if rightI ⟨o, a, v⟩ = true ∧ printB ⟨o, a, v⟩ = s then some (⟨o, a, v⟩ : Ins) else none) = none) := by
        cases hr : rightI ⟨(o : Int), a, v⟩ with
        | false => exact .inr ⟨by unfold printT; rw [hr]; rfl, trivial, by simp⟩
        | true =>
          refine .inl ⟨_, by unfold printT; rw [if_pos hr], ?_⟩
          by_cases hp : printB ⟨(o : Int), a, v⟩ = s
          · exact .inl ⟨hp, by simp [hp]⟩
          · exact .inr ⟨hp, by simp [hp]⟩
      clear hfin hI
      cases ua : usesA o with
      | false =>
        obtain rfl : a = 0 := by rw [← ha, ua]; rfl
        rcases hx with hx | ⟨hx, hne⟩ <;> rcases hv2 with ⟨uv, rfl⟩ | ⟨uv, h17, rfl⟩ | ⟨uv, h17, e, hpT⟩ <;> rcases hres with ⟨p, hT, ⟨hps, hf⟩ | ⟨hps, hf⟩⟩ | ⟨hT, hps, hf⟩
        all_goals
          rw [hf]
          try rw [show ((0 : Nat) : Int) = 0 from rfl] at hT
          simp (implicitDefEqProofs := false) [tblRq, pureStep, p29, p21, p30, t0, t2, t4, t5, t6, hx, hw, ho2, ua, uv, *]
          refine loop_once (sg_mono gX_ok (tabS_ok tblRq_ok) _ _ noY noY_mono) (by omega) ?_
          simp (implicitDefEqProofs := false) [tblRq, pureStep, p6, hT, hps, ho2, hv0, t0, t2]
          refine ends_plan [] [] ?_ ?_ ?_ <;> simp [insT]
      | true =>
        have uv := uses_one _ ua
        obtain rfl : v = 0 := by
          rcases hv2 with ⟨_, h⟩ | ⟨h, _⟩ | ⟨h, _⟩
          · exact h
          · rw [uv] at h; cases h
          · rw [uv] at h; cases h
        have haP : ((argP R 64 : Nat) : Int) = a := by rw [← ha, ua]; rfl
        clear hv2
        rcases hx with hx | ⟨hx, hne⟩ <;> rcases hres with ⟨p, hT, ⟨hps, hf⟩ | ⟨hps, hf⟩⟩ | ⟨hT, hps, hf⟩
        all_goals
          rw [hf]
          try rw [show ((0 : Nat) : Int) = 0 from rfl] at hT
          simp (implicitDefEqProofs := false) [tblRq, pureStep, p29, p21, p30, t0, t2, t4, t5, t6, hx, hw, ho2, ua, uv, *]
          refine loop_inv (sg_mono gX_ok (tabS_ok tblRq_ok) _ _ noY noY_mono) (fun m tm H => ∃ n : Nat, m + n = 64 ∧ tm 0 = .string s ∧ tm 2 = .pointer (some ⟨0, 0, none⟩) ∧ tm 5 = .string R ∧ tm 9 = .pointer (some ⟨1, 0, none⟩) ∧ tm 10 = .bool true ∧ tm 12 = .int .i64 n ∧ H = AH.of [some (.arr 26 [.int .u8 0, .int .i64 0, .int .u64 0]), some (.arr 26 [.int .u8 o, .int .i64 (argP R n : Nat), .int .u64 0])]) (m := 64) ⟨0, by simp [t0, t2, t5, argP]⟩ (by omega) ?_
          rintro m2 tm H ⟨n, hm2, t0, t2, t5, t9, t10, t12, rfl⟩
          by_cases hn : n < 64
          · have hn' : (n : Int) < 64 := by omega
            have hwn := inc_i64 hn (by omega)
            have hn0 : (0 : Int) ≤ n ∧ (n : Int) < 100 := by omega
            have hsz : 1 + (decS n).size ≤ 9223372036854775807 := by have := decS_size (n := n) (by omega); omega
            have b1 : (⟨#[32]⟩ : ByteArray).size = 1 := rfl
            by_cases hR2 : R = blankS ++ decS n
            · have hst : argP R (n + 1) = n := by unfold argP; rw [if_pos hR2]
              have hR3 : R = (⟨#[32]⟩ : ByteArray) ++ decS n := hR2
              simp (implicitDefEqProofs := false) [tblRq, pureStep, p23, t0, t2, t5, t9, t10, t12, hn, hn', hn0, hwn, hsz, b1, ← hR3]
              exact ⟨m2 - 1, by omega, n + 1, by omega, by omega, by rw [hst]⟩
            · have hst : argP R (n + 1) = argP R n := by conv => lhs; unfold argP; rw [if_neg hR2]
              have hR3 : ¬ R = (⟨#[32]⟩ : ByteArray) ++ decS n := hR2
              simp (implicitDefEqProofs := false) [tblRq, pureStep, p23, t0, t2, t5, t9, t10, t12, hn, hn', hn0, hwn, hsz, b1, hR3]
              exact ⟨m2 - 1, by omega, n + 1, by omega, by omega, by rw [hst]⟩
          · obtain rfl : n = 64 := by omega
            rw [haP]
            simp (implicitDefEqProofs := false) [tblRq, pureStep, p6, hT, hps, ho2, t0, t2, t5, t9, t10, t12]
            refine ends_plan [] [] ?_ ?_ ?_ <;> simp [insT]
def p9 : PStep
  | [.string s] => some (s.size ≤ 1000000, insT (saysR s))
  | _ => none
abbrev st9 := pureStep p9
theorem st9_ok : CStepOk Tryd.prog cfg 9 st9 := pure_ok fun args p v h hp => by
  unfold p9 at h
  split at h
  · cases h; exact ⟨rfl, insT_ground _, runs9 _ hp⟩
  · cases h
end YteegnbbblcokdaaDoor
end Go.Proofs
/-
  CODE: both say the same of a text.
-/
set_option linter.unusedSimpArgs false
set_option linter.unusedVariables false
set_option linter.unnecessarySimpa false
set_option linter.unusedSectionVars false
namespace Go.Proofs
namespace YteegnbbblcokdaaDoor
open Go.Abs
set_option linter.unusedSimpArgs false

theorem index_blank (l : List UInt8) : Lib.indexByte l 32 = match blankAt l with
    | some k => (k : Int)
    | none => -1 := by
  induction l with
  | nil => rfl
  | cons b l ih =>
    unfold Lib.indexByte blankAt
    rw [List.findIdx?_cons]
    by_cases hb : b = 32
    · subst hb; rfl
    · have h1 : (b == 32) = false := by simpa using hb
      have h2 : (b.toNat == 32) = false := by
        rw [beq_eq_false_iff_ne]
        intro h
        exact hb (UInt8.toNat_inj.1 (by rw [h]; rfl))
      rw [h1, h2]
      simp only [Bool.false_eq_true, if_false]
      have hc : List.findIdx? (fun b : UInt8 => b.toNat == 32) l = blankAt l := rfl
      rw [hc]
      rw [ih]
      cases blankAt l with
      | none => rfl
      | some k =>
        have : ¬ ((k : Int) == -1) = true := by simp
        simp only [Option.map_some]
        rw [if_neg this]
        first | rfl | (push_cast; rfl)
theorem blank_lt {l : List UInt8} {k : Nat} (h : blankAt l = some k) : ∃ b, l[k]? = some b ∧ b = 32 := by
  unfold blankAt at h
  rw [List.findIdx?_eq_some_iff_getElem] at h
  obtain ⟨hk, h1, _⟩ := h
  refine ⟨l[k], List.getElem?_eq_getElem hk, UInt8.toNat_inj.1 ?_⟩
  have : (l[k]).toNat = 32 := by simpa using h1
  rw [this]; rfl
theorem readW_word {w : ByteArray} {o : Nat} (h : readW w = some o) : wordO o = w := by
  unfold readW readL at h
  simpa using List.find?_some h
theorem app_size (w x : ByteArray) : (w ++ (blankS ++ x)).size = w.size + (1 + x.size) := by rw [ByteArray.size_append, ByteArray.size_append]; rfl
theorem app_left {w x y : ByteArray} (h : w ++ (blankS ++ x) = w ++ (blankS ++ y)) : x = y := by
  have h1 := congrArg ByteArray.data h
  simp only [ByteArray.data_append] at h1
  have h2 := congrArg Array.toList h1
  simp only [Array.toList_append] at h2
  have h3 := List.append_cancel_left (List.append_cancel_left h2)
  apply ByteArray.ext
  exact Array.toList_inj.1 h3
theorem app_longer {w x : ByteArray} (h : w ++ (blankS ++ x) = w) : False := by
  have := congrArg ByteArray.size h
  rw [app_size] at this; omega
theorem small_D1 {d : Nat} (h : d < 10) : smallL (decS d).data.toList = ((d : Int), true) := by
  rw [decS_one h]
  have h1 : (digB d).toNat = 48 + d := by unfold digB; rw [UInt8.toNat_ofNat']; omega
  show (if isDig (digB d) then (((digB d).toNat : Int) - 48, true) else (0, false)) = _
  rw [if_pos (by unfold isDig; rw [h1]; simp; omega), h1]
  congr 1; omega
theorem small_decS {n : Nat} (h : n < 100) : smallL (decS n).data.toList = ((n : Int), true) := by
  by_cases h10 : n < 10
  · exact small_D1 h10
  · rw [decS_two (by omega) h]
    have h1 : (digB (n / 10)).toNat = 48 + n / 10 := by unfold digB; rw [UInt8.toNat_ofNat']; omega
    have h2 : (digB (n % 10)).toNat = 48 + n % 10 := by unfold digB; rw [UInt8.toNat_ofNat']; omega
    show (if isDig (digB (n / 10)) ∧ isDig (digB (n % 10)) then (10 * (((digB (n / 10)).toNat : Int) - 48) + (((digB (n % 10)).toNat : Int) - 48), decide ((digB (n / 10)).toNat ≠ 48)) else (0, false)) = _
    rw [if_pos ⟨by unfold isDig; rw [h1]; simp; omega, by unfold isDig; rw [h2]; simp; omega⟩, h1, h2]
    have h3 : decide (48 + n / 10 ≠ 48) = true := by simp; omega
    rw [h3]
    congr 1; omega
theorem small_inv {r : ByteArray} (h : (smallL r.data.toList).2 = true) : ∃ n : Nat, n < 100 ∧ r = decS n := by
  rcases hl : r.data.toList with _ | ⟨a, _ | ⟨b, _ | ⟨d, l⟩⟩⟩
  · rw [hl] at h; cases h
  · rw [hl] at h
    have h : (if isDig a then ((a.toNat : Int) - 48, true) else ((0 : Int), false)).2 = true := h
    cases hd : isDig a with
    | false => rw [hd] at h; cases h
    | true =>
      have hd := of_decide_eq_true hd
      refine ⟨a.toNat - 48, by omega, ?_⟩
      rw [decS_one (by omega), bytes_of_list hl]
      unfold D1 digB
      congr 2
      exact congrArg (fun x => [x]) (UInt8.toNat_inj.1 (by rw [UInt8.toNat_ofNat']; omega))
  · rw [hl] at h
    have h : (if isDig a ∧ isDig b then (10 * ((a.toNat : Int) - 48) + ((b.toNat : Int) - 48), decide (a.toNat ≠ 48)) else ((0 : Int), false)).2 = true := h
    by_cases hd : isDig a = true ∧ isDig b = true
    · rw [if_pos hd] at h
      have h48 : a.toNat ≠ 48 := by simpa using h
      have hd1 := of_decide_eq_true hd.1
      have hd2 := of_decide_eq_true hd.2
      refine ⟨10 * (a.toNat - 48) + (b.toNat - 48), by omega, ?_⟩
      rw [decS_two (by omega) (by omega), bytes_of_list hl]
      unfold D2 digB
      congr 1
      have e1 : UInt8.ofNat (48 + (10 * (a.toNat - 48) + (b.toNat - 48)) / 10) = a := UInt8.toNat_inj.1 (by rw [UInt8.toNat_ofNat']; omega)
      have e2 : UInt8.ofNat (48 + (10 * (a.toNat - 48) + (b.toNat - 48)) % 10) = b := UInt8.toNat_inj.1 (by rw [UInt8.toNat_ofNat']; omega)
      rw [e1, e2]
    · rw [if_neg hd] at h; cases h
  · rw [hl] at h; cases h
theorem decS_inj {n m : Nat} (hn : n < 100) (hm : m < 100) (h : decS n = decS m) : n = m := by
  have h1 := small_decS hn
  rw [h, small_decS hm] at h1
  have := congrArg Prod.fst h1
  simp only at this; omega
theorem argP_hit {r : ByteArray} {n : Nat} (hr : r = decS n) (hn : n < 100) : ∀ m, m ≤ 100 → n < m → argP (blankS ++ r) m = n
  | 0, _, h => by omega
  | m + 1, hm, h => by
    unfold argP
    by_cases he : blankS ++ r = blankS ++ decS m
    · rw [if_pos he]
      have : r = decS m := by
        have h0 := app_left (w := ⟨#[]⟩) (x := r) (y := decS m) (by rw [he])
        exact h0
      exact (decS_inj hn (by omega) (hr.symm.trans this)).symm
    · rw [if_neg he]
      refine argP_hit hr hn m (by omega) ?_
      by_cases hnm : n = m
      · subst hnm; exact absurd (by rw [hr]) he
      · omega
theorem argP_mem (r : ByteArray) : ∀ m, argP (blankS ++ r) m = 0 ∨ r = decS (argP (blankS ++ r) m)
  | 0 => .inl rfl
  | m + 1 => by
    unfold argP
    split
    · rename_i he
      exact .inr (app_left (w := ⟨#[]⟩) (by rw [he]))
    · exact argP_mem r m
/-- What digits say, written again. -/
theorem hex_digits : ∀ (m : Nat) (l : List UInt8) (n : Nat), l.length = m → hexF l = some n → ∀ i b, l[i]? = some b → hexC (n / 16 ^ (m - 1 - i) % 16) = b.toNat
  | 0, l, n, hl, h, i, b, hb => by
    have : l = [] := List.eq_nil_of_length_eq_zero hl
    subst this; simp at hb
  | m + 1, l, n, hl, h, i, b, hb => by
    rcases List.eq_nil_or_concat l with rfl | ⟨L, c, rfl⟩
    · simp at hl
    · rw [List.concat_eq_append] at *
      rw [hexF_snoc] at h
      simp only [Option.bind_eq_some_iff, Option.map_eq_some_iff] at h
      obtain ⟨n', hn', d, hd, rfl⟩ := h
      have hL : L.length = m := by simpa using hl
      have hd16 := hexV_lt hd
      by_cases him : i < m
      · have hb' : L[i]? = some b := by rw [List.getElem?_append_left (by omega)] at hb; exact hb
        have ih := hex_digits m L n' hL hn' i b hb'
        have e : (n' * 16 + d) / 16 ^ (m + 1 - 1 - i) = n' / 16 ^ (m - 1 - i) := by
          rw [show m + 1 - 1 - i = (m - 1 - i) + 1 by omega, Nat.pow_succ, Nat.mul_comm (16 ^ _) 16, ← Nat.div_div_eq_div_mul]
          congr 1; omega
        rw [e]; exact ih
      · have hlt := (List.getElem?_eq_some_iff.1 hb).1
        simp only [List.length_append, List.length_singleton] at hlt
        have hi : i = m := by omega
        subst hi
        rw [List.getElem?_append_right (by omega), hL, Nat.sub_self] at hb
        have hb : c = b := by simpa using hb
        subst hb
        rw [show i + 1 - 1 - i = 0 by omega, Nat.pow_zero, Nat.div_one, show (n' * 16 + d) % 16 = d by omega]
        exact hexC_hexV hd
theorem hexS_bits {r : ByteArray} {v : Nat} (h : bitsS r = some v) : hexS v = r := by
  unfold bitsS at h
  split at h
  · rename_i hs
    simp only [Option.bind_eq_some_iff] at h
    obtain ⟨n, hn, h⟩ := h
    split at h
    · cases h
      have hl : r.data.toList.length = 16 := by rw [Array.length_toList]; exact hs
      rw [bytes_of_list (s := r) (l := r.data.toList) rfl]
      unfold hexS
      congr 1
      apply congrArg List.toArray
      refine List.ext_getElem? fun i => ?_
      by_cases hi : i < 16
      · obtain ⟨b, hb⟩ : ∃ b, r.data.toList[i]? = some b := ⟨r.data.toList[i]'(by omega), List.getElem?_eq_getElem (by omega)⟩
        have := hex_digits 16 _ _ hl hn i b hb
        rw [hb]
        simp only [hexL, List.getElem?_map, List.getElem?_range hi, Option.map_some, hexD]
        rw [this]
        simp
      · rw [List.getElem?_eq_none (by simp [hexL]; omega), List.getElem?_eq_none (by omega)]
    · cases h
  · cases h
theorem bits_zero : bitsS (hexS 0) = some 0 := by decide
end YteegnbbblcokdaaDoor
end Go.Proofs
/-
  CODE: both say the same of a text; the law of texts.
-/
set_option linter.unusedSimpArgs false
set_option linter.unusedVariables false
set_option linter.unnecessarySimpa false
set_option linter.unusedSectionVars false
namespace Go.Proofs
namespace YteegnbbblcokdaaDoor
open Go.Abs
set_option linter.unusedSimpArgs false

theorem says_none {s : ByteArray} (h : blankAt s.data.toList = none) : saysR s = saysW s ⟨#[]⟩ false := by
  have hW : rWord s = s := by unfold rWord; rw [h]
  have hR : rRest s = ⟨#[]⟩ := by unfold rRest; rw [h]
  unfold saysR saysW
  rw [hW]
  cases hw : readW s with
  | none => rfl
  | some o =>
    have hword := readW_word hw
    have e0 : ¬ (⟨#[]⟩ : ByteArray).size = 17 := by decide
    have hI : insR s o = ⟨o, if usesA o then (argP ⟨#[]⟩ 64 : Nat) else 0, 0⟩ := by unfold insR; rw [hR]; simp [e0]
    simp only
    rw [hI]
    have ho : ((o : Int)).toNat = o := by simp
    cases ua : usesA o with
    | true =>
      have : ¬ printB ⟨o, ((argP ⟨#[]⟩ 64 : Nat) : Int), 0⟩ = s := fun h => by
        unfold printB at h
        rw [ho, ua, if_pos rfl, hword] at h
        exact app_longer h
      simp [this]
    | false =>
      cases uv : usesV o with
      | true =>
        have : ¬ printB ⟨o, 0, 0⟩ = s := fun h => by
          unfold printB at h
          simp only [ho, ua, uv, if_true, Bool.false_eq_true, if_false, hword] at h
          exact app_longer h
        simp [this]
      | false =>
        have : printB ⟨o, 0, 0⟩ = s := by
          unfold printB
          simp only [ho, ua, uv, Bool.false_eq_true, if_false, hword]
        simp [this]
theorem extract_split {s : ByteArray} {k : Nat} {b : UInt8} (hb : s.data.toList[k]? = some b) (h32 : b = 32) : s.extract k s.size = blankS ++ s.extract (k + 1) s.size ∧ s = s.extract 0 k ++ (blankS ++ s.extract (k + 1) s.size) := by
  have hk : k < s.data.toList.length := (List.getElem?_eq_some_iff.1 hb).1
  have hbg := (List.getElem?_eq_some_iff.1 hb).2
  have hsz : s.data.toList.length = s.size := Array.length_toList
  have e1 : s.extract k s.size = blankS ++ s.extract (k + 1) s.size := by
    apply ByteArray.ext
    apply Array.toList_inj.1
    simp only [ByteArray.data_extract, ByteArray.data_append, Array.toList_append, Array.toList_extract, List.extract_eq_take_drop]
    rw [List.take_of_length_le (by simp), List.take_of_length_le (by simp), List.drop_eq_getElem_cons hk, hbg, h32]
    rfl
  refine ⟨e1, ?_⟩
  rw [← e1]
  apply ByteArray.ext
  apply Array.toList_inj.1
  simp only [ByteArray.data_extract, ByteArray.data_append, Array.toList_append, Array.toList_extract, List.extract_eq_take_drop]
  rw [List.take_of_length_le (l := List.drop k _) (by simp), List.drop_zero, Nat.sub_zero, List.take_append_drop]
theorem argP_lt' (r : ByteArray) : ∀ n, 0 < n → argP r n < n
  | 0, h => by omega
  | n + 1, _ => by
    unfold argP
    split
    · omega
    · have := argP_lt r n; omega
theorem extract_rest {r : ByteArray} (h : r.size = 16) : (blankS ++ r).extract 1 17 = r := by
  apply ByteArray.ext
  apply Array.toList_inj.1
  have hl : r.data.toList.length = 16 := by rw [Array.length_toList]; exact h
  have hb : blankS.data.toList = [32] := rfl
  simp only [ByteArray.data_extract, ByteArray.data_append, Array.toList_append, Array.toList_extract, List.extract_eq_take_drop, hb]
  rw [List.singleton_append, List.drop_succ_cons, List.drop_zero, List.take_of_length_le (by omega)]
theorem says_some {s : ByteArray} {k : Nat} (h : blankAt s.data.toList = some k) : saysR s = saysW (s.extract 0 k) (s.extract (k + 1) s.size) true := by
  obtain ⟨b, hb, h32⟩ := blank_lt h
  obtain ⟨hx, hs⟩ := extract_split hb h32
  have hW : rWord s = s.extract 0 k := by unfold rWord; rw [h]
  have hR : rRest s = blankS ++ s.extract (k + 1) s.size := by unfold rRest; rw [h]; exact hx
  obtain ⟨w, hw0⟩ : ∃ w, s.extract 0 k = w := ⟨_, rfl⟩
  obtain ⟨r, hr0⟩ : ∃ r, s.extract (k + 1) s.size = r := ⟨_, rfl⟩
  rw [hw0, hr0] at hs ⊢
  rw [hr0] at hR
  rw [hw0] at hW
  unfold saysR saysW
  rw [hW]
  cases hw : readW w with
  | none => rfl
  | some o =>
    have hword := readW_word hw
    have ho : ((o : Int)).toNat = o := by simp
    have hsz : (blankS ++ r).size = 1 + r.size := by rw [ByteArray.size_append]; rfl
    simp only
    cases ua : usesA o with
    | true =>
      have uv := uses_one _ ua
      have hI : insR s o = ⟨o, (argP (blankS ++ r) 64 : Nat), 0⟩ := by unfold insR; rw [hR]; simp [ua, uv]
      rw [hI]
      have hP : ∀ a : Nat, printB ⟨o, (a : Int), 0⟩ = s ↔ r = decS a := by
        intro a
        unfold printB
        simp only [ho, ua, if_true, hword, Int.toNat_natCast]
        constructor
        · intro h; rw [hs] at h; exact (app_left h).symm
        · intro h; rw [← h]; exact hs.symm
      simp only [hP, uv, Bool.or_false, ne_eq, not_true, if_false, if_true]
      cases hok : (smallL r.data.toList).2 with
      | true =>
        obtain ⟨n, hn, hrn⟩ := small_inv hok
        have hsm : (smallL r.data.toList).1 = n := by rw [hrn, small_decS hn]
        rw [hsm]
        by_cases h64 : n < 64
        · have ha := argP_hit hrn hn 64 (by omega) h64
          rw [ha]
          simp [hrn]
        · have hnr : rightI ⟨(o : Int), (n : Int), 0⟩ = false := by
            cases hr : rightI ⟨(o : Int), (n : Int), 0⟩ with
            | false => rfl
            | true =>
              have h5 := (rightI_inv hr).2.2.2.2.1
              have := limit_le (o : Int)
              simp only at h5; omega
          have hna : ¬ r = decS (argP (blankS ++ r) 64) := fun h => by
            have h1 := argP_lt (blankS ++ r) 64
            have h2 := argP_lt' (blankS ++ r) 64 (by omega)
            have h3 := decS_inj hn (by omega) (hrn.symm.trans h)
            omega
          simp [hnr, hna]
      | false =>
        have hna : ¬ r = decS (argP (blankS ++ r) 64) := fun h => by
          have h1 := argP_lt (blankS ++ r) 64
          have h2 := small_decS (n := argP (blankS ++ r) 64) (by omega)
          rw [← h, ] at h2
          rw [h2] at hok; cases hok
        simp [hna]
    | false =>
      cases uv : usesV o with
      | true =>
        have hP : ∀ v : Nat, printB ⟨o, 0, (v : Int)⟩ = s ↔ hexS v = r := by
          intro v
          unfold printB
          simp only [ho, ua, uv, Bool.false_eq_true, if_false, if_true, hword, Int.toNat_natCast]
          constructor
          · intro h; rw [hs] at h; exact app_left h
          · intro h; rw [h]; exact hs.symm
        by_cases h16 : r.size = 16
        · have hI : insR s o = ⟨o, 0, ((bitsS r).getD 0 : Nat)⟩ := by unfold insR; rw [hR]; simp [ua, uv, hsz, h16, extract_rest h16]
          rw [hI]
          simp only [hP, uv, Bool.or_true, ne_eq, not_true, if_false, if_true, Bool.false_eq_true, Bool.false_or]
          cases hb : bitsS r with
          | some v => simp [hexS_bits hb]
          | none =>
            have : ¬ hexS 0 = r := fun h => by rw [← h, bits_zero] at hb; cases hb
            simp [this]
        · have hI : insR s o = ⟨o, 0, ((0 : Nat) : Int)⟩ := by
            unfold insR; rw [hR]
            have : ¬ 1 + r.size = 17 := by omega
            simp [ua, uv, hsz, this]
          rw [hI]
          have hb : bitsS r = none := by unfold bitsS; rw [if_neg h16]
          have hne : ¬ hexS 0 = r := fun h => h16 (by rw [← h]; exact hexS_size 0)
          simp only [hP, uv, Bool.or_true, ne_eq, not_true, if_false, if_true, Bool.false_eq_true, Bool.false_or, hb]
          simp [hne]
      | false =>
        have hI : insR s o = ⟨o, 0, 0⟩ := by unfold insR; simp [ua, uv]
        rw [hI]
        have : ¬ printB ⟨o, 0, 0⟩ = s := fun h => by
          unfold printB at h
          simp only [ho, ua, uv, Bool.false_eq_true, if_false, hword] at h
          rw [hs] at h
          exact app_longer h.symm
        simp [this]
theorem says_same (s : ByteArray) : saysR s = saysS s := by
  unfold saysS
  rw [index_blank]
  cases h : blankAt s.data.toList with
  | none => exact says_none h
  | some k =>
    have h0 : ¬ (k : Int) < 0 := by omega
    simp only
    rw [if_neg h0, Int.toNat_natCast]
    exact says_some h
end YteegnbbblcokdaaDoor
end Go.Proofs
/-
  CODE: what is said of what was written is it.
-/
set_option linter.unusedSimpArgs false
set_option linter.unusedVariables false
set_option linter.unnecessarySimpa false
set_option linter.unusedSectionVars false
namespace Go.Proofs
namespace YteegnbbblcokdaaDoor
open Go.Abs
set_option linter.unusedSimpArgs false

theorem no_blank : ∀ o, o < 29 → ∀ b ∈ (wordO o).data.toList, b.toNat ≠ 32 := by decide
theorem readW_of : ∀ o, o < 29 → readW (wordO o) = some o := by decide
theorem blankAt_word {o : Nat} (ho : o < 29) : blankAt (wordO o).data.toList = none :=
  blankAt_none fun j c hc => no_blank o ho c (List.mem_of_getElem? hc)
theorem app_list (w x : ByteArray) : (w ++ (blankS ++ x)).data.toList = w.data.toList ++ 32 :: x.data.toList := by
  simp only [ByteArray.data_append, Array.toList_append]
  rfl
theorem blankAt_app {o : Nat} (ho : o < 29) (x : ByteArray) : blankAt (wordO o ++ (blankS ++ x)).data.toList = some (wordO o).size := by
  have hl : (wordO o).data.toList.length = (wordO o).size := Array.length_toList
  rw [app_list]
  refine blankAt_some (b := 32) ?_ rfl fun j c hj hc => ?_
  · rw [List.getElem?_append_right (by omega), hl, Nat.sub_self]; rfl
  · rw [List.getElem?_append_left (by omega)] at hc
    exact no_blank o ho c (List.mem_of_getElem? hc)
theorem app_word (w x : ByteArray) : (w ++ (blankS ++ x)).extract 0 w.size = w := by
  have hl : w.data.toList.length = w.size := Array.length_toList
  apply ByteArray.ext
  apply Array.toList_inj.1
  simp only [ByteArray.data_extract, Array.toList_extract, List.extract_eq_take_drop, app_list]
  rw [List.drop_zero, Nat.sub_zero, ← hl, List.take_left]
theorem app_rest (w x : ByteArray) : (w ++ (blankS ++ x)).extract (w.size + 1) (w ++ (blankS ++ x)).size = x := by
  have hl : w.data.toList.length = w.size := Array.length_toList
  have hx : x.data.toList.length = x.size := Array.length_toList
  rw [app_size]
  apply ByteArray.ext
  apply Array.toList_inj.1
  simp only [ByteArray.data_extract, Array.toList_extract, List.extract_eq_take_drop, app_list]
  have e : w.data.toList ++ 32 :: x.data.toList = (w.data.toList ++ [32]) ++ x.data.toList := by simp
  rw [e, List.drop_left' (by simp [hl]), List.take_of_length_le (by omega)]
def hexM (n m : Nat) : List Nat := (List.range m).map fun j => hexC (n / 16 ^ (m - 1 - j) % 16)
theorem hexM_succ (n m : Nat) : hexM n (m + 1) = hexM (n / 16) m ++ [hexC (n % 16)] := by
  unfold hexM
  rw [List.range_succ, List.map_append]
  congr 1
  · refine List.map_congr_left fun j hj => ?_
    have hj := List.mem_range.1 hj
    rw [show m + 1 - 1 - j = (m - 1 - j) + 1 by omega, Nat.pow_succ, Nat.mul_comm (16 ^ _) 16, ← Nat.div_div_eq_div_mul]
  · simp
theorem hexF_hexM : ∀ m n, hexF ((hexM n m).map UInt8.ofNat) = some (n % 16 ^ m)
  | 0, n => by simp [hexM, hexF, Nat.mod_one]
  | m + 1, n => by
    have hd : n % 16 < 16 := Nat.mod_lt _ (by omega)
    have h7 : (UInt8.ofNat (hexC (n % 16))).toNat = hexC (n % 16) := by rw [UInt8.toNat_ofNat']; exact Nat.mod_eq_of_lt (hexC_lt _ hd)
    rw [hexM_succ, List.map_append, List.map_singleton, hexF_snoc, hexF_hexM m (n / 16)]
    simp only [Option.bind_some, h7, hexV_hexC hd, Option.map_some]
    congr 1
    rw [Nat.pow_succ, Nat.mul_comm (16 ^ m) 16, Nat.mod_mul]
    omega
theorem bits_hexS {v : Nat} (hv : v < 18446744073709551616) (hr : rightB v = true) : bitsS (hexS v) = some v := by
  unfold bitsS
  rw [if_pos (hexS_size v)]
  have e : (hexS v).data.toList = (hexM v 16).map UInt8.ofNat := rfl
  rw [e, hexF_hexM]
  have : v % 16 ^ 16 = v := Nat.mod_eq_of_lt hv
  rw [this]
  simp [hr]
theorem saysS_word {o : Nat} (ho : o < 29) : saysS (wordO o) = saysW (wordO o) ⟨#[]⟩ false := by
  unfold saysS
  rw [index_blank, blankAt_word ho]
  rfl
theorem saysS_app {o : Nat} (ho : o < 29) (x : ByteArray) : saysS (wordO o ++ (blankS ++ x)) = saysW (wordO o) x true := by
  unfold saysS
  rw [index_blank, blankAt_app ho]
  have h0 : ¬ ((wordO o).size : Int) < 0 := by omega
  simp only
  rw [if_neg h0, Int.toNat_natCast, app_word, app_rest]
theorem says_print {i : Ins} (hi : i.Ok) (hr : rightI i = true) : saysS (printB i) = some i := by
  obtain ⟨h1, h2, h3, h4, h5, h6⟩ := rightI_inv hr
  have hl := limit_le i.o
  obtain ⟨o, ho⟩ : ∃ o : Nat, i.o = (o : Int) := ⟨i.o.toNat, by have := hi.1; omega⟩
  obtain ⟨v, hv⟩ : ∃ v : Nat, i.v = (v : Int) := ⟨i.v.toNat, by have := hi.2; omega⟩
  obtain ⟨a, ha⟩ : ∃ a : Nat, i.a = (a : Int) := ⟨i.a.toNat, by omega⟩
  have ho29 : o < 29 := by omega
  have hie : i = ⟨o, a, v⟩ := by cases i; simp_all
  rw [hie] at hr ⊢
  rw [ho, Int.toNat_natCast] at h2 h3
  unfold printB
  simp only [Int.toNat_natCast]
  cases ua : usesA o with
  | true =>
    have uv := uses_one _ ua
    have hv0 : v = 0 := by rcases h3 with h | h <;> (first | (rw [uv] at h; cases h) | omega)
    subst hv0
    rw [if_pos rfl, saysS_app ho29]
    unfold saysW
    have hsm := small_decS (n := a) (by omega)
    rw [readW_of o ho29]
    have hr' : rightI ⟨(o : Int), (a : Int), 0⟩ = true := hr
    simp [ua, uv, hsm, hr']
  | false =>
    have ha0 : a = 0 := by rcases h2 with h | h <;> (first | (rw [ua] at h; cases h) | omega)
    subst ha0
    cases uv : usesV o with
    | true =>
      rw [if_neg (by simp), if_pos rfl, saysS_app ho29]
      unfold saysW
      rw [readW_of o ho29]
      have hb := bits_hexS (v := v) (by have := hi.2; omega) (by rw [hv] at h6; exact h6)
      have hr' : rightI ⟨(o : Int), 0, (v : Int)⟩ = true := hr
      simp [ua, uv, hb, hr']
    | false =>
      have hv0 : v = 0 := by rcases h3 with h | h <;> (first | (rw [uv] at h; cases h) | omega)
      subst hv0
      rw [if_neg (by simp), if_neg (by simp), saysS_word ho29]
      unfold saysW
      rw [readW_of o ho29]
      have hr' : rightI ⟨(o : Int), 0, 0⟩ = true := hr
      simp [ua, uv, hr']
end YteegnbbblcokdaaDoor
end Go.Proofs
/-
  CODE: what bytes say of what was written is it.
-/
set_option linter.unusedSimpArgs false
set_option linter.unusedVariables false
set_option linter.unnecessarySimpa false
set_option linter.unusedSectionVars false
namespace Go.Proofs
namespace YteegnbbblcokdaaDoor
open Go.Abs
set_option linter.unusedSimpArgs false

theorem valD_be {B : List Int} {q : Nat} {v : Int} (hv : 0 ≤ v ∧ v < 18446744073709551616) (h : ∀ k, k < 8 → atB B (q + k) = be v k) : ∀ k, k ≤ 8 → valD B q k = v / 2 ^ (8 * (8 - k))
  | 0, _ => by
    show (0 : Int) = v / 2 ^ (8 * (8 - 0))
    rw [show (2 : Int) ^ (8 * (8 - 0)) = 18446744073709551616 from rfl]; omega
  | k + 1, hk => by
    rw [valD, valD_be hv h k (by omega), h k (by omega)]
    unfold be
    have e : (2 : Int) ^ (8 * (8 - k)) = 2 ^ (8 * (7 - k)) * 256 := by
      rw [show 8 * (8 - k) = 8 * (7 - k) + 8 by omega, Int.pow_add]; rfl
    rw [e, show 8 - (k + 1) = 7 - k by omega, ← Int.ediv_ediv_of_nonneg (Int.pow_nonneg (by omega))]
    omega
theorem atB_app (pre : List Int) (x : List Int) (k : Nat) : atB (pre ++ x) (pre.length + k) = atB x k := by
  unfold atB
  rw [List.getElem?_append_right (by omega), Nat.add_sub_cancel_left]
theorem stepD_bytes (pre post : List Int) {i : Ins} (hi : i.Ok) (hr : rightI i = true) : stepD (pre ++ (bytesI i ++ post)) pre.length = some (i, pre.length + (bytesI i).length) := by
  obtain ⟨h1, h2, h3, h4, h5, h6⟩ := rightI_inv hr
  have a0 : atB (pre ++ (bytesI i ++ post)) pre.length = i.o := by
    have := atB_app pre (bytesI i ++ post) 0
    rw [Nat.add_zero] at this
    rw [this]; unfold bytesI; rfl
  cases ua : usesA i.o.toNat with
  | true =>
    have uv := uses_one _ ua
    have hv0 : i.v = 0 := by rcases h3 with h | h <;> (first | (rw [uv] at h; cases h) | exact h)
    have hb : bytesI i = [i.o, i.a] := by simp [bytesI, ua, uv]
    have a1 := atB_app pre (bytesI i ++ post) 1
    rw [hb] at a0 a1 ⊢
    rw [stepD_A (by rw [a0]; exact ua) (by simp), a0, a1]
    have : atB ([i.o, i.a] ++ post) 1 = i.a := rfl
    rw [this]
    cases i; simp_all
  | false =>
    have ha0 : i.a = 0 := by rcases h2 with h | h <;> (first | (rw [ua] at h; cases h) | exact h)
    cases uv : usesV i.o.toNat with
    | true =>
      have hb : bytesI i = i.o :: be8 i.v 8 := by simp [bytesI, ua, uv]
      have hval := valD_be (B := pre ++ (bytesI i ++ post)) (q := pre.length + 1) (v := i.v) hi.2 (fun k hk => by
        rw [Nat.add_assoc, atB_app, hb]
        unfold atB
        rw [List.getElem?_append_left (by simp [be8]; omega), Nat.add_comm 1 k, List.getElem?_cons_succ]
        simp [be8, List.getElem?_range hk]) 8 (by omega)
      have hbl : (bytesI i).length = 9 := by rw [hb]; simp [be8]
      rw [stepD_V (by rw [a0]; exact ua) (by rw [a0]; exact uv) (by simp [hbl]), a0, hval, hbl]
      simp only [Nat.sub_self, Nat.mul_zero, Int.pow_zero, Int.ediv_one]
      cases i; simp_all
    | false =>
      have hv0 : i.v = 0 := by rcases h3 with h | h <;> (first | (rw [uv] at h; cases h) | exact h)
      have hb : bytesI i = [i.o] := by simp [bytesI, ua, uv]
      rw [stepD_N (by rw [a0]; exact ua) (by rw [a0]; exact uv), a0, hb]
      cases i; simp_all
theorem bytesI_pos (i : Ins) : 0 < (bytesI i).length := by simp [bytesI]
theorem decF_encB : ∀ (l : List Ins) (pre : List Int) (acc : List Ins) (f : Nat), (∀ e ∈ l, e.Ok) → encOk l = true → (encB l).length < f → decF f (pre ++ encB l) pre.length acc = some (acc ++ l)
  | [], pre, acc, f, _, _, hf => by
    obtain ⟨f, rfl⟩ : ∃ g, f = g + 1 := ⟨f - 1, by omega⟩
    rw [decF_end (by simp [encB])]; simp
  | i :: l, pre, acc, f, hok, hr, hf => by
    obtain ⟨f, rfl⟩ : ∃ g, f = g + 1 := ⟨f - 1, by omega⟩
    have e : encB (i :: l) = bytesI i ++ encB l := by simp [encB]
    have hri : rightI i = true ∧ encOk l = true := by simpa [encOk] using hr
    have hp := bytesI_pos i
    rw [e] at hf ⊢
    rw [List.length_append] at hf
    rw [decF_step (by simp; omega) (stepD_bytes pre (encB l) (hok i (by simp)) hri.1) hri.1]
    have := decF_encB l (pre ++ bytesI i) (acc ++ [i]) f (fun x hx => hok x (by simp [hx])) hri.2 (by omega)
    rw [List.length_append, List.append_assoc] at this
    rw [this]; simp
theorem decB_encB {l : List Ins} (hok : ∀ e ∈ l, e.Ok) (hr : encOk l = true) : decB (encB l) = some l := by
  unfold decB
  have := decF_encB l [] [] ((encB l).length + 1) hok hr (by omega)
  simpa using this
end YteegnbbblcokdaaDoor
end Go.Proofs
/-
  CODE: what is written of what bytes say is they.
-/
set_option linter.unusedSimpArgs false
set_option linter.unusedVariables false
set_option linter.unnecessarySimpa false
set_option linter.unusedSectionVars false
namespace Go.Proofs
namespace YteegnbbblcokdaaDoor
open Go.Abs
set_option linter.unusedSimpArgs false

theorem valD_div {B : List Int} (hB : ByteL B) (q : Nat) : ∀ j k, k + j = 8 → valD B q k = valD B q 8 / 2 ^ (8 * j)
  | 0, k, h => by
    have : k = 8 := by omega
    subst this; simp
  | j + 1, k, h => by
    have ih := valD_div hB q j (k + 1) (by omega)
    have hb := atB_byte hB (q + k)
    rw [valD] at ih
    have e : (2 : Int) ^ (8 * (j + 1)) = 2 ^ (8 * j) * 256 := by
      rw [show 8 * (j + 1) = 8 * j + 8 by omega, Int.pow_add]; rfl
    rw [e, ← Int.ediv_ediv_of_nonneg (Int.pow_nonneg (by omega)), ← ih]
    omega
theorem be_valD {B : List Int} (hB : ByteL B) (q : Nat) {k : Nat} (hk : k < 8) : be (valD B q 8) k = atB B (q + k) := by
  unfold be
  rw [← valD_div hB q (7 - k) (k + 1) (by omega), valD]
  have hb := atB_byte hB (q + k)
  omega
theorem drop_atB {B : List Int} {p : Nat} (h : p < B.length) : B.drop p = atB B p :: B.drop (p + 1) := by
  rw [List.drop_eq_getElem_cons h]
  have : B[p]? = some B[p] := List.getElem?_eq_getElem h
  simp [atB, this]
theorem drop_many {B : List Int} : ∀ (n q : Nat), q + n ≤ B.length → B.drop q = (List.range n).map (fun k => atB B (q + k)) ++ B.drop (q + n)
  | 0, q, _ => by simp
  | n + 1, q, h => by
    rw [drop_many n q (by omega), drop_atB (p := q + n) (by omega), List.range_succ, List.map_append]
    simp [Nat.add_assoc]
theorem step_inv {B : List Int} (hB : ByteL B) {p q : Nat} {i : Ins} (hp : p < B.length) (h : stepD B p = some (i, q)) : B.drop p = bytesI i ++ B.drop q ∧ i.Ok := by
  have hb := atB_byte hB p
  cases ua : usesA (atB B p).toNat with
  | true =>
    have uv := uses_one _ ua
    by_cases h1 : p + 1 < B.length
    · rw [stepD_A ua h1] at h
      cases h
      refine ⟨?_, ⟨hb, by simp⟩⟩
      rw [drop_atB hp, drop_atB h1]
      simp [bytesI, ua, uv]
    · rw [stepD_A0 ua h1] at h; cases h
  | false =>
    cases uv : usesV (atB B p).toNat with
    | true =>
      by_cases h1 : p + 9 ≤ B.length
      · rw [stepD_V ua uv h1] at h
        cases h
        have hv := valD_range hB (p + 1) 8
        refine ⟨?_, ⟨hb, hv.1, by have := hv.2; simpa using this⟩⟩
        rw [drop_atB hp, drop_many 8 (p + 1) (by omega)]
        have e : be8 (valD B (p + 1) 8) 8 = (List.range 8).map fun k => atB B (p + 1 + k) := by
          unfold be8
          exact List.map_congr_left fun k hk => be_valD hB (p + 1) (List.mem_range.1 hk)
        simp [bytesI, ua, uv, e]
      · rw [stepD_V0 ua uv h1] at h; cases h
    | false =>
      rw [stepD_N ua uv] at h
      cases h
      refine ⟨?_, ⟨hb, by simp⟩⟩
      rw [drop_atB hp]
      simp [bytesI, ua, uv]
theorem decF_inv {B : List Int} (hB : ByteL B) : ∀ (f p : Nat) (acc m : List Ins), decF f B p acc = some m → ∃ l, m = acc ++ l ∧ encB l = B.drop p ∧ encOk l = true ∧ ∀ e ∈ l, e.Ok
  | 0, p, acc, m, h => by cases h
  | f + 1, p, acc, m, h => by
    by_cases hp : p < B.length
    · cases hs : stepD B p with
      | none => rw [decF_bad1 hp hs] at h; cases h
      | some iq =>
        obtain ⟨i, q⟩ := iq
        cases hr : rightI i with
        | false => rw [decF_bad2 hp hs hr] at h; cases h
        | true =>
          rw [decF_step hp hs hr] at h
          obtain ⟨l, h1, h2, h3, h4⟩ := decF_inv hB f q (acc ++ [i]) m h
          obtain ⟨g1, g2⟩ := step_inv hB hp hs
          refine ⟨i :: l, by rw [h1]; simp, ?_, by simp only [encOk, List.all_cons] at h3 ⊢; rw [hr, h3]; rfl, fun e he => ?_⟩
          · rw [g1, ← h2]; simp [encB]
          · rcases List.mem_cons.1 he with rfl | he
            · exact g2
            · exact h4 e he
    · rw [decF_end hp] at h
      cases h
      exact ⟨[], by simp, by rw [List.drop_eq_nil_of_le (by omega)]; rfl, rfl, fun e he => by cases he⟩
theorem decB_inv {B : List Int} (hB : ByteL B) {m : List Ins} (h : decB B = some m) : encB m = B ∧ encOk m = true ∧ ∀ e ∈ m, e.Ok := by
  unfold decB at h
  obtain ⟨l, h1, h2, h3, h4⟩ := decF_inv hB _ 0 [] m h
  simp only [List.nil_append] at h1
  subst h1
  exact ⟨by simpa using h2, h3, h4⟩
end YteegnbbblcokdaaDoor
end Go.Proofs
/-
  CODE: the law of texts (run).
-/
set_option linter.unusedSimpArgs false
set_option linter.unusedVariables false
set_option linter.unnecessarySimpa false
set_option linter.unusedSectionVars false
namespace Go.Proofs
namespace YteegnbbblcokdaaDoor
open Go.Abs
set_option linter.unusedSimpArgs false

theorem shortS_size (s : ByteArray) : (shortS s).size ≤ 1000000 := by
  unfold shortS
  split
  · rw [ByteArray.size_extract]; omega
  · omega
def tblCt : List (FuncId × CStep GD) := [(10, st10), (8, st8), (5, st5), (6, st6), (7, st7), (9, st9)]
theorem tblCt_ok : ∀ x ∈ tblCt, CStepOk Tryd.prog cfg x.1 x.2 := by simp [tblCt, st10_ok, st8_ok, st5_ok, st6_ok, st7_ok, st9_ok]
theorem printT_shape (i : Ins) : ∃ p e, printT i = .tuple #[.string p, .int .i64 e] := by unfold printT; split <;> exact ⟨_, _, rfl⟩
theorem insT_shape (x : Option Ins) : ∃ o a v e, insT x = .tuple #[.agg #[.int .u8 o, .int .i64 a, .int .u64 v], .int .i64 e] := by cases x <;> exact ⟨_, _, _, _, rfl⟩
set_option maxHeartbeats 4000000 in
set_option maxRecDepth 100000 in
theorem runs3 (i : Ins) (s : ByteArray) (hi : i.Ok) : Runs Tryd.prog cfg 3 [.agg #[.int .u8 i.o, .int .i64 i.a, .int .u64 i.v], .string s] (AH.of [])
    fun r H' => r = .ret (.bool true) ∧ H' = AH.of [] := by
  refine Runs.ends ?_
  have hss := shortS_size s
  obtain ⟨p, e, hp⟩ := printT_shape i
  have hp' : printT ⟨i.o, i.a, i.v⟩ = .tuple #[.string p, .int .i64 e] := hp
  have hsame := says_same (shortS s)
  obtain ⟨o, a, v, f, hq⟩ := insT_shape (saysS (shortS s))
  refine runs_by (tbl := tblCt) tblCt_ok 0 0 (af := a3) rfl ?_
  rw [a3, b3, run_eq]
  refine ⟨by simp, ?_⟩
  simp (implicitDefEqProofs := false) [tblCt, st10, pureStep, p8, p5, p6, p7, p9, hi.1, hi.2, hss, hsame, hp', hq, aggOf2, aeqF, partOf, eqInt]
  refine ends_plan [] [] ?_ ?_ ?_ <;> simp
end YteegnbbblcokdaaDoor
end Go.Proofs
/-
  CODE: what is read of what was written is it (run).
-/
set_option linter.unusedSimpArgs false
set_option linter.unusedVariables false
set_option linter.unnecessarySimpa false
set_option linter.unusedSectionVars false
namespace Go.Proofs
namespace YteegnbbblcokdaaDoor
open Go.Abs
set_option linter.unusedSimpArgs false

def tblCb : List (FuncId × CStep GD) := [(12, st12), (10, st10), (11, st11), (13, decSt), (14, st14), (5, st5), (7, st7)]
theorem tblCb_ok : ∀ x ∈ tblCb, CStepOk Tryd.prog cfg x.1 x.2 := by simp [tblCb, st12_ok, st10_ok, st11_ok, dec_code, st14_ok, st5_ok, st7_ok]
theorem encB_byte {l : List Ins} (hok : ∀ e ∈ l, e.Ok) (hr : encOk l = true) : ByteL (encB l) := by
  intro b hb
  unfold encB at hb
  rw [List.mem_flatMap] at hb
  obtain ⟨i, hi, hb⟩ := hb
  have hri : rightI i = true := by
    unfold encOk at hr
    exact List.all_eq_true.1 hr i hi
  obtain ⟨h1, h2, h3, h4, h5, h6⟩ := rightI_inv hri
  have hl := limit_le i.o
  have hio := (hok i hi).1
  unfold bytesI at hb
  simp only [List.mem_append, List.mem_singleton] at hb
  rcases hb with (rfl | hb) | hb
  · exact hio
  · split at hb
    · have : b = i.a := by simpa using hb
      omega
    · cases hb
  · split at hb
    · unfold be8 at hb
      obtain ⟨k, _, rfl⟩ := List.mem_map.1 hb
      unfold be; omega
    · cases hb
theorem printB_size {i : Ins} (hr : rightI i = true) : (printB i).size ≤ 1000000 := by
  obtain ⟨h1, h2, h3, h4, h5, h6⟩ := rightI_inv hr
  have hl := limit_le i.o
  have hw := wordO_size i.o.toNat
  unfold printB
  split
  · rw [app_size]; have := decS_size (n := i.a.toNat) (by omega); omega
  · split
    · rw [app_size, hexS_size]; omega
    · omega
set_option maxHeartbeats 8000000 in
theorem runs4 (l : List Ins) (b : List Int) (hok : ∀ e ∈ l, e.Ok) (hb : ByteL b) : Runs Tryd.prog cfg 4 [.slice (some ⟨0, 0, none⟩) l.length 0, .slice (some ⟨1, 0, none⟩) b.length 0] (AH.of [some (.ro (inss l)), some (.ro (bs b))])
    fun r H' => r = .ret (.bool true) ∧ H' = AH.of [some (.ro (inss l)), some (.ro (bs b))] := by
  refine Runs.ends ?_
  obtain ⟨a, ha⟩ : ∃ a, min l.length 60 = a := ⟨_, rfl⟩
  have h1 : a ≤ l.length ∧ a ≤ 1000 := by omega
  obtain ⟨L, hL⟩ : ∃ L, l.take a = L := ⟨_, rfl⟩
  have hokL : ∀ e ∈ L, e.Ok := fun e he => hok e (by rw [← hL] at he; exact List.mem_of_mem_take he)
  have hN : ∃ nb, nb ≤ b.length ∧ nb ≤ 1000 ∧ ((400 < (b.length : Int) ∧ nb = 400) ∨ (¬ 400 < (b.length : Int) ∧ nb = b.length)) := by
    by_cases h : 400 < b.length
    · exact ⟨400, by omega, by omega, .inl ⟨by omega, rfl⟩⟩
    · exact ⟨b.length, by omega, by omega, .inr ⟨by omega, rfl⟩⟩
  obtain ⟨nb, hn1, hn2, hN⟩ := hN
  obtain ⟨B, hB⟩ : ∃ B, b.take nb = B := ⟨_, rfl⟩
  have hBl : B.length = nb := by rw [← hB, List.length_take]; omega
  have hBb : ByteL B := fun x hx => hb x (by rw [← hB] at hx; exact List.mem_of_mem_take hx)
  cases he : encOk L with
  | false =>
    have hD : decB B = none ∨ ∃ d, decB B = some d ∧ encB d = B ∧ encOk d = true ∧ (∀ e ∈ d, e.Ok) := by
      cases hd : decB B with
      | none => exact .inl rfl
      | some d => exact .inr ⟨d, rfl, decB_inv hBb hd⟩
    have htk : (bs B).take nb = bs B := List.take_of_length_le (by simp [bs, hBl])
    have htk2 : (bs b).take nb = bs B := by rw [← hB]; simp [bs, List.map_take]
    rcases hN with ⟨h4, rfl⟩ | ⟨h4, rfl⟩ <;> rcases hD with hD | ⟨d, hD, g1, g2, g3⟩
    all_goals
      refine runs_by (tbl := tblCb) tblCb_ok 0 0 (af := a4) rfl ?_
      rw [a4, b4, run_eq]
      refine ⟨by simp, ?_⟩
      have h5 : 400 < (b.length : Int) → (400 : Int) ≤ b.length := fun h => by omega
      try have hdl := decB_len hD
      try have hd1 : d.length ≤ 1000 := by omega
      simp (implicitDefEqProofs := false) [tblCb, st12, st10, st11, decSt, st14, insAt_of, ha, hL, h1, hn1, hn2, h4, h5, hB, encR, encO, he, decR, decO, hD, bs_length, take_bs, bytesOf_bs, hok, hb, *]
      first
        | (refine ⟨hok, ends_plan [] [0, 1] ?_ ?_ ?_⟩ <;> simp; done)
        | (refine ⟨hok, g3, ends_plan [] [0, 1] ?_ ?_ ?_⟩ <;> simp; done)
        | (refine ⟨hok, g3, ends_plan [] [0, 1] ?_ ?_ ?_⟩ <;> simp [← hB]; done)
  | true =>
    have hbe := encB_byte hokL he
    have hel : (encB L).length ≤ 1000 := by
      have := encB_le L
      have hLl : L.length ≤ 60 := by rw [← hL, List.length_take]; omega
      omega
    have hdec := decB_encB hokL he
    have hLl : L.length = a := by rw [← hL, List.length_take]; omega
    have htk0 : (encB L).take (encB L).length = encB L := List.take_length
    have htk1 : L.take L.length = L := List.take_length
    have htk3 : L.take a = L := by rw [← hLl]; exact List.take_length
    have hD : decB B = none ∨ ∃ d, decB B = some d ∧ encB d = B ∧ encOk d = true ∧ (∀ e ∈ d, e.Ok) := by
      cases hd : decB B with
      | none => exact .inl rfl
      | some d => exact .inr ⟨d, rfl, decB_inv hBb hd⟩
    have htk : (bs B).take nb = bs B := List.take_of_length_le (by simp [bs, hBl])
    have htk2 : (bs b).take nb = bs B := by rw [← hB]; simp [bs, List.map_take]
    refine runs_by (tbl := tblCb) tblCb_ok 61 0 (af := a4) rfl ?_
    rw [a4, b4, run_eq]
    refine ⟨by simp, ?_⟩
    simp (implicitDefEqProofs := false) [tblCb, st12, st11, decSt, st14, insAt_of, ha, hL, h1, encR, encO, he, decR, decO, hdec, bs_length, take_bs, hok, hbe, hel, htk0, htk1, hLl, htk3]
    refine ⟨hok, ?_⟩
    refine loop_view (sg_mono gX_ok (tabS_ok tblCb_ok) _ _ noY noY_mono) (fun m tm H => ∃ i : Nat, m + i = a ∧ i ≤ a ∧ tm 0 = .slice (some ⟨0, 0, none⟩) a 0 ∧ tm 1 = .slice (some ⟨1, 0, none⟩) b.length 0 ∧ tm 9 = .int .i64 i ∧
      H = AH.of [some (.ro (inss l)), some (.ro (bs b)), none, none]) (m := a) ?_ (by omega) ?_
    · refine round_plan [] [0, 1, 2, 3] [some (.ro (inss l)), some (.ro (bs b)), none, none] a (by omega) ?_ ?_ ⟨0, by omega, by omega, ?_, ?_, ?_, rfl⟩ <;> simp
    rintro m tm H ⟨i, hm, hia, t0, t1, t9, rfl⟩
    by_cases hi : i < a
    · have hi' : (i : Int) < a := by omega
      obtain ⟨x, hx⟩ : ∃ x, l[i]? = some x := ⟨l[i]'(by omega), List.getElem?_eq_getElem (by omega)⟩
      have hxL : x ∈ L := by
        rw [← hL]
        refine List.mem_of_getElem? (i := i) ?_
        rw [List.getElem?_take, if_pos hi]; exact hx
      have hxo := hokL x hxL
      have hxr : rightI x = true := List.all_eq_true.1 he x hxL
      have hcm := many_inss hx
      have hle : i * 3 + 3 ≤ (inss l).length := by rw [inss_length]; omega
      have hwr := inc_i64 hi (by omega)
      have hpT : printT ⟨x.o, x.a, x.v⟩ = .tuple #[.string (printB x), .int .i64 0] := by unfold printT; rw [if_pos (show rightI ⟨x.o, x.a, x.v⟩ = true from hxr)]
      have hps := printB_size hxr
      have hsa : insT (saysS (printB x)) = .tuple #[.agg #[.int .u8 x.o, .int .i64 x.a, .int .u64 x.v], .int .i64 0] := by rw [says_print hxo hxr]; rfl
      have hx1 := hxo.1
      have hx2 := hxo.2
      simp (implicitDefEqProofs := false) [tblCb, pureStep, p5, p7, t0, t1, t9, hi, hi', hcm, hle, hwr, Ins.cells, hpT, hps, hsa, hx1, hx2, aggOf2, aeq_ins]
      refine round_plan [] [0, 1, 2, 3] [some (.ro (inss l)), some (.ro (bs b)), none, none] (m - 1) (by omega) ?_ ?_ ⟨i + 1, by omega, by omega, ?_, ?_, ?_, rfl⟩ <;> simp [t0, t1]
    · have hi' : ¬ (i : Int) < a := by omega
      rcases hN with ⟨h4, rfl⟩ | ⟨h4, rfl⟩ <;> rcases hD with hD | ⟨d, hD, g1, g2, g3⟩
      all_goals
        have h5 : 400 < (b.length : Int) → (400 : Int) ≤ b.length := fun h => by omega
        try have hdl := decB_len hD
        try have hd1 : d.length ≤ 1000 := by omega
        simp (implicitDefEqProofs := false) [tblCb, st12, st10, decSt, insAt_of, t0, t1, t9, hi, hi', h4, h5, hn1, hn2, hB, encR, encO, decR, decO, hD, bs_length, take_bs, bytesOf_bs, hb, *]
        first
          | (refine ends_plan [] [0, 1] ?_ ?_ ?_ <;> simp; done)
          | (refine ⟨g3, ends_plan [] [0, 1] ?_ ?_ ?_⟩ <;> simp; done)
          | (refine ⟨g3, ends_plan [] [0, 1] ?_ ?_ ?_⟩ <;> simp [← hB]; done)
end YteegnbbblcokdaaDoor
end Go.Proofs
/-
  CodeBack: what is read of what was written is it, as bytes and as text. For every instructions and bytes; the condition is the row’s own: three tables of the library read as they are laid.
-/
set_option linter.unusedSimpArgs false
set_option linter.unusedVariables false
set_option linter.unnecessarySimpa false
set_option linter.unusedSectionVars false
namespace Go.Proofs
namespace YteegnbbblcokdaaDoor.codeBack
open Go.Abs Go.ChangeShapes Go.WideShapes Go.ChangeAt Go.RowKit
set_option linter.unusedSimpArgs false
set_option linter.unusedVariables false
set_option maxRecDepth 100000

theorem contract (H : Type) (enc : TypeId × Value → H) (W : World) (base : Nat) (args : Array Value) (ds gs : List (DataW H)) (before : List MemPlace)
    (hval : ∀ (j : Nat) t v, Tryd.f4.params[j]? = some t → args[j]? = some v → Value.okWide Tryd.prog W .any base t v)
    (hW : DataW.Whole enc Tryd.prog Tryd.f4.params.toList Rows.codeBackSpec.vars false W args.toList ds gs before) :
    Calls Tryd.prog 4 args W fun e W' => ∃ v, e = .returned v ∧ Rows.codeBackSpec.post enc Tryd.prog Tryd.f4 false true false false W args v W' := by
  have hW' := hW
  obtain ⟨p, q, hA, hV, _, _, _⟩ := hW
  rw [Tryd.params4] at hA hval
  obtain ⟨v0, vs0, d0, ds0, p0, q0, hargs, rfl, rfl, h0, r0⟩ := trodAll_cons hA
  obtain ⟨v1, vs1, d1, ds1, p1, q1, rfl, rfl, rfl, h1, r1⟩ := trodAll_cons r0
  obtain ⟨rfl, rfl, rfl⟩ := trodAll_nil r1
  obtain rfl : args = #[v0, v1] := by cases args; simp_all
  obtain ⟨x0, h0p, _, h0r⟩ := open_inss (hval 0 35 v0 rfl rfl) h0
  obtain ⟨x1, h1p, _, h1r⟩ := open_bytes (hval 1 36 v1 rfl rfl) h1
  obtain ⟨ρ0, a0, m0, b0⟩ := (rel_nil (P := Tryd.prog) (cfg := cfg) (w := W)).addRo (fun _ _ h => h) (inss_ground x0) (inss_one x0) h0r
  rw [of_add] at a0
  obtain ⟨ρ1, a1, m1, b1⟩ := a0.addRo (fun _ _ h => h) (bs_ground x1) (bs_one x1) h1r
  rw [of_add] at a1
  refine (law_calls (runs4 x0 x1 h0p h1p) (fun r H' h => h.1) a1 (fun _ _ h => h) (.cons _ _ _ _ (b0.mono m1) (.cons _ _ _ _ b1 .nil))).mono fun en W' ⟨he, hb⟩ => ?_
  exact ⟨_, he, law_post rfl rfl hW' lclosed (by rw [Tryd.params4]; decide) (by kernel_rfl) Tryd.underlying4 hb⟩

/-! One start that fits: the tables as their initialisers lay them. -/
def litCells : DataW Unit → Array Value
  | .agg l => (l.map fun d => match d with
    | .lit (.int k n) => Value.int k n
    | _ => .nilIface).toArray
  | _ => #[]
def setCells (cs : Array Value) : Obj → Obj
  | .cells _ t fr => .cells cs t fr
  | o => o
noncomputable def laidWorld (os : Os) : World :=
  let w0 := World.holding Tryd.prog os ⟨#[], #[], []⟩
  { w0 with heap := ((w0.heap.modify 2 (setCells (litCells Rows.laid_internal_strconv_uint64pow10))).modify 3 (setCells (litCells Rows.laid_math_bits_deBruijn32tab))).modify 4 (setCells (litCells Rows.laid_math_bits_deBruijn64tab)) }
theorem laidWorld_met (os : Os) (args : Array Value) : laidMet Tryd.prog Rows.codeBackRow.laid ((laidWorld os).forCall (fun _ _ => 0) ⟨#[], args, []⟩).memory :=
  laidMet_of_run' 8 (by kernel_rfl) (by kernel_rfl)
set_option maxRecDepth 100000 in
theorem lifted (os : Os) (started : os.Started) (H : Type) (enc : TypeId × Value → H) :
    ReturnsInHanded {} Tryd.checked os 4 .any (fun w args => (Rows.codeBackSpec.pre enc Tryd.prog Tryd.f4 Rows.codeBackRow.domain false w args ∧ laidMet Tryd.prog Rows.codeBackRow.laid w) ∧ sizedMet enc Tryd.prog Tryd.f4 (OpenSpec.ofChange Rows.codeBackSpec) false w args)
      (Rows.codeBackSpec.post enc Tryd.prog Tryd.f4 false true false false) := by
  refine returnsInHanded_of_change_and (C := Tryd.checked) (X := fun w _ => laidMet Tryd.prog Rows.codeBackRow.laid w) (fun _ _ _ hh h => h.of_heap hh) own started (by kernel_rfl) Tryd.func4
    (ChangeSpec.witness_at (enc := enc) (C := Tryd.checked) (os := os) (X := fun w _ => laidMet Tryd.prog Rows.codeBackRow.laid w) false (laidWorld os) #[.slice none 0 0, .slice none 0 0] 8 rfl (by kernel_rfl) (by kernel_rfl) (by kernel_rfl) (by kernel_rfl) (by kernel_rfl) (laidWorld_met os _)) ?_
  intro W base args ds gs before hval hW _ _ _ _
  exact contract H enc W base args ds gs before hval hW

theorem proved : Rows.CodeBackSaid :=
  OpenClaim.holds_of_wide 4 Tryd.f4 rfl rfl rfl rfl rfl rfl rfl ⟨rfl, rfl, rfl, rfl, rfl⟩ rfl rfl rfl rfl rfl (by kernel_rfl) Tryd.func4 (by kernel_rfl)
    (of_decide_eq_true (by kernel_rfl)) (by unfold Func.isWrapper; first | (rw [if_pos (by decide +kernel)]; kernel_rfl) | (rw [if_neg (by decide +kernel)]; exact ⟨rfl, rfl⟩))
    (fun os started H enc _ => lifted os started H enc)
end YteegnbbblcokdaaDoor.codeBack
theorem YteegnbbblcokdaaDoor.codeBack_holds : YteegnbbblcokdaaDoor.Rows.CodeBackSaid := YteegnbbblcokdaaDoor.codeBack.proved
#print axioms YteegnbbblcokdaaDoor.codeBack_holds
end Go.Proofs
