/-
  THE DATA, and how each lies.
-/
import Derived.Test.YtaajajcdgaaloaaPF
import Derived.Test.YtaajajcdgaaloaaPA3
import Derived.Test.YtaajajcdgaaloaaRows
import Derived.Shelf.Slices.CompactI
import Derived.Shelf.Sort.Plain
import Derived.Test.YtaajajcdgaaloaaProg
set_option linter.unusedSimpArgs false
set_option linter.unusedVariables false
set_option linter.unnecessarySimpa false
set_option linter.unusedSectionVars false
namespace Go.Proofs
namespace Ytaajajcdgaaloaa
open Go.Abs

structure Ent where
  t : Int
  v : Int
  n : Int
  deriving DecidableEq

/-- A variable and a value. -/
structure Pr where
  t : Int
  v : Int
  deriving DecidableEq
/-- An event. -/
structure Ev where
  k : Int
  a : Int
  t : Int
  v : Int
  deriving DecidableEq
/-- What is asked for. -/
structure Ak where
  k : Int
  t : Int
  v : Int
  deriving DecidableEq
/-- An attempt of norec: its number, snapshot, reads, frames (the uppermost first), what is asked for, and how far it is. -/
structure Att where
  n : Nat
  snap : Int
  es : List Ent
  fs : List (List Pr)
  asked : Bool
  ra : Ak
  at_ : Nat
  back : Nat
  nx : Nat
  seen : Int
  val : Int
  dec : Bool
  deriving DecidableEq
/-- norec: who has the lock, what it counts, the heap, the threads, events, keys, reasons. -/
structure NS where
  o : Option Int
  c : Int
  hp : List Int
  ts : Nat → Option Att
  ev : List Ev
  ky : List Int
  wy : List Int

inductive GD where
  | lk (o : Option Int) (c : Int)
  | rlk (o : Option Int) (c : Int)
  | stk (fs : List (List Pr))
  | log (fs : List (List Pr))
  | rlog (fs : List (List Pr))
  | att (a : Att)
  | ratt (a : Att)
  | eng (s : NS)
  | reng (s : NS)
  | set (c : Nat) (l : List Ent)
  | rset (l : List Ent)
  | tab (ws : List Int) (c : Int)
  | rtab (ws : List Int) (c : Int)
  | vints (l : List Int)

def Ent.cells (e : Ent) : List Value := [.int .i64 e.t, .int .u64 e.v, .int .u64 e.n]
def Ent.val (e : Ent) : Value := .agg e.cells.toArray
def epairs (l : List Ent) : List (Value × Value) := l.map fun e => (.int .i64 e.t, e.val)
def tvars (l : List Ent) : List Value := l.map fun e => .int .i64 e.t
def rows (l : List Ent) : List Value := l.flatMap Ent.cells
def us (h : List Int) : List Value := h.map fun v => .int .u64 v

def Pr.cells (p : Pr) : List Value := [.int .i64 p.t, .int .u64 p.v]
def prs (l : List Pr) : List Value := l.flatMap Pr.cells
def Ev.cells (e : Ev) : List Value := [.int .u8 e.k, .int .i64 e.a, .int .i64 e.t, .int .u64 e.v]
def evs (l : List Ev) : List Value := l.flatMap Ev.cells
def u8s (l : List Int) : List Value := l.map fun v => .int .u8 v
/-- What the program keeps of it. -/
def Att.ask (a : Att) : Ak := if a.asked then a.ra else ⟨0, 0, 0⟩
def nextP : List (List Pr) → Value
  | [] => .pointer none
  | _ :: _ => .pointer (some ⟨2, 0, none⟩)
def nextO : List (List Pr) → List (AObj GD)
  | [] => []
  | f :: fs => [.hi (.stk (f :: fs))]
def stkO : List (List Pr) → List (AObj GD)
  | [] => [.arr 0 []]
  | f :: fs => .arr 0 [.slice (some ⟨1, 0, none⟩) f.length 1, nextP fs] :: .arr 0 (prs f) :: nextO fs
def lkO : Option Int → Int → List (AObj GD)
  | none, c => [.arr 0 [.pointer none, .int .u64 c]]
  | some x, c => [.arr 0 [.pointer (some ⟨1, 0, none⟩), .int .u64 c], .arr 3 [.int .i64 x]]
/-- A frame's value of a variable. -/
def getP (f : List Pr) (t : Int) : Option Int := (f.find? fun p => p.t == t).map (·.v)
def tv12 : List Int := [0, 1, 2, 3, 4, 5, 6, 7, 8, 9, 10, 11]
def frameC (f : List Pr) : List Value := (tv12.map fun t => .bool (getP f t).isSome) ++ tv12.map fun t => .int .u64 ((getP f t).getD 0)
def slotO : Option Att → AObj GD
  | some a => .hi (.att a)
  | none => .arr 0 []
def rslotO : Option Att → AObj GD
  | some a => .hi (.ratt a)
  | none => .arr 0 []
def tp1 (i : Int) (k : Nat) : Option Att → List (Value × Value)
  | some _ => [(.int .i64 i, .pointer (some ⟨k, 0, none⟩))]
  | none => []
/-- The threads' map. -/
def tpK (k0 k1 k2 k3 : Nat) (ts : Nat → Option Att) : List (Value × Value) := tp1 0 k0 (ts 0) ++ (tp1 1 k1 (ts 1) ++ (tp1 2 k2 (ts 2) ++ tp1 3 k3 (ts 3)))
def rptr (k : Nat) : Option Att → Value
  | some _ => .pointer (some ⟨k, 0, none⟩)
  | none => .pointer none
/-- A key and a reason, as the reference keeps them. -/
def keyC (ky wy : List Int) : List Value := (ky.zip wy).flatMap fun x => [.int .u64 x.1, .int .u8 x.2]

def frag : GD → List (AObj GD)
  | .lk o c => lkO o c
  | .rlk o c => [.arr 0 [.int .u64 c, .bool o.isSome, .int .i64 (o.getD 0)]]
  | .stk fs => stkO fs
  | .log fs => [.arr 0 [.pointer (some ⟨1, 0, none⟩), .int .i64 ((fs.length : Int) - 1)], .hi (.stk fs)]
  | .rlog fs => [.arr 0 [.slice (some ⟨1, 0, none⟩) fs.length 1], .arr 0 (fs.reverse.flatMap frameC)]
  | .att a => [.arr 0 [.pointer (some ⟨1, 0, none⟩), .pointer (some ⟨2, 0, none⟩), .int .i64 a.n, .int .u64 a.snap, .int .u8 a.ask.k, .int .i64 a.ask.t, .int .u64 a.ask.v, .int .i64 a.at_, .int .i64 a.back, .int .i64 a.nx, .int .u64 a.seen, .int .u64 a.val, .bool a.dec],
      .hi (.set 0 a.es), .hi (.log a.fs)]
  | .ratt a => [.arr 0 [.int .i64 a.n, .int .u64 a.snap, .pointer (some ⟨1, 0, none⟩), .pointer (some ⟨2, 0, none⟩), .bool a.asked, .int .u8 a.ra.k, .int .i64 a.ra.t, .int .u64 a.ra.v, .int .i64 (if a.at_ < 4 then a.at_ else a.at_ + 6), .int .i64 a.back, .int .i64 a.nx, .int .u64 a.seen, .int .u64 a.val, .bool a.dec],
      .hi (.rset a.es), .hi (.rlog a.fs)]
  | .eng s => [.arr 0 [.pointer (some ⟨1, 0, none⟩), .slice (some ⟨2, 0, none⟩) s.hp.length 1, .map (some 3), .slice (some ⟨4, 0, none⟩) s.ev.length 1, .slice (some ⟨5, 0, none⟩) s.ky.length 1, .slice (some ⟨6, 0, none⟩) s.wy.length 1],
      .hi (.lk s.o s.c), .arr 0 (us s.hp), .mapq (tpK 7 8 9 10 s.ts), .arr 0 (evs s.ev), .arr 29 (us s.ky), .arr 0 (u8s s.wy), slotO (s.ts 0), slotO (s.ts 1), slotO (s.ts 2), slotO (s.ts 3)]
  | .reng s => [.arr 0 [.slice (some ⟨1, 0, none⟩) s.hp.length 1, .pointer (some ⟨2, 0, none⟩), rptr 5 (s.ts 0), rptr 6 (s.ts 1), rptr 7 (s.ts 2), rptr 8 (s.ts 3), .slice (some ⟨3, 0, none⟩) s.ev.length 1, .slice (some ⟨4, 0, none⟩) s.ky.length 1],
      .arr 0 (us s.hp), .hi (.rlk s.o s.c), .arr 0 (evs s.ev), .arr 0 (keyC s.ky s.wy), rslotO (s.ts 0), rslotO (s.ts 1), rslotO (s.ts 2), rslotO (s.ts 3)]
  | .set c l => [.arr 0 [.slice (some ⟨1, 0, none⟩) l.length 1, .map (some 2)], .arr 3 (tvars l), .mapq (epairs l)]
  | .rset l => [.arr 0 [.slice (some ⟨1, 0, none⟩) l.length 1], .arr 0 (rows l)]
  | .tab ws c => [.arr 62 [.int .u64 c, .slice (some ⟨1, 0, none⟩) ws.length 1], .arr 29 (us ws)]
  | .rtab ws c => [.arr 74 [.slice (some ⟨1, 0, none⟩) ws.length 1, .int .u64 c], .arr 29 (us ws)]
  | .vints l => [.arr 36 [.slice (some ⟨1, 0, none⟩) l.length 1], .arr 3 (ints l)]

theorem frag_lk0 (c : Int) : frag (.lk none c) = [.arr 0 [.pointer none, .int .u64 c]] := rfl
theorem frag_lk1 (x c : Int) : frag (.lk (some x) c) = [.arr 0 [.pointer (some ⟨1, 0, none⟩), .int .u64 c], .arr 3 [.int .i64 x]] := rfl
theorem frag_rlk (o : Option Int) (c : Int) : frag (.rlk o c) = [.arr 0 [.int .u64 c, .bool o.isSome, .int .i64 (o.getD 0)]] := rfl
theorem frag_stk1 (f : List Pr) : frag (.stk [f]) = [.arr 0 [.slice (some ⟨1, 0, none⟩) f.length 1, .pointer none], .arr 0 (prs f)] := rfl
theorem frag_stk2 (f g : List Pr) (fs : List (List Pr)) : frag (.stk (f :: g :: fs)) = [.arr 0 [.slice (some ⟨1, 0, none⟩) f.length 1, .pointer (some ⟨2, 0, none⟩)], .arr 0 (prs f), .hi (.stk (g :: fs))] := rfl
theorem frag_stk (f : List Pr) (fs : List (List Pr)) : frag (.stk (f :: fs)) = .arr 0 [.slice (some ⟨1, 0, none⟩) f.length 1, nextP fs] :: .arr 0 (prs f) :: nextO fs := rfl
theorem frag_log (fs : List (List Pr)) : frag (.log fs) = [.arr 0 [.pointer (some ⟨1, 0, none⟩), .int .i64 ((fs.length : Int) - 1)], .hi (.stk fs)] := rfl
theorem frag_rlog (fs : List (List Pr)) : frag (.rlog fs) = [.arr 0 [.slice (some ⟨1, 0, none⟩) fs.length 1], .arr 0 (fs.reverse.flatMap frameC)] := rfl
theorem frag_att (a : Att) : frag (.att a) = [.arr 0 [.pointer (some ⟨1, 0, none⟩), .pointer (some ⟨2, 0, none⟩), .int .i64 a.n, .int .u64 a.snap, .int .u8 a.ask.k, .int .i64 a.ask.t, .int .u64 a.ask.v, .int .i64 a.at_, .int .i64 a.back, .int .i64 a.nx, .int .u64 a.seen, .int .u64 a.val, .bool a.dec],
      .hi (.set 0 a.es), .hi (.log a.fs)] := rfl
theorem frag_ratt (a : Att) : frag (.ratt a) = [.arr 0 [.int .i64 a.n, .int .u64 a.snap, .pointer (some ⟨1, 0, none⟩), .pointer (some ⟨2, 0, none⟩), .bool a.asked, .int .u8 a.ra.k, .int .i64 a.ra.t, .int .u64 a.ra.v, .int .i64 (if a.at_ < 4 then a.at_ else a.at_ + 6), .int .i64 a.back, .int .i64 a.nx, .int .u64 a.seen, .int .u64 a.val, .bool a.dec],
      .hi (.rset a.es), .hi (.rlog a.fs)] := rfl
theorem frag_eng (s : NS) : frag (.eng s) = [.arr 0 [.pointer (some ⟨1, 0, none⟩), .slice (some ⟨2, 0, none⟩) s.hp.length 1, .map (some 3), .slice (some ⟨4, 0, none⟩) s.ev.length 1, .slice (some ⟨5, 0, none⟩) s.ky.length 1, .slice (some ⟨6, 0, none⟩) s.wy.length 1],
      .hi (.lk s.o s.c), .arr 0 (us s.hp), .mapq (tpK 7 8 9 10 s.ts), .arr 0 (evs s.ev), .arr 29 (us s.ky), .arr 0 (u8s s.wy), slotO (s.ts 0), slotO (s.ts 1), slotO (s.ts 2), slotO (s.ts 3)] := rfl
theorem frag_reng (s : NS) : frag (.reng s) = [.arr 0 [.slice (some ⟨1, 0, none⟩) s.hp.length 1, .pointer (some ⟨2, 0, none⟩), rptr 5 (s.ts 0), rptr 6 (s.ts 1), rptr 7 (s.ts 2), rptr 8 (s.ts 3), .slice (some ⟨3, 0, none⟩) s.ev.length 1, .slice (some ⟨4, 0, none⟩) s.ky.length 1],
      .arr 0 (us s.hp), .hi (.rlk s.o s.c), .arr 0 (evs s.ev), .arr 0 (keyC s.ky s.wy), rslotO (s.ts 0), rslotO (s.ts 1), rslotO (s.ts 2), rslotO (s.ts 3)] := rfl
theorem frag_set (c : Nat) (l : List Ent) : frag (.set c l) = [.arr 0 [.slice (some ⟨1, 0, none⟩) l.length 1, .map (some 2)], .arr 3 (tvars l), .mapq (epairs l)] := rfl
theorem frag_rset (l : List Ent) : frag (.rset l) = [.arr 0 [.slice (some ⟨1, 0, none⟩) l.length 1], .arr 0 (rows l)] := rfl
theorem frag_tab (ws : List Int) (c : Int) : frag (.tab ws c) = [.arr 62 [.int .u64 c, .slice (some ⟨1, 0, none⟩) ws.length 1], .arr 29 (us ws)] := rfl
theorem frag_rtab (ws : List Int) (c : Int) : frag (.rtab ws c) = [.arr 74 [.slice (some ⟨1, 0, none⟩) ws.length 1, .int .u64 c], .arr 29 (us ws)] := rfl
theorem frag_vints (l : List Int) : frag (.vints l) = [.arr 36 [.slice (some ⟨1, 0, none⟩) l.length 1], .arr 3 (ints l)] := rfl

abbrev cfg := cfgOf Try.prog frag
abbrev G := gX Try.prog frag

/-- The rule, over this seat's forms. -/
theorem runs_by {tbl : List (FuncId × CStep GD)} (h : ∀ x ∈ tbl, CStepOk Try.prog cfg x.1 x.2) (F d : Nat) {f : FuncId} {af : AF} (hf : forms f = some af) {args : List Value} {H : AH GD} {K : AEnd → AH GD → Prop}
    (hr : af.run (G (callX G (tabS (SeesG Try.prog cfg) tbl) forms F d noY) (callX G (tabS (SeesG Try.prog cfg) tbl) forms F d)) F args H K) : Runs Try.prog cfg f args H K :=
  runs_of gX_ok hmix hext (tabS_ok h) forms_ok F d hf hr
end Ytaajajcdgaaloaa
end Go.Proofs
/-
  WHAT IS READ off arguments and heaps.
-/
set_option linter.unusedSimpArgs false
set_option linter.unusedVariables false
set_option linter.unnecessarySimpa false
set_option linter.unusedSectionVars false
namespace Go.Proofs
namespace Ytaajajcdgaaloaa
open Go.Abs
set_option linter.unusedSimpArgs false

def ptr0 : Value → Option Nat
  | .pointer (some ⟨k, 0, none⟩) => some k
  | _ => none
theorem ptr0_eq (k : Nat) : ptr0 (.pointer (some ⟨k, 0, none⟩)) = some k := rfl
theorem ptr0_inv {v : Value} {k : Nat} (h : ptr0 v = some k) : v = .pointer (some ⟨k, 0, none⟩) := by
  unfold ptr0 at h
  split at h
  · cases h; rfl
  · cases h
def asU : Value → Option Int
  | .int .u64 v => some v
  | _ => none
def asI : Value → Option Int
  | .int .i64 v => some v
  | _ => none
theorem asU_eq (v : Int) : asU (.int .u64 v) = some v := rfl
theorem asI_eq (v : Int) : asI (.int .i64 v) = some v := rfl
theorem asU_inv {x : Value} {v : Int} (h : asU x = some v) : x = .int .u64 v := by
  unfold asU at h
  split at h
  · cases h; rfl
  · cases h
theorem asI_inv {x : Value} {v : Int} (h : asI x = some v) : x = .int .i64 v := by
  unfold asI at h
  split at h
  · cases h; rfl
  · cases h
theorem upd_get {H : AH GD} {k : Nat} {o : AObj GD} (h : H.get k = some o) : H.upd k o = H := by
  refine AH.ext' rfl fun j => ?_
  rw [AH.get_upd]
  split
  · rename_i e; subst e; exact h.symm
  · rfl
theorem us_set (h : List Int) (i : Nat) (v : Int) : (us h).set i (.int .u64 v) = us (h.set i v) := by simp [us, List.map_set]
theorem take_us (l : List Int) : (us l).take l.length = us l := List.take_of_length_le (by simp [us])
theorem us_length (h : List Int) : (us h).length = h.length := by simp [us]
theorem us_ground (h : List Int) : grounds (us h) = true := by
  induction h with
  | nil => rfl
  | cons v h ih => simp [us, grounds, ground] at ih ⊢; exact ih
theorem ren_us (θ : Nat → Nat) (h : List Int) : rens θ (us h) = us h := rens_ground θ _ (us_ground h)
theorem us_at {h : List Int} {i : Nat} {v : Int} (hv : h[i]? = some v) : (us h)[i]? = some (.int .u64 v) := by simp [us, hv]
def sl0 : Value → Option (Nat × Nat × Nat)
  | .slice (some ⟨k, 0, none⟩) n c => some (k, n, c)
  | _ => none
theorem sl0_eq (k n c : Nat) : sl0 (.slice (some ⟨k, 0, none⟩) n c) = some (k, n, c) := rfl
theorem sl0_inv {v : Value} {q : Nat × Nat × Nat} (h : sl0 v = some q) : v = .slice (some ⟨q.1, 0, none⟩) q.2.1 q.2.2 := by
  unfold sl0 at h
  split at h
  · cases h; rfl
  · cases h
def asUs : List Value → Option (List Int)
  | [] => some []
  | .int .u64 v :: l => (asUs l).map (v :: ·)
  | _ => none
theorem asUs_us : ∀ h : List Int, asUs (us h) = some h
  | [] => rfl
  | v :: h => by
    show (asUs (us h)).map (v :: ·) = _
    rw [asUs_us h]; rfl
theorem asUs_inv : ∀ {cs : List Value} {h : List Int}, asUs cs = some h → cs = us h
  | [], h, e => by cases e; rfl
  | v :: cs, h, e => by
    unfold asUs at e
    split at e
    · simp_all
    · rename_i v' l heq
      cases heq
      simp only [Option.map_eq_some_iff] at e
      obtain ⟨h', e1, rfl⟩ := e
      rw [asUs_inv e1]; rfl
    · cases e
/-- A row of words that nobody writes. -/
def getRo (H : AH GD) (k : Nat) : Option (List Int) :=
  match H.get k with
  | some (.ro cs) => asUs cs
  | _ => none
theorem getRo_inv {H : AH GD} {k : Nat} {h : List Int} (hg : getRo H k = some h) : H.get k = some (.ro (us h)) := by
  unfold getRo at hg
  split at hg
  · rename_i cs e; rw [e, asUs_inv hg]
  · cases hg
def getArr (H : AH GD) (k : Nat) : Option (TypeId × List Int) :=
  match H.get k with
  | some (.arr e cs) => (asUs cs).map fun h => (e, h)
  | _ => none
theorem getArr_inv {H : AH GD} {k : Nat} {x : TypeId × List Int} (hg : getArr H k = some x) : H.get k = some (.arr x.1 (us x.2)) := by
  unfold getArr at hg
  split at hg
  · rename_i e cs he
    simp only [Option.map_eq_some_iff] at hg
    obtain ⟨h, h1, rfl⟩ := hg
    rw [he, asUs_inv h1]
  · cases hg
theorem upd_upd (H : AH GD) (k : Nat) (o o' : AObj GD) : (H.upd k o).upd k o' = H.upd k o' := by
  refine AH.ext' rfl fun j => ?_
  simp only [AH.get_upd]
  split <;> rfl
theorem us_one (v : Int) : us [v] = [.int .u64 v] := rfl
theorem us_nil : us [] = [] := rfl
theorem us_append (a b : List Int) : us (a ++ b) = us a ++ us b := by simp [us]
def asInts : List Value → Option (List Int)
  | [] => some []
  | .int .i64 v :: l => (asInts l).map (v :: ·)
  | _ => none
theorem asInts_ints : ∀ h : List Int, asInts (ints h) = some h
  | [] => rfl
  | v :: h => by
    show (asInts (ints h)).map (v :: ·) = _
    rw [asInts_ints h]; rfl
theorem asInts_inv : ∀ {cs : List Value} {h : List Int}, asInts cs = some h → cs = ints h
  | [], h, e => by cases e; rfl
  | v :: cs, h, e => by
    unfold asInts at e
    split at e
    · simp_all
    · rename_i v' l heq
      cases heq
      simp only [Option.map_eq_some_iff] at e
      obtain ⟨h', e1, rfl⟩ := e
      rw [asInts_inv e1]; rfl
    · cases e
theorem ints_at {h : List Int} {i : Nat} {v : Int} (hv : h[i]? = some v) : (ints h)[i]? = some (.int .i64 v) := by simp [ints, hv]
theorem ints_get {h : List Int} {i : Nat} {v : Int} (hv : h[i]? = some v) (p : i < (ints h).length) : (ints h)[i]'p = .int .i64 v := by
  have := ints_at hv
  rw [List.getElem?_eq_getElem p] at this
  exact Option.some.inj this
theorem ints_append (a b : List Int) : ints (a ++ b) = ints a ++ ints b := by simp [ints]
theorem take_ints (l : List Int) : (ints l).take l.length = ints l := List.take_of_length_le (by simp)
/-- A row of whole numbers. -/
def getInts (H : AH GD) (k : Nat) : Option (TypeId × List Int) :=
  match H.get k with
  | some (.arr e cs) => (asInts cs).map fun h => (e, h)
  | _ => none
theorem getInts_inv {H : AH GD} {k : Nat} {x : TypeId × List Int} (hg : getInts H k = some x) : H.get k = some (.arr x.1 (ints x.2)) := by
  unfold getInts at hg
  split at hg
  · rename_i e cs he
    simp only [Option.map_eq_some_iff] at hg
    obtain ⟨h, h1, rfl⟩ := hg
    rw [he, asInts_inv h1]
  · cases hg
theorem inc_i64 {i n : Nat} (hi : i < n) (hn : n ≤ 1000000) : IntKind.i64.wrap ((i : Int) + 1) = ((i + 1 : Nat) : Int) := by rw [wrap_i64 (by omega) (by omega)]; omega
theorem same_none {α : Type} {a b : List α} (hl : a.length = b.length) (h : ∀ j, j < a.length → a[j]? = b[j]?) : a = b := by
  refine List.ext_getElem? fun j => ?_
  rcases Nat.lt_or_ge j a.length with hj | hj
  · exact h j hj
  · rw [List.getElem?_eq_none hj, List.getElem?_eq_none (by omega)]
theorem ints_single (v : Int) : ints [v] = [.int .i64 v] := rfl
theorem ptr0_nil : ptr0 (.pointer none) = none := rfl
def isNil : Value → Option Unit
  | .pointer none => some ()
  | _ => none
theorem isNil_eq : isNil (.pointer none) = some () := rfl
theorem isNil_ptr (k o : Nat) : isNil (.pointer (some ⟨k, o, none⟩)) = none := rfl
theorem isNil_inv {v : Value} {u : Unit} (h : isNil v = some u) : v = .pointer none := by
  unfold isNil at h
  split at h
  · rfl
  · cases h
/-! What numbers and texts alone come to: in any heap. -/
abbrev PStep := List Value → Option (Prop × Value)
def pureStep (f : PStep) : CStep GD := fun args H => (f args).map fun x => (x.1, .ret x.2, H)
theorem pure_ok {fid : FuncId} {f : PStep} (h : ∀ args p v, f args = some (p, v) → p → grounds args = true ∧ ground v = true ∧ Runs Try.prog cfg fid args (AH.of []) fun r H' => r = .ret v ∧ H' = AH.of []) : CStepOk Try.prog cfg fid (pureStep f) := by
  intro args H p r H' he hp
  simp only [pureStep, Option.map_eq_some_iff] at he
  obtain ⟨⟨p', v⟩, h1, h2⟩ := he
  cases h2
  obtain ⟨g1, g2, hr⟩ := h args p' v h1 hp
  exact hr.atK (ro_none rfl) [] (by simp) (by simp) trivial (by rw [rens_ground _ _ g1]) (by rw [renE_ret, ren_ground _ _ g2]) (by simp)
/-! What is done to one datum, with numbers and truth values alone. -/
abbrev DStep := GD → List Value → Option (Prop × Value × GD)
def dataSt (g : DStep) : CStep GD := fun args H => match args with
  | .pointer (some ⟨k, 0, none⟩) :: rest => match H.get k with
    | some (.hi d) => (g d rest).map fun x => (x.1, .ret x.2.1, H.upd k (.hi x.2.2))
    | _ => none
  | _ => none
theorem data_ok {fid : FuncId} {g : DStep} (h : ∀ d rest p v d', g d rest = some (p, v, d') → p → grounds rest = true ∧ ground v = true ∧ Runs Try.prog cfg fid (.pointer (some ⟨0, 0, none⟩) :: rest) (AH.of [some (.hi d)]) fun r H' => r = .ret v ∧ H' = AH.of [some (.hi d')]) : CStepOk Try.prog cfg fid (dataSt g) := by
  intro args H p r H' he hp
  unfold dataSt at he
  split at he
  case h_2 => cases he
  split at he
  case h_2 => cases he
  simp only [Option.map_eq_some_iff] at he
  obtain ⟨⟨p', v, d'⟩, h1, h2⟩ := he
  rename_i k rest x d hk
  cases h2
  obtain ⟨g1, g2, hr⟩ := h d rest p' v d' h1 hp
  exact hr.atK (ro_none rfl) [k] (by simp) (by simp) (by simp [hk]) (by rw [rens, rens_ground _ _ g1]; simp) (by rw [renE_ret, ren_ground _ _ g2]) (by simp)
attribute [simp] ren_us ptr0_eq ptr0_nil asU_eq asI_eq sl0_eq asUs_us asUs asInts_ints isNil_eq isNil_ptr
end Ytaajajcdgaaloaa
end Go.Proofs
/-
  What the arguments of laws read as: numbers, truth values.
-/
set_option linter.unusedSimpArgs false
set_option linter.unusedVariables false
set_option linter.unnecessarySimpa false
set_option linter.unusedSectionVars false
namespace Go.Proofs
namespace Ytaajajcdgaaloaa
open Go.Abs Go.ChangeShapes Go.WideShapes Go.ChangeAt Go.RowKit
set_option linter.unusedSimpArgs false
set_option linter.unusedVariables false
set_option maxRecDepth 100000

theorem own : ownKnob Try.prog.godebug = none := by kernel_rfl
section
variable {H : Type} {enc : TypeId × Value → H} {w : World}
theorem wf_i64 {n : Int} (h : (Lit.int .i64 n).wf = true) : -9223372036854775808 ≤ n ∧ n ≤ 9223372036854775807 := by
  simpa [Lit.wf, IntKind.min, IntKind.max, IntKind.signed, IntKind.bits] using h
theorem wf_u64 {n : Int} (h : (Lit.int .u64 n).wf = true) : 0 ≤ n ∧ n < 18446744073709551616 := by
  have : 0 ≤ n ∧ n ≤ 18446744073709551615 := by simpa [Lit.wf, IntKind.min, IntKind.max, IntKind.signed, IntKind.bits] using h
  omega
theorem wf_u8 {n : Int} (h : (Lit.int .u8 n).wf = true) : 0 ≤ n ∧ n < 256 := by
  have : 0 ≤ n ∧ n ≤ 255 := by simpa [Lit.wf, IntKind.min, IntKind.max, IntKind.signed, IntKind.bits] using h
  omega
theorem wf_u16 {n : Int} (h : (Lit.int .u16 n).wf = true) : 0 ≤ n ∧ n < 65536 := by
  have : 0 ≤ n ∧ n ≤ 65535 := by simpa [Lit.wf, IntKind.min, IntKind.max, IntKind.signed, IntKind.bits] using h
  omega
theorem wf_u32 {n : Int} (h : (Lit.int .u32 n).wf = true) : 0 ≤ n ∧ n < 4294967296 := by
  have : 0 ≤ n ∧ n ≤ 4294967295 := by simpa [Lit.wf, IntKind.min, IntKind.max, IntKind.signed, IntKind.bits] using h
  omega
theorem us_oneC (l : List Int) : (us l).all (·.oneCell') = true := by simp [us, Value.oneCell']
theorem ints_oneC (l : List Int) : (ints l).all (·.oneCell') = true := by simp [ints, Value.oneCell']
theorem us_flat (h : List Int) : h.flatMap (fun v => [Value.int .u64 v]) = us h := by
  induction h with
  | nil => rfl
  | cons v h ih => rw [List.flatMap_cons, ih]; rfl
theorem ints_flat (h : List Int) : h.flatMap (fun v => [Value.int .i64 v]) = ints h := by
  induction h with
  | nil => rfl
  | cons v h ih => rw [List.flatMap_cons, ih]; rfl
end
end Ytaajajcdgaaloaa
end Go.Proofs
/-
  LOCK WORDS: what they say; the program's functions, and the reference's.
-/
set_option linter.unusedSimpArgs false
set_option linter.unusedVariables false
set_option linter.unnecessarySimpa false
set_option linter.unusedSectionVars false
namespace Go.Proofs
namespace Ytaajajcdgaaloaa
open Go.Abs
set_option linter.unusedSimpArgs false

/-! What a word says. -/
def wOwn (w : Int) : Int := if w % 32 = 0 then -1 else (w % 32 - 1) / 2
def wVer (w : Int) : Int := w / 32
structure RightW (w : Int) : Prop where
  lo : 0 ≤ w
  ver : w / 32 ≤ 1099511627776
  low : w % 32 = 0 ∨ w % 32 = 1 ∨ w % 32 = 3 ∨ w % 32 = 5 ∨ w % 32 = 7
def bitB (w : Int) (i : Nat) : Bool := decide ((w / 2 ^ i) % 2 = 1)
def bitL (w : Int) (n : Nat) : List Bool := (List.range n).map (bitB w)
theorem bitL_succ (w : Int) (n : Nat) : bitL w (n + 1) = bitL w n ++ [bitB w n] := by simp [bitL, List.range_succ]

theorem bit_one {w d : Int} (h0 : 0 ≤ w) (h1 : w < 18446744073709551616) (hd : 0 < d) : bAnd .u64 (w.fdiv d) 1 = w / d % 2 := by
  rw [Int.fdiv_eq_ediv_of_nonneg _ (by omega)]
  have h2 : 0 ≤ w / d := Int.ediv_nonneg h0 (by omega)
  have h3 : w / d ≤ w := Int.ediv_le_self _ h0
  exact bAnd_one h2 (by omega)
/-- The first bits. -/
def fl (w : Int) (i : Nat) : List Value := [.bool (decide (0 < i) && bitB w 0), .bool (decide (1 < i) && bitB w 1), .bool (decide (2 < i) && bitB w 2), .bool (decide (3 < i) && bitB w 3), .bool (decide (4 < i) && bitB w 4)]
set_option maxHeartbeats 1000000 in
theorem runs71 (w : Int) (h0 : 0 ≤ w) (h1 : w < 18446744073709551616) : Runs Try.prog cfg 71 [.int .u64 w] (AH.of [])
    fun r H' => r = .ret (.agg #[.bool (bitB w 0), .bool (bitB w 1), .bool (bitB w 2), .bool (bitB w 3), .bool (bitB w 4)]) ∧ H' = AH.of [] := by
  refine Runs.ends ?_
  refine runs_by (tbl := []) (by simp) 6 0 (af := a71) rfl ?_
  rw [a71, b71, run_eq]
  refine ⟨by simp, ?_⟩
  simp (implicitDefEqProofs := false)
  have hb : ∀ d, 0 < d → bAnd .u64 (w.fdiv d) 1 = w / d % 2 := fun d hd => bit_one h0 h1 hd
  refine loop_inv (sg_mono gX_ok (tabS_ok (by simp)) _ _ noY noY_mono) (fun m tm H => ∃ i : Nat, m + i = 5 ∧ tm 0 = .int .u64 w ∧ tm 2 = .pointer (some ⟨0, 0, none⟩) ∧ tm 3 = .pointer (some ⟨1, 0, none⟩) ∧ tm 5 = .int .i64 i ∧
    H = AH.of [some (.arr 90 [.bool false, .bool false, .bool false, .bool false, .bool false]), some (.arr 90 (fl w i))]) (m := 5) ⟨0, by simp [fl]⟩ (by omega) ?_
  rintro m tm H ⟨i, hm, t0, t2, t3, t5, rfl⟩
  obtain rfl | rfl | rfl | rfl | rfl | rfl : i = 0 ∨ i = 1 ∨ i = 2 ∨ i = 3 ∨ i = 4 ∨ i = 5 := by omega
  · simp (implicitDefEqProofs := false) [t0, t2, t3, t5, hb, fl, bitB, wrap_i64, bAnd_one h0 h1]
    exact ⟨m - 1, by omega, 1, by omega, by simp⟩
  · simp (implicitDefEqProofs := false) [t0, t2, t3, t5, hb, fl, bitB, wrap_i64, IntKind.bits]
    exact ⟨m - 1, by omega, 2, by omega, by simp⟩
  · simp (implicitDefEqProofs := false) [t0, t2, t3, t5, hb, fl, bitB, wrap_i64, IntKind.bits]
    exact ⟨m - 1, by omega, 3, by omega, by simp⟩
  · simp (implicitDefEqProofs := false) [t0, t2, t3, t5, hb, fl, bitB, wrap_i64, IntKind.bits]
    exact ⟨m - 1, by omega, 4, by omega, by simp⟩
  · simp (implicitDefEqProofs := false) [t0, t2, t3, t5, hb, fl, bitB, wrap_i64, IntKind.bits]
    exact ⟨m - 1, by omega, 5, by omega, by simp⟩
  · simp (implicitDefEqProofs := false) [t0, t2, t3, t5, fl]
    refine ends_plan [] [] ?_ ?_ ?_ <;> simp
def st71 : CStep GD := fun args H => match args with
  | [x] => (asU x).map fun w => (0 ≤ w ∧ w < 18446744073709551616, .ret (.agg #[.bool (bitB w 0), .bool (bitB w 1), .bool (bitB w 2), .bool (bitB w 3), .bool (bitB w 4)]), H)
  | _ => none
theorem st71_ok : CStepOk Try.prog cfg 71 st71 := by
  intro args H p r H' h hp
  unfold st71 at h
  split at h
  case h_2 => cases h
  simp only [Option.map_eq_some_iff] at h
  obtain ⟨w, hw, h⟩ := h
  cases h
  rw [asU_inv hw]
  exact (runs71 w hp.1 hp.2).atK (ro_none rfl) [] (by simp) (by simp) trivial (by simp) (by simp) (by simp)
end Ytaajajcdgaaloaa
end Go.Proofs
/-
  Lock words: split, Read, Lock, Unlock, Restore, Next of the program.
-/
set_option linter.unusedSimpArgs false
set_option linter.unusedVariables false
set_option linter.unnecessarySimpa false
set_option linter.unusedSectionVars false
namespace Go.Proofs
namespace Ytaajajcdgaaloaa
open Go.Abs
set_option linter.unusedSimpArgs false

def mkW (o v : Int) : Int := v * 32 + if o < 0 then 0 else o * 2 + 1
theorem RightW.hi {w : Int} (h : RightW w) : w < 18446744073709551616 := by have := h.ver; omega
theorem RightW.own {w : Int} (h : RightW w) : -1 ≤ wOwn w ∧ wOwn w < 4 := by
  have := h.low
  unfold wOwn
  split <;> omega
theorem mkW_self {w : Int} (h : RightW w) : mkW (wOwn w) (wVer w) = w := by
  have := h.low
  unfold mkW wOwn wVer
  split <;> split <;> omega
theorem mkW_right {o v : Int} (h : -1 ≤ o ∧ o < 4) (h0 : 0 ≤ v) (h1 : v ≤ 1099511627776) : RightW (mkW o v) := by
  unfold mkW
  constructor <;> split <;> omega
theorem mkW_own {o v : Int} (h : -1 ≤ o ∧ o < 4) : wOwn (mkW o v) = o := by
  unfold mkW wOwn
  split <;> split <;> omega
theorem mkW_ver {o v : Int} (h : -1 ≤ o ∧ o < 4) : wVer (mkW o v) = v := by
  unfold mkW wVer
  split <;> omega
theorem RightW.ver0 {w : Int} (h : RightW w) : 0 ≤ wVer w ∧ wVer w ≤ 1099511627776 := ⟨by have := h.lo; unfold wVer; omega, h.ver⟩

/-! ### may, right, word, said, Free -/
def okO (o : Int) : Bool := decide (0 ≤ o ∧ o < 4)
def acc (x1 x2 : Bool) (i : Nat) : Int := (if x1 = true ∧ 0 < i then 1 else 0) + (if x2 = true ∧ 1 < i then 2 else 0)
set_option maxHeartbeats 4000000 in
theorem split_odd (w : Int) (h : RightW w) (hl : w % 32 ≠ 0) (x1 x2 : Bool) (b1 : bitB w 1 = x1) (b2 : bitB w 2 = x2) (ho : wOwn w = acc x1 x2 4) : Runs Try.prog cfg 58 [.int .u64 w] (AH.of [])
    fun r H' => r = .ret (.tuple #[.agg #[.int .i64 (wOwn w), .int .u64 (wVer w)], .bool true]) ∧ H' = AH.of [] := by
  refine Runs.ends ?_
  have h0 := h.lo
  have h1 := h.hi
  have hv := h.ver
  have hd : w.fdiv 32 = w / 32 := Int.fdiv_eq_ediv_of_nonneg _ (by omega)
  have hlow := h.low
  have b0 : bitB w 0 = true := by simp [bitB]; omega
  have b3 : bitB w 3 = false := by simp [bitB]; omega
  have b4 : bitB w 4 = false := by simp [bitB]; omega
  have hor1 : bOr .i64 0 1 = 1 := by decide
  have hor2 : bOr .i64 0 2 = 2 := by decide
  have hor3 : bOr .i64 1 2 = 3 := by decide
  have ok : ∀ x ∈ [(71, st71)], CStepOk Try.prog cfg x.1 x.2 := by simp [st71_ok]
  refine runs_by (tbl := [(71, st71)]) ok 6 2 (af := a58) rfl ?_
  rw [a58, b58, run_eq]
  refine ⟨by simp, ?_⟩
  simp (implicitDefEqProofs := false) [st71, h0, h1, b0, b1, b2, b3, b4, hd, IntKind.bits, aggOf2, aeqA]
  refine loop_inv (sg_mono gX_ok (tabS_ok ok) _ _ noY noY_mono) (fun m tm H => ∃ i : Nat, m + i = 4 ∧ tm 2 = .pointer (some ⟨0, 0, none⟩) ∧ tm 4 = .pointer (some ⟨1, 0, none⟩) ∧ tm 5 = .pointer (some ⟨2, 0, none⟩) ∧ tm 16 = .int .i64 i ∧
    H = AH.of [some (.arr 79 [.int .i64 0, .int .u64 0]), some (.arr 90 [.bool true, .bool x1, .bool x2, .bool false, .bool false]), some (.arr 79 [.int .i64 (acc x1 x2 i), .int .u64 (w / 32)])]) (m := 4) ⟨0, by simp [acc]⟩ (by omega) ?_
  rintro m tm H ⟨i, hm, t2, t4, t5, t16, rfl⟩
  cases x1 <;> cases x2 <;> (
    obtain rfl | rfl | rfl | rfl | rfl : i = 0 ∨ i = 1 ∨ i = 2 ∨ i = 3 ∨ i = 4 := by omega
    · simp (implicitDefEqProofs := false) [t2, t4, t5, t16, wrap_i64, IntKind.bits, acc, hor1, hor2, hor3]
      exact ⟨m - 1, by omega, 1, by omega, by simp⟩
    · simp (implicitDefEqProofs := false) [t2, t4, t5, t16, wrap_i64, IntKind.bits, acc, hor1, hor2, hor3]
      exact ⟨m - 1, by omega, 2, by omega, by simp⟩
    · simp (implicitDefEqProofs := false) [t2, t4, t5, t16, wrap_i64, IntKind.bits, acc, hor1, hor2, hor3]
      exact ⟨m - 1, by omega, 3, by omega, by simp⟩
    · simp (implicitDefEqProofs := false) [t2, t4, t5, t16, wrap_i64, IntKind.bits, acc, hor1, hor2, hor3]
      exact ⟨m - 1, by omega, 4, by omega, by simp⟩
    · simp (implicitDefEqProofs := false) [t2, t4, t5, t16, wrap_i64, IntKind.bits, acc, forms72, a72, b72, forms73, a73, b73, hv]
      refine ends_plan [] [] ?_ ?_ ?_ <;> simp [wVer, ho, acc])
set_option maxHeartbeats 1000000 in
theorem runs58 (w : Int) (h : RightW w) : Runs Try.prog cfg 58 [.int .u64 w] (AH.of [])
    fun r H' => r = .ret (.tuple #[.agg #[.int .i64 (wOwn w), .int .u64 (wVer w)], .bool true]) ∧ H' = AH.of [] := by
  by_cases hl : w % 32 = 0
  · refine Runs.ends ?_
    have h0 := h.lo
    have h1 := h.hi
    have hv := h.ver
    refine runs_by (tbl := [(71, st71)]) (by simp [st71_ok]) 6 2 (af := a58) rfl ?_
    rw [a58, b58, run_eq]
    refine ⟨by simp, ?_⟩
    have hd : w.fdiv 32 = w / 32 := Int.fdiv_eq_ediv_of_nonneg _ (by omega)
    have b0 : bitB w 0 = false := by simp [bitB]; omega
    have b1 : bitB w 1 = false := by simp [bitB]; omega
    have b2 : bitB w 2 = false := by simp [bitB]; omega
    have b3 : bitB w 3 = false := by simp [bitB]; omega
    have b4 : bitB w 4 = false := by simp [bitB]; omega
    simp (implicitDefEqProofs := false) [st71, h0, h1, b0, b1, b2, b3, b4, hd, IntKind.bits, aggOf2, aeqA, forms72, a72, b72, hv]
    refine ends_plan [] [] ?_ ?_ ?_ <;> simp [wOwn, wVer, hl]
  · have hlow := h.low
    rcases (by omega : w % 32 = 1 ∨ w % 32 = 3 ∨ w % 32 = 5 ∨ w % 32 = 7) with q | q | q | q
    · exact split_odd w h hl false false (by simp [bitB]; omega) (by simp [bitB]; omega) (by simp [wOwn, acc]; omega)
    · exact split_odd w h hl true false (by simp [bitB]; omega) (by simp [bitB]; omega) (by simp [wOwn, acc]; omega)
    · exact split_odd w h hl false true (by simp [bitB]; omega) (by simp [bitB]; omega) (by simp [wOwn, acc]; omega)
    · exact split_odd w h hl true true (by simp [bitB]; omega) (by simp [bitB]; omega) (by simp [wOwn, acc]; omega)
end Ytaajajcdgaaloaa
end Go.Proofs
/-
  Lock words: Read, Lock, Unlock, Restore, Next of the program.
-/
set_option linter.unusedSimpArgs false
set_option linter.unusedVariables false
set_option linter.unnecessarySimpa false
set_option linter.unusedSectionVars false
namespace Go.Proofs
namespace Ytaajajcdgaaloaa
open Go.Abs
set_option linter.unusedSimpArgs false

def lockC (w o : Int) : Int := if ¬ (0 ≤ o ∧ o < 4) then 2 else if wOwn w = o then 6 else if wOwn w ≠ -1 then 7 else 0
def lockV (w o : Int) : Int := if lockC w o = 0 then mkW o (wVer w) else 0
def unlockC (w o v : Int) : Int := if ¬ (0 ≤ o ∧ o < 4) ∨ 1099511627776 < v then 2 else if wOwn w ≠ o ∨ v < wVer w then 8 else 0
def unlockV (w o v : Int) : Int := if unlockC w o v = 0 then mkW (-1) v else 0
def restC (w o : Int) : Int := if ¬ (0 ≤ o ∧ o < 4) then 2 else if wOwn w ≠ o then 8 else 0
def restV (w o : Int) : Int := if restC w o = 0 then mkW (-1) (wVer w) else 0
def nextC (v : Int) : Int := if 1099511627776 < v then 2 else if v = 1099511627776 then 4 else 0
def nextV (v : Int) : Int := if nextC v = 0 then v + 1 else 0

def p58 : PStep
  | [.int .u64 w] => some (RightW w, .tuple #[.agg #[.int .i64 (wOwn w), .int .u64 (wVer w)], .bool true])
  | _ => none
abbrev st58 := pureStep p58
theorem st58_ok : CStepOk Try.prog cfg 58 st58 := pure_ok fun args p v h hp => by
  unfold p58 at h
  split at h
  · cases h; exact ⟨rfl, rfl, runs58 _ hp⟩
  · cases h

theorem bOr_word {o v : Int} (ho : 0 ≤ o ∧ o < 4) (h0 : 0 ≤ v) (h1 : v ≤ 1099511627776) : bOr .u64 (v * 32) (bOr .u64 (o * 2) 1) = mkW o v := by
  have e1 : bOr .u64 (o * 2) 1 = o * 2 + 1 := by
    have := bOr_low (a := o) (b := 1) 1 ho.1 (by omega) (by decide) (by omega)
    simpa using this
  have e2 := bOr_low (a := v) (b := o * 2 + 1) 5 h0 (by omega) (by show o * 2 + 1 < 32; omega) (by show v * 32 + (o * 2 + 1) < _; omega)
  rw [e1]
  have e3 : (2 : Int) ^ 5 = 32 := by decide
  rw [e3] at e2
  rw [e2]
  unfold mkW
  rw [if_neg (by omega)]
theorem runs74 (o v : Int) (ho : -1 ≤ o ∧ o < 4) (h0 : 0 ≤ v) (h1 : v ≤ 1099511627776) : Runs Try.prog cfg 74 [.agg #[.int .i64 o, .int .u64 v]] (AH.of [])
    fun r H' => r = .ret (.int .u64 (mkW o v)) ∧ H' = AH.of [] := by
  refine Runs.ends ?_
  refine runs_by (tbl := []) (by simp) 0 0 (af := a74) rfl ?_
  rw [a74, b74, run_eq]
  refine ⟨by simp, ?_⟩
  have hw : IntKind.u64.wrap (v * 32) = v * 32 := wrap_u64 (by omega) (by omega)
  by_cases hn : o = -1
  · subst hn
    simp (implicitDefEqProofs := false) [IntKind.bits, hw]
    refine ends_plan [] [] ?_ ?_ ?_ <;> simp [mkW]
  · have ho' : 0 ≤ o ∧ o < 4 := by omega
    have hw2 : IntKind.u64.wrap o = o := wrap_u64 (by omega) (by omega)
    have hw3 : IntKind.u64.wrap (o * 2) = o * 2 := wrap_u64 (by omega) (by omega)
    simp (implicitDefEqProofs := false) [IntKind.bits, hw, hn, hw2, hw3, bOr_word ho' h0 h1]
    refine ends_plan [] [] ?_ ?_ ?_ <;> simp
def p74 : PStep
  | [.agg ⟨[.int .i64 o, .int .u64 v]⟩] => some ((-1 ≤ o ∧ o < 4) ∧ 0 ≤ v ∧ v ≤ 1099511627776, .int .u64 (mkW o v))
  | _ => none
abbrev st74 := pureStep p74
theorem st74_ok : CStepOk Try.prog cfg 74 st74 := pure_ok fun args p v h hp => by
  unfold p74 at h
  split at h
  · cases h; exact ⟨rfl, rfl, runs74 _ _ hp.1 hp.2.1 hp.2.2⟩
  · cases h

def tblW : List (FuncId × CStep GD) := [(58, st58), (74, st74)]
theorem tblW_ok : ∀ x ∈ tblW, CStepOk Try.prog cfg x.1 x.2 := by simp [tblW, st58_ok, st74_ok]

theorem runs32 (w : Int) (h : RightW w) : Runs Try.prog cfg 32 [.int .u64 w] (AH.of [])
    fun r H' => r = .ret (.tuple #[.int .i64 (wOwn w), .int .u64 (wVer w), .int .i64 0]) ∧ H' = AH.of [] := by
  refine Runs.ends ?_
  refine runs_by (tbl := tblW) tblW_ok 0 0 (af := a32) rfl ?_
  rw [a32, b32, run_eq]
  refine ⟨by simp, ?_⟩
  simp (implicitDefEqProofs := false) [tblW, pureStep, p58, h]
  refine ends_plan [] [] ?_ ?_ ?_ <;> simp

def p32 : PStep
  | [.int .u64 w] => some (RightW w, .tuple #[.int .i64 (wOwn w), .int .u64 (wVer w), .int .i64 0])
  | _ => none
abbrev st32 := pureStep p32
theorem st32_ok : CStepOk Try.prog cfg 32 st32 := pure_ok fun args p v h hp => by
  unfold p32 at h
  split at h
  · cases h; exact ⟨rfl, rfl, runs32 _ hp⟩
  · cases h

set_option maxHeartbeats 1000000 in
theorem runs35 (w o : Int) (h : RightW w) : Runs Try.prog cfg 35 [.int .u64 w, .int .i64 o] (AH.of [])
    fun r H' => r = .ret (.tuple #[.int .u64 (lockV w o), .int .i64 (lockC w o)]) ∧ H' = AH.of [] := by
  refine Runs.ends ?_
  have hv := h.ver0
  have hw := h.own
  refine runs_by (tbl := tblW) tblW_ok 0 4 (af := a35) rfl ?_
  rw [a35, b35, run_eq]
  refine ⟨by simp, ?_⟩
  simp (implicitDefEqProofs := false) [tblW, pureStep, p58, h, forms59, a59, b59, forms73, a73, b73, forms60, a60, b60, forms72, a72, b72, forms61, a61, b61, p74]
  repeat' (first | with_reducible apply And.intro | with_reducible intro _)
  all_goals first
    | omega
    | (refine ends_plan [] [] ?_ ?_ ?_ <;> simp [lockC, lockV, *] <;> omega)
def p35 : PStep
  | [.int .u64 w, .int .i64 o] => some (RightW w, .tuple #[.int .u64 (lockV w o), .int .i64 (lockC w o)])
  | _ => none
abbrev st35 := pureStep p35
theorem st35_ok : CStepOk Try.prog cfg 35 st35 := pure_ok fun args p v h hp => by
  unfold p35 at h
  split at h
  · cases h; exact ⟨rfl, rfl, runs35 _ _ hp⟩
  · cases h
set_option maxHeartbeats 1000000 in
theorem runs37 (w o v : Int) (h : RightW w) (hv0 : 0 ≤ v) : Runs Try.prog cfg 37 [.int .u64 w, .int .i64 o, .int .u64 v] (AH.of [])
    fun r H' => r = .ret (.tuple #[.int .u64 (unlockV w o v), .int .i64 (unlockC w o v)]) ∧ H' = AH.of [] := by
  refine Runs.ends ?_
  have hv := h.ver0
  have hw := h.own
  refine runs_by (tbl := tblW) tblW_ok 0 4 (af := a37) rfl ?_
  rw [a37, b37, run_eq]
  refine ⟨by simp, ?_⟩
  simp (implicitDefEqProofs := false) [tblW, pureStep, p58, h, forms59, a59, b59, forms73, a73, b73, forms60, a60, b60, forms72, a72, b72, forms61, a61, b61, p74]
  repeat' (first | with_reducible apply And.intro | with_reducible intro _)
  all_goals first
    | omega
    | (refine ends_plan [] [] ?_ ?_ ?_ <;> simp [unlockC, unlockV, *] <;> omega)
def p37 : PStep
  | [.int .u64 w, .int .i64 o, .int .u64 v] => some (RightW w ∧ 0 ≤ v, .tuple #[.int .u64 (unlockV w o v), .int .i64 (unlockC w o v)])
  | _ => none
abbrev st37 := pureStep p37
theorem st37_ok : CStepOk Try.prog cfg 37 st37 := pure_ok fun args p v h hp => by
  unfold p37 at h
  split at h
  · cases h; exact ⟨rfl, rfl, runs37 _ _ _ hp.1 hp.2⟩
  · cases h
set_option maxHeartbeats 1000000 in
theorem runs39 (w o : Int) (h : RightW w) : Runs Try.prog cfg 39 [.int .u64 w, .int .i64 o] (AH.of [])
    fun r H' => r = .ret (.tuple #[.int .u64 (restV w o), .int .i64 (restC w o)]) ∧ H' = AH.of [] := by
  refine Runs.ends ?_
  have hv := h.ver0
  have hw := h.own
  refine runs_by (tbl := tblW) tblW_ok 0 4 (af := a39) rfl ?_
  rw [a39, b39, run_eq]
  refine ⟨by simp, ?_⟩
  simp (implicitDefEqProofs := false) [tblW, pureStep, p58, h, forms59, a59, b59, forms73, a73, b73, forms60, a60, b60, forms72, a72, b72, forms61, a61, b61, p74]
  repeat' (first | with_reducible apply And.intro | with_reducible intro _)
  all_goals first
    | omega
    | (refine ends_plan [] [] ?_ ?_ ?_ <;> simp [restC, restV, *] <;> omega)
def p39 : PStep
  | [.int .u64 w, .int .i64 o] => some (RightW w, .tuple #[.int .u64 (restV w o), .int .i64 (restC w o)])
  | _ => none
abbrev st39 := pureStep p39
theorem st39_ok : CStepOk Try.prog cfg 39 st39 := pure_ok fun args p v h hp => by
  unfold p39 at h
  split at h
  · cases h; exact ⟨rfl, rfl, runs39 _ _ hp⟩
  · cases h

theorem runs70 (v : Int) (h0 : 0 ≤ v) : Runs Try.prog cfg 70 [.int .u64 v] (AH.of [])
    fun r H' => r = .ret (.tuple #[.int .u64 (nextV v), .int .i64 (nextC v)]) ∧ H' = AH.of [] := by
  refine Runs.ends ?_
  refine runs_by (tbl := []) (by simp) 0 0 (af := a70) rfl ?_
  rw [a70, b70, run_eq]
  refine ⟨by simp, ?_⟩
  have hw : v < 1099511627776 → IntKind.u64.wrap (v + 1) = v + 1 := fun h => wrap_u64 (by omega) (by omega)
  simp (implicitDefEqProofs := false)
  repeat' (first | with_reducible apply And.intro | with_reducible intro _)
  all_goals first
    | omega
    | (refine ends_plan [] [] ?_ ?_ ?_ <;> simp [nextC, nextV, *] <;> omega)
def p70 : PStep
  | [.int .u64 v] => some (0 ≤ v, .tuple #[.int .u64 (nextV v), .int .i64 (nextC v)])
  | _ => none
abbrev st70 := pureStep p70
theorem st70_ok : CStepOk Try.prog cfg 70 st70 := pure_ok fun args p v h hp => by
  unfold p70 at h
  split at h
  · cases h; exact ⟨rfl, rfl, runs70 _ hp⟩
  · cases h
end Ytaajajcdgaaloaa
end Go.Proofs
/-
  Lock words: the reference's functions.
-/
set_option linter.unusedSimpArgs false
set_option linter.unusedVariables false
set_option linter.unnecessarySimpa false
set_option linter.unusedSectionVars false
namespace Go.Proofs
namespace Ytaajajcdgaaloaa
open Go.Abs
set_option linter.unusedSimpArgs false

theorem tmod32 {w : Int} (h : 0 ≤ w) : w.tmod 32 = w % 32 := Int.tmod_eq_emod_of_nonneg h
theorem tdiv32 {w : Int} (h : 0 ≤ w) : w.tdiv 32 = w / 32 := Int.tdiv_eq_ediv_of_nonneg h
theorem runs76 (o v : Int) (h0 : 0 ≤ v) (h1 : v ≤ 1099511627776) (ho : 0 ≤ o ∧ o < 4) : Runs Try.prog cfg 76 [.int .i64 o, .int .u64 v] (AH.of [])
    fun r H' => r = .ret (.tuple #[.int .u64 (mkW o v), .int .i64 0]) ∧ H' = AH.of [] := by
  refine Runs.ends ?_
  refine runs_by (tbl := []) (by simp) 0 4 (af := a76) rfl ?_
  rw [a76, b76, run_eq]
  refine ⟨by simp, ?_⟩
  have e1 : IntKind.u64.wrap (v * 32) = v * 32 := wrap_u64 (by omega) (by omega)
  have e2 : IntKind.u64.wrap o = o := wrap_u64 (by omega) (by omega)
  have e3 : IntKind.u64.wrap (o * 2) = o * 2 := wrap_u64 (by omega) (by omega)
  have e4 : IntKind.u64.wrap (v * 32 + o * 2) = v * 32 + o * 2 := wrap_u64 (by omega) (by omega)
  have e5 : IntKind.u64.wrap (v * 32 + o * 2 + 1) = v * 32 + o * 2 + 1 := wrap_u64 (by omega) (by omega)
  simp (implicitDefEqProofs := false) [forms75, a75, b75, e1, e2, e3, e4, e5, h1]
  repeat' (first | with_reducible apply And.intro | with_reducible intro _)
  all_goals first
    | omega
    | (refine ends_plan [] [] ?_ ?_ ?_ <;> simp [mkW, *] <;> omega)
def p76 : PStep
  | [.int .i64 o, .int .u64 v] => some (0 ≤ v ∧ v ≤ 1099511627776 ∧ (0 ≤ o ∧ o < 4), .tuple #[.int .u64 (mkW o v), .int .i64 0])
  | _ => none
abbrev st76 := pureStep p76
theorem st76_ok : CStepOk Try.prog cfg 76 st76 := pure_ok fun args p v h hp => by
  unfold p76 at h
  split at h
  · cases h; exact ⟨rfl, rfl, runs76 _ _ hp.1 hp.2.1 hp.2.2⟩
  · cases h

theorem runs67 (w : Int) (h : RightW w) : Runs Try.prog cfg 67 [.int .u64 w] (AH.of [])
    fun r H' => r = .ret (.tuple #[.int .i64 (wOwn w), .int .u64 (wVer w), .int .i64 0]) ∧ H' = AH.of [] := by
  refine Runs.ends ?_
  have h0 := h.lo
  have hv := h.ver0
  have hv2 := h.ver
  have hlow := h.low
  have ok : ∀ x ∈ [(76, st76)], CStepOk Try.prog cfg x.1 x.2 := by simp [st76_ok]
  refine runs_by (tbl := [(76, st76)]) ok 5 0 (af := a67) rfl ?_
  rw [a67, b67, run_eq]
  refine ⟨by simp, ?_⟩
  have hwr : IntKind.u64.wrap (w / 32) = w / 32 := wrap_u64 (by omega) (by omega)
  simp (implicitDefEqProofs := false) [tmod32 h0, tdiv32 h0, hwr]
  refine ⟨fun hb => by omega, fun _ => ⟨fun hz => ?_, fun hz => ?_⟩⟩
  · refine ends_plan [] [] ?_ ?_ ?_ <;> simp [wOwn, wVer, hz]
  have how : wOwn w = (w % 32 - 1) / 2 := by unfold wOwn; rw [if_neg hz]
  refine loop_inv (sg_mono gX_ok (tabS_ok ok) _ _ noY noY_mono) (fun m tm H => ∃ i : Nat, m + i = 4 ∧ (i : Int) ≤ wOwn w ∧ tm 0 = .int .u64 w ∧ tm 5 = .int .u64 (w / 32) ∧ tm 6 = .int .i64 i ∧ H = AH.of []) (m := 4) ⟨0, by omega, by omega, by simp⟩ (by omega) ?_
  rintro m tm H ⟨i, hm, hi, t0, t5, t6, rfl⟩
  have hi4 : (i : Int) < 4 := by omega
  have hw := wrap_i64 (n := (i : Int) + 1) (by omega) (by omega)
  have hvv : 0 ≤ w / 32 := by omega
  simp (implicitDefEqProofs := false) [pureStep, p76, t0, t5, t6, hi4, hw, hv2, hvv]
  refine ⟨fun he => ?_, fun he => ?_⟩
  · have : wOwn w = i := by
      rw [← he]; exact mkW_own (by omega)
    refine ends_plan [] [] ?_ ?_ ?_ <;> simp [this, wVer]
  · have : (i : Int) ≠ wOwn w := fun e => he (by rw [e]; exact mkW_self h)
    exact ⟨m - 1, by omega, i + 1, by omega, by omega, by simp⟩
def p67 : PStep
  | [.int .u64 w] => some (RightW w, .tuple #[.int .i64 (wOwn w), .int .u64 (wVer w), .int .i64 0])
  | _ => none
abbrev st67 := pureStep p67
theorem st67_ok : CStepOk Try.prog cfg 67 st67 := pure_ok fun args p v h hp => by
  unfold p67 at h
  split at h
  · cases h; exact ⟨rfl, rfl, runs67 _ hp⟩
  · cases h

def tblWR : List (FuncId × CStep GD) := [(67, st67), (76, st76)]
theorem tblWR_ok : ∀ x ∈ tblWR, CStepOk Try.prog cfg x.1 x.2 := by simp [tblWR, st67_ok, st76_ok]
set_option maxHeartbeats 1000000 in
theorem runs63 (w o : Int) (h : RightW w) : Runs Try.prog cfg 63 [.int .u64 w, .int .i64 o] (AH.of [])
    fun r H' => r = .ret (.tuple #[.int .u64 (lockV w o), .int .i64 (lockC w o)]) ∧ H' = AH.of [] := by
  refine Runs.ends ?_
  have hv := h.ver0
  have hw := h.own
  refine runs_by (tbl := tblWR) tblWR_ok 0 4 (af := a63) rfl ?_
  rw [a63, b63, run_eq]
  refine ⟨by simp, ?_⟩
  simp (implicitDefEqProofs := false) [tblWR, pureStep, p67, p76, h, forms75, a75, b75, forms77, a77, b77]
  repeat' (first | with_reducible apply And.intro | with_reducible intro _)
  all_goals first
    | omega
    | (refine ends_plan [] [] ?_ ?_ ?_ <;> simp [lockC, lockV, *] <;> omega)
def p63 : PStep
  | [.int .u64 w, .int .i64 o] => some (RightW w, .tuple #[.int .u64 (lockV w o), .int .i64 (lockC w o)])
  | _ => none
abbrev st63 := pureStep p63
theorem st63_ok : CStepOk Try.prog cfg 63 st63 := pure_ok fun args p v h hp => by
  unfold p63 at h
  split at h
  · cases h; exact ⟨rfl, rfl, runs63 _ _ hp⟩
  · cases h
set_option maxHeartbeats 1000000 in
theorem runs64 (w o v : Int) (h : RightW w) (hv0 : 0 ≤ v) : Runs Try.prog cfg 64 [.int .u64 w, .int .i64 o, .int .u64 v] (AH.of [])
    fun r H' => r = .ret (.tuple #[.int .u64 (unlockV w o v), .int .i64 (unlockC w o v)]) ∧ H' = AH.of [] := by
  refine Runs.ends ?_
  have hv := h.ver0
  have hw := h.own
  have e1 : v ≤ 1099511627776 → IntKind.u64.wrap (v * 32) = v * 32 := fun h => wrap_u64 (by omega) (by omega)
  refine runs_by (tbl := tblWR) tblWR_ok 0 4 (af := a64) rfl ?_
  rw [a64, b64, run_eq]
  refine ⟨by simp, ?_⟩
  simp (implicitDefEqProofs := false) [tblWR, pureStep, p67, p76, h, forms75, a75, b75, forms77, a77, b77]
  repeat' (first | with_reducible apply And.intro | with_reducible intro _)
  all_goals first
    | omega
    | (refine ends_plan [] [] ?_ ?_ ?_ <;> simp [unlockC, unlockV, mkW, *] <;> omega)
def p64 : PStep
  | [.int .u64 w, .int .i64 o, .int .u64 v] => some (RightW w ∧ 0 ≤ v, .tuple #[.int .u64 (unlockV w o v), .int .i64 (unlockC w o v)])
  | _ => none
abbrev st64 := pureStep p64
theorem st64_ok : CStepOk Try.prog cfg 64 st64 := pure_ok fun args p v h hp => by
  unfold p64 at h
  split at h
  · cases h; exact ⟨rfl, rfl, runs64 _ _ _ hp.1 hp.2⟩
  · cases h
set_option maxHeartbeats 1000000 in
theorem runs65 (w o : Int) (h : RightW w) : Runs Try.prog cfg 65 [.int .u64 w, .int .i64 o] (AH.of [])
    fun r H' => r = .ret (.tuple #[.int .u64 (restV w o), .int .i64 (restC w o)]) ∧ H' = AH.of [] := by
  refine Runs.ends ?_
  have hv := h.ver0
  have hw := h.own
  have e1 : IntKind.u64.wrap (wVer w * 32) = wVer w * 32 := wrap_u64 (by omega) (by omega)
  refine runs_by (tbl := tblWR) tblWR_ok 0 4 (af := a65) rfl ?_
  rw [a65, b65, run_eq]
  refine ⟨by simp, ?_⟩
  simp (implicitDefEqProofs := false) [tblWR, pureStep, p67, p76, h, forms75, a75, b75, forms77, a77, b77, e1]
  repeat' (first | with_reducible apply And.intro | with_reducible intro _)
  all_goals first
    | omega
    | (refine ends_plan [] [] ?_ ?_ ?_ <;> simp [restC, restV, mkW, *] <;> omega)
def p65 : PStep
  | [.int .u64 w, .int .i64 o] => some (RightW w, .tuple #[.int .u64 (restV w o), .int .i64 (restC w o)])
  | _ => none
abbrev st65 := pureStep p65
theorem st65_ok : CStepOk Try.prog cfg 65 st65 := pure_ok fun args p v h hp => by
  unfold p65 at h
  split at h
  · cases h; exact ⟨rfl, rfl, runs65 _ _ hp⟩
  · cases h

theorem runs66 (v : Int) (h0 : 0 ≤ v) : Runs Try.prog cfg 66 [.int .u64 v] (AH.of [])
    fun r H' => r = .ret (.tuple #[.int .u64 (nextV v), .int .i64 (nextC v)]) ∧ H' = AH.of [] := by
  refine Runs.ends ?_
  refine runs_by (tbl := []) (by simp) 0 0 (af := a66) rfl ?_
  rw [a66, b66, run_eq]
  refine ⟨by simp, ?_⟩
  have hw : v < 1099511627776 → IntKind.u64.wrap (v + 1) = v + 1 := fun h => wrap_u64 (by omega) (by omega)
  simp (implicitDefEqProofs := false)
  repeat' (first | with_reducible apply And.intro | with_reducible intro _)
  all_goals first
    | omega
    | (refine ends_plan [] [] ?_ ?_ ?_ <;> simp [nextC, nextV, *] <;> omega)
def p66 : PStep
  | [.int .u64 v] => some (0 ≤ v, .tuple #[.int .u64 (nextV v), .int .i64 (nextC v)])
  | _ => none
abbrev st66 := pureStep p66
theorem st66_ok : CStepOk Try.prog cfg 66 st66 := pure_ok fun args p v h hp => by
  unfold p66 at h
  split at h
  · cases h; exact ⟨rfl, rfl, runs66 _ hp⟩
  · cases h
end Ytaajajcdgaaloaa
end Go.Proofs
/-
  STRIPES: what a table is; what its methods come to: of the program, and of the reference.
-/
set_option linter.unusedSimpArgs false
set_option linter.unusedVariables false
set_option linter.unnecessarySimpa false
set_option linter.unusedSectionVars false
namespace Go.Proofs
namespace Ytaajajcdgaaloaa
open Go.Abs
set_option linter.unusedSimpArgs false

structure GoodT (ws : List Int) (c : Int) : Prop where
  len1 : 1 ≤ ws.length
  len8 : ws.length ≤ 8
  right : ∀ w ∈ ws, RightW w ∧ wVer w ≤ c
  c0 : 0 ≤ c
  c1 : c ≤ 1099511627776
def getW (ws : List Int) (s : Int) : Int := ws.getD s.toNat 0
def inR (ws : List Int) (s : Int) : Prop := 0 ≤ s ∧ s < ws.length
instance (ws : List Int) (s : Int) : Decidable (inR ws s) := by unfold inR; infer_instance
theorem GoodT.get {ws : List Int} {c : Int} (h : GoodT ws c) {i : Nat} {w : Int} (hi : ws[i]? = some w) : RightW w ∧ wVer w ≤ c := h.right w (List.mem_of_getElem? hi)
theorem getW_at {ws : List Int} {i : Nat} {w : Int} (hi : ws[i]? = some w) : getW ws i = w := by simp [getW, hi]

def lockTC (ws : List Int) (o s : Int) : Int := if inR ws s then lockC (getW ws s) o else 2
def lockTL (ws : List Int) (o s : Int) : List Int := if lockTC ws o s = 0 then ws.set s.toNat (lockV (getW ws s) o) else ws

def unlockTC (ws : List Int) (c o s v : Int) : Int := if inR ws s then (if c < v then 2 else unlockC (getW ws s) o v) else 2
def unlockTL (ws : List Int) (c o s v : Int) : List Int := if unlockTC ws c o s v = 0 then ws.set s.toNat (unlockV (getW ws s) o v) else ws
def restTC (ws : List Int) (o s : Int) : Int := if inR ws s then restC (getW ws s) o else 2
def restTL (ws : List Int) (o s : Int) : List Int := if restTC ws o s = 0 then ws.set s.toNat (restV (getW ws s) o) else ws
def wordTV (ws : List Int) (s : Int) : Int := if inR ws s then getW ws s else 0
def wordTC (ws : List Int) (s : Int) : Int := if inR ws s then 0 else 2
def ownTV (ws : List Int) (s : Int) : Int := if inR ws s then (if 0 ≤ wOwn (getW ws s) then wOwn (getW ws s) else 0) else 0
def ownTB (ws : List Int) (s : Int) : Bool := if inR ws s then decide (0 ≤ wOwn (getW ws s)) else false
def verT (ws : List Int) (s : Int) : Int := if inR ws s then wVer (getW ws s) else 0
def tickL (c : Int) : Int := if nextC c = 0 then nextV c else c
def ofT (ws : List Int) (t : Int) : Int := if 0 ≤ t ∧ t < 12 then (t * 5 + 3) % ws.length else -1

def tblT : List (FuncId × CStep GD) := [(35, st35), (37, st37), (39, st39), (70, st70), (32, st32), (63, st63), (64, st64), (65, st65), (66, st66), (67, st67)]
theorem tblT_ok : ∀ x ∈ tblT, CStepOk Try.prog cfg x.1 x.2 := by simp [tblT, st35_ok, st37_ok, st39_ok, st70_ok, st32_ok, st63_ok, st64_ok, st65_ok, st66_ok, st67_ok]

set_option maxHeartbeats 1000000 in
theorem runs13 (ws : List Int) (c : Int) (o s : Int) (h : GoodT ws c) : Runs Try.prog cfg 13 [.pointer (some ⟨0, 0, none⟩), .int .i64 o, .int .i64 s] (AH.of [some (.hi (.tab ws c))])
    fun r H' => r = .ret (.int .i64 (lockTC ws o s)) ∧ H' = AH.of [some (.hi (.tab (lockTL ws o s) (c)))] := by
  refine Runs.ends ?_
  refine Runs.opn 0 rfl ?_
  have h0 := h.c0
  have h8 := h.len8
  refine runs_by (tbl := tblT) tblT_ok 0 4 (af := a13) rfl ?_
  rw [a13, b13, run_eq]
  refine ⟨by simp, ?_⟩
  by_cases hr : inR ws s
  · obtain ⟨i, rfl⟩ := Int.eq_ofNat_of_zero_le hr.1
    have hi : i < ws.length := by have := hr.2; omega
    obtain ⟨w, hx⟩ : ∃ w, ws[i]? = some w := ⟨ws[i], List.getElem?_eq_getElem hi⟩
    have hw := h.get hx
    have hi' : ¬ (ws.length : Int) ≤ i := by omega
    have hi2 : (i : Int) < ws.length := by omega
    have hi3 : ¬ (i : Int) < 0 := by omega
    simp (implicitDefEqProofs := false) [tblT, pureStep, p35, p37, p39, p70, p32, p63, p64, p65, p66, p67, frag_tab, forms33, a33, b33, forms31, a31, b31, forms34, a34, b34, hi, hi', hi2, hi3, us_at hx, hw.1, us_set]
    repeat' (first | with_reducible apply And.intro | with_reducible intro _)
    all_goals first
      | omega
      | (rw [us_length]; omega)
      | (refine ends_plan [.pack (GD.tab (lockTL ws o i) (c)) 0 [1]] [0] ?_ ?_ ?_ <;> simp [lockTC, lockTL, frag_tab, AObj.mine, hr, getW_at hx, *] <;> omega)
  · have hr2 : s < 0 ∨ (ws.length : Int) ≤ s := by unfold inR at hr; omega
    simp (implicitDefEqProofs := false) [tblT, frag_tab, forms33, a33, b33, forms31, a31, b31, forms34, a34, b34]
    repeat' (first | with_reducible apply And.intro | with_reducible intro _)
    all_goals first
      | omega
      | (rw [us_length]; omega)
      | (refine ends_plan [.pack (GD.tab ws c) 0 [1]] [0] ?_ ?_ ?_ <;> simp [lockTC, lockTL, frag_tab, AObj.mine, hr] <;> omega)
def st13 : CStep GD := fun args H => match args with
  | [.pointer (some ⟨k, 0, none⟩), .int .i64 o, .int .i64 s] => match H.get k with
    | some (.hi (.tab ws c)) => some (GoodT ws c, .ret (.int .i64 (lockTC ws o s)), H.upd k (.hi (.tab (lockTL ws o s) (c))))
    | _ => none
  | _ => none
theorem st13_ok : CStepOk Try.prog cfg 13 st13 := by
  intro args H p r H' h hp
  unfold st13 at h
  split at h
  case h_2 => cases h
  split at h
  case h_2 => cases h
  rename_i k o s x1 ws c hk
  cases h
  exact (runs13 ws c o s hp).atK (ro_none rfl) [k] (by simp) (by simp) (by simp [hk]) (by simp) (by simp) (by simp [upd_get hk])

set_option maxHeartbeats 1000000 in
theorem runs41 (ws : List Int) (c : Int) (o s : Int) (h : GoodT ws c) : Runs Try.prog cfg 41 [.pointer (some ⟨0, 0, none⟩), .int .i64 o, .int .i64 s] (AH.of [some (.hi (.rtab ws c))])
    fun r H' => r = .ret (.int .i64 (lockTC ws o s)) ∧ H' = AH.of [some (.hi (.rtab (lockTL ws o s) (c)))] := by
  refine Runs.ends ?_
  refine Runs.opn 0 rfl ?_
  have h0 := h.c0
  have h8 := h.len8
  refine runs_by (tbl := tblT) tblT_ok 0 4 (af := a41) rfl ?_
  rw [a41, b41, run_eq]
  refine ⟨by simp, ?_⟩
  by_cases hr : inR ws s
  · obtain ⟨i, rfl⟩ := Int.eq_ofNat_of_zero_le hr.1
    have hi : i < ws.length := by have := hr.2; omega
    obtain ⟨w, hx⟩ : ∃ w, ws[i]? = some w := ⟨ws[i], List.getElem?_eq_getElem hi⟩
    have hw := h.get hx
    have hi' : ¬ (ws.length : Int) ≤ i := by omega
    have hi2 : (i : Int) < ws.length := by omega
    have hi3 : ¬ (i : Int) < 0 := by omega
    simp (implicitDefEqProofs := false) [tblT, pureStep, p35, p37, p39, p70, p32, p63, p64, p65, p66, p67, frag_rtab, forms56, a56, b56, hi, hi', hi2, hi3, us_at hx, hw.1, us_set]
    repeat' (first | with_reducible apply And.intro | with_reducible intro _)
    all_goals first
      | omega
      | (rw [us_length]; omega)
      | (refine ends_plan [.pack (GD.rtab (lockTL ws o i) (c)) 0 [1]] [0] ?_ ?_ ?_ <;> simp [lockTC, lockTL, frag_rtab, AObj.mine, hr, getW_at hx, *] <;> omega)
  · have hr2 : s < 0 ∨ (ws.length : Int) ≤ s := by unfold inR at hr; omega
    simp (implicitDefEqProofs := false) [tblT, frag_rtab, forms56, a56, b56]
    repeat' (first | with_reducible apply And.intro | with_reducible intro _)
    all_goals first
      | omega
      | (rw [us_length]; omega)
      | (refine ends_plan [.pack (GD.rtab ws c) 0 [1]] [0] ?_ ?_ ?_ <;> simp [lockTC, lockTL, frag_rtab, AObj.mine, hr] <;> omega)
def st41 : CStep GD := fun args H => match args with
  | [.pointer (some ⟨k, 0, none⟩), .int .i64 o, .int .i64 s] => match H.get k with
    | some (.hi (.rtab ws c)) => some (GoodT ws c, .ret (.int .i64 (lockTC ws o s)), H.upd k (.hi (.rtab (lockTL ws o s) (c))))
    | _ => none
  | _ => none
theorem st41_ok : CStepOk Try.prog cfg 41 st41 := by
  intro args H p r H' h hp
  unfold st41 at h
  split at h
  case h_2 => cases h
  split at h
  case h_2 => cases h
  rename_i k o s x1 ws c hk
  cases h
  exact (runs41 ws c o s hp).atK (ro_none rfl) [k] (by simp) (by simp) (by simp [hk]) (by simp) (by simp) (by simp [upd_get hk])

set_option maxHeartbeats 1000000 in
theorem runs14 (ws : List Int) (c : Int) (o s v : Int) (h : GoodT ws c) (hv : 0 ≤ v) : Runs Try.prog cfg 14 [.pointer (some ⟨0, 0, none⟩), .int .i64 o, .int .i64 s, .int .u64 v] (AH.of [some (.hi (.tab ws c))])
    fun r H' => r = .ret (.int .i64 (unlockTC ws c o s v)) ∧ H' = AH.of [some (.hi (.tab (unlockTL ws c o s v) (c)))] := by
  refine Runs.ends ?_
  refine Runs.opn 0 rfl ?_
  have h0 := h.c0
  have h8 := h.len8
  refine runs_by (tbl := tblT) tblT_ok 0 4 (af := a14) rfl ?_
  rw [a14, b14, run_eq]
  refine ⟨by simp, ?_⟩
  by_cases hr : inR ws s
  · obtain ⟨i, rfl⟩ := Int.eq_ofNat_of_zero_le hr.1
    have hi : i < ws.length := by have := hr.2; omega
    obtain ⟨w, hx⟩ : ∃ w, ws[i]? = some w := ⟨ws[i], List.getElem?_eq_getElem hi⟩
    have hw := h.get hx
    have hi' : ¬ (ws.length : Int) ≤ i := by omega
    have hi2 : (i : Int) < ws.length := by omega
    have hi3 : ¬ (i : Int) < 0 := by omega
    by_cases hcv : c < v
    · simp (implicitDefEqProofs := false) [tblT, pureStep, p35, p37, p39, p70, p32, p63, p64, p65, p66, p67, frag_tab, forms33, a33, b33, forms31, a31, b31, forms36, a36, b36, hi, hi', hi2, hi3, us_at hx, hw.1, us_set, hv, hcv]
      repeat' (first | with_reducible apply And.intro | with_reducible intro _)
      all_goals first
        | omega
        | (rw [us_length]; omega)
        | (refine ends_plan [.pack (GD.tab (unlockTL ws c o i v) (c)) 0 [1]] [0] ?_ ?_ ?_ <;> simp [unlockTC, unlockTL, frag_tab, AObj.mine, hr, getW_at hx, *] <;> omega)
    · simp (implicitDefEqProofs := false) [tblT, pureStep, p35, p37, p39, p70, p32, p63, p64, p65, p66, p67, frag_tab, forms33, a33, b33, forms31, a31, b31, forms36, a36, b36, hi, hi', hi2, hi3, us_at hx, hw.1, us_set, hv, hcv]
      repeat' (first | with_reducible apply And.intro | with_reducible intro _)
      all_goals first
        | omega
        | (rw [us_length]; omega)
        | (refine ends_plan [.pack (GD.tab (unlockTL ws c o i v) (c)) 0 [1]] [0] ?_ ?_ ?_ <;> simp [unlockTC, unlockTL, frag_tab, AObj.mine, hr, getW_at hx, *] <;> omega)
  · have hr2 : s < 0 ∨ (ws.length : Int) ≤ s := by unfold inR at hr; omega
    simp (implicitDefEqProofs := false) [tblT, frag_tab, forms33, a33, b33, forms31, a31, b31, forms36, a36, b36]
    repeat' (first | with_reducible apply And.intro | with_reducible intro _)
    all_goals first
      | omega
      | (rw [us_length]; omega)
      | (refine ends_plan [.pack (GD.tab ws c) 0 [1]] [0] ?_ ?_ ?_ <;> simp [unlockTC, unlockTL, frag_tab, AObj.mine, hr] <;> omega)
def st14 : CStep GD := fun args H => match args with
  | [.pointer (some ⟨k, 0, none⟩), .int .i64 o, .int .i64 s, .int .u64 v] => match H.get k with
    | some (.hi (.tab ws c)) => some (GoodT ws c ∧ 0 ≤ v, .ret (.int .i64 (unlockTC ws c o s v)), H.upd k (.hi (.tab (unlockTL ws c o s v) (c))))
    | _ => none
  | _ => none
theorem st14_ok : CStepOk Try.prog cfg 14 st14 := by
  intro args H p r H' h hp
  unfold st14 at h
  split at h
  case h_2 => cases h
  split at h
  case h_2 => cases h
  rename_i k o s v x1 ws c hk
  cases h
  exact (runs14 ws c o s v hp.1 hp.2).atK (ro_none rfl) [k] (by simp) (by simp) (by simp [hk]) (by simp) (by simp) (by simp [upd_get hk])

set_option maxHeartbeats 1000000 in
theorem runs42 (ws : List Int) (c : Int) (o s v : Int) (h : GoodT ws c) (hv : 0 ≤ v) : Runs Try.prog cfg 42 [.pointer (some ⟨0, 0, none⟩), .int .i64 o, .int .i64 s, .int .u64 v] (AH.of [some (.hi (.rtab ws c))])
    fun r H' => r = .ret (.int .i64 (unlockTC ws c o s v)) ∧ H' = AH.of [some (.hi (.rtab (unlockTL ws c o s v) (c)))] := by
  refine Runs.ends ?_
  refine Runs.opn 0 rfl ?_
  have h0 := h.c0
  have h8 := h.len8
  refine runs_by (tbl := tblT) tblT_ok 0 4 (af := a42) rfl ?_
  rw [a42, b42, run_eq]
  refine ⟨by simp, ?_⟩
  by_cases hr : inR ws s
  · obtain ⟨i, rfl⟩ := Int.eq_ofNat_of_zero_le hr.1
    have hi : i < ws.length := by have := hr.2; omega
    obtain ⟨w, hx⟩ : ∃ w, ws[i]? = some w := ⟨ws[i], List.getElem?_eq_getElem hi⟩
    have hw := h.get hx
    have hi' : ¬ (ws.length : Int) ≤ i := by omega
    have hi2 : (i : Int) < ws.length := by omega
    have hi3 : ¬ (i : Int) < 0 := by omega
    by_cases hcv : c < v
    · simp (implicitDefEqProofs := false) [tblT, pureStep, p35, p37, p39, p70, p32, p63, p64, p65, p66, p67, frag_rtab, forms56, a56, b56, hi, hi', hi2, hi3, us_at hx, hw.1, us_set, hv, hcv]
      repeat' (first | with_reducible apply And.intro | with_reducible intro _)
      all_goals first
        | omega
        | (rw [us_length]; omega)
        | (refine ends_plan [.pack (GD.rtab (unlockTL ws c o i v) (c)) 0 [1]] [0] ?_ ?_ ?_ <;> simp [unlockTC, unlockTL, frag_rtab, AObj.mine, hr, getW_at hx, *] <;> omega)
    · simp (implicitDefEqProofs := false) [tblT, pureStep, p35, p37, p39, p70, p32, p63, p64, p65, p66, p67, frag_rtab, forms56, a56, b56, hi, hi', hi2, hi3, us_at hx, hw.1, us_set, hv, hcv]
      repeat' (first | with_reducible apply And.intro | with_reducible intro _)
      all_goals first
        | omega
        | (rw [us_length]; omega)
        | (refine ends_plan [.pack (GD.rtab (unlockTL ws c o i v) (c)) 0 [1]] [0] ?_ ?_ ?_ <;> simp [unlockTC, unlockTL, frag_rtab, AObj.mine, hr, getW_at hx, *] <;> omega)
  · have hr2 : s < 0 ∨ (ws.length : Int) ≤ s := by unfold inR at hr; omega
    simp (implicitDefEqProofs := false) [tblT, frag_rtab, forms56, a56, b56]
    repeat' (first | with_reducible apply And.intro | with_reducible intro _)
    all_goals first
      | omega
      | (rw [us_length]; omega)
      | (refine ends_plan [.pack (GD.rtab ws c) 0 [1]] [0] ?_ ?_ ?_ <;> simp [unlockTC, unlockTL, frag_rtab, AObj.mine, hr] <;> omega)
def st42 : CStep GD := fun args H => match args with
  | [.pointer (some ⟨k, 0, none⟩), .int .i64 o, .int .i64 s, .int .u64 v] => match H.get k with
    | some (.hi (.rtab ws c)) => some (GoodT ws c ∧ 0 ≤ v, .ret (.int .i64 (unlockTC ws c o s v)), H.upd k (.hi (.rtab (unlockTL ws c o s v) (c))))
    | _ => none
  | _ => none
theorem st42_ok : CStepOk Try.prog cfg 42 st42 := by
  intro args H p r H' h hp
  unfold st42 at h
  split at h
  case h_2 => cases h
  split at h
  case h_2 => cases h
  rename_i k o s v x1 ws c hk
  cases h
  exact (runs42 ws c o s v hp.1 hp.2).atK (ro_none rfl) [k] (by simp) (by simp) (by simp [hk]) (by simp) (by simp) (by simp [upd_get hk])

set_option maxHeartbeats 1000000 in
theorem runs15 (ws : List Int) (c : Int) (o s : Int) (h : GoodT ws c) : Runs Try.prog cfg 15 [.pointer (some ⟨0, 0, none⟩), .int .i64 o, .int .i64 s] (AH.of [some (.hi (.tab ws c))])
    fun r H' => r = .ret (.int .i64 (restTC ws o s)) ∧ H' = AH.of [some (.hi (.tab (restTL ws o s) (c)))] := by
  refine Runs.ends ?_
  refine Runs.opn 0 rfl ?_
  have h0 := h.c0
  have h8 := h.len8
  refine runs_by (tbl := tblT) tblT_ok 0 4 (af := a15) rfl ?_
  rw [a15, b15, run_eq]
  refine ⟨by simp, ?_⟩
  by_cases hr : inR ws s
  · obtain ⟨i, rfl⟩ := Int.eq_ofNat_of_zero_le hr.1
    have hi : i < ws.length := by have := hr.2; omega
    obtain ⟨w, hx⟩ : ∃ w, ws[i]? = some w := ⟨ws[i], List.getElem?_eq_getElem hi⟩
    have hw := h.get hx
    have hi' : ¬ (ws.length : Int) ≤ i := by omega
    have hi2 : (i : Int) < ws.length := by omega
    have hi3 : ¬ (i : Int) < 0 := by omega
    simp (implicitDefEqProofs := false) [tblT, pureStep, p35, p37, p39, p70, p32, p63, p64, p65, p66, p67, frag_tab, forms33, a33, b33, forms31, a31, b31, forms38, a38, b38, hi, hi', hi2, hi3, us_at hx, hw.1, us_set]
    repeat' (first | with_reducible apply And.intro | with_reducible intro _)
    all_goals first
      | omega
      | (rw [us_length]; omega)
      | (refine ends_plan [.pack (GD.tab (restTL ws o i) (c)) 0 [1]] [0] ?_ ?_ ?_ <;> simp [restTC, restTL, frag_tab, AObj.mine, hr, getW_at hx, *] <;> omega)
  · have hr2 : s < 0 ∨ (ws.length : Int) ≤ s := by unfold inR at hr; omega
    simp (implicitDefEqProofs := false) [tblT, frag_tab, forms33, a33, b33, forms31, a31, b31, forms38, a38, b38]
    repeat' (first | with_reducible apply And.intro | with_reducible intro _)
    all_goals first
      | omega
      | (rw [us_length]; omega)
      | (refine ends_plan [.pack (GD.tab ws c) 0 [1]] [0] ?_ ?_ ?_ <;> simp [restTC, restTL, frag_tab, AObj.mine, hr] <;> omega)
def st15 : CStep GD := fun args H => match args with
  | [.pointer (some ⟨k, 0, none⟩), .int .i64 o, .int .i64 s] => match H.get k with
    | some (.hi (.tab ws c)) => some (GoodT ws c, .ret (.int .i64 (restTC ws o s)), H.upd k (.hi (.tab (restTL ws o s) (c))))
    | _ => none
  | _ => none
theorem st15_ok : CStepOk Try.prog cfg 15 st15 := by
  intro args H p r H' h hp
  unfold st15 at h
  split at h
  case h_2 => cases h
  split at h
  case h_2 => cases h
  rename_i k o s x1 ws c hk
  cases h
  exact (runs15 ws c o s hp).atK (ro_none rfl) [k] (by simp) (by simp) (by simp [hk]) (by simp) (by simp) (by simp [upd_get hk])

set_option maxHeartbeats 1000000 in
theorem runs43 (ws : List Int) (c : Int) (o s : Int) (h : GoodT ws c) : Runs Try.prog cfg 43 [.pointer (some ⟨0, 0, none⟩), .int .i64 o, .int .i64 s] (AH.of [some (.hi (.rtab ws c))])
    fun r H' => r = .ret (.int .i64 (restTC ws o s)) ∧ H' = AH.of [some (.hi (.rtab (restTL ws o s) (c)))] := by
  refine Runs.ends ?_
  refine Runs.opn 0 rfl ?_
  have h0 := h.c0
  have h8 := h.len8
  refine runs_by (tbl := tblT) tblT_ok 0 4 (af := a43) rfl ?_
  rw [a43, b43, run_eq]
  refine ⟨by simp, ?_⟩
  by_cases hr : inR ws s
  · obtain ⟨i, rfl⟩ := Int.eq_ofNat_of_zero_le hr.1
    have hi : i < ws.length := by have := hr.2; omega
    obtain ⟨w, hx⟩ : ∃ w, ws[i]? = some w := ⟨ws[i], List.getElem?_eq_getElem hi⟩
    have hw := h.get hx
    have hi' : ¬ (ws.length : Int) ≤ i := by omega
    have hi2 : (i : Int) < ws.length := by omega
    have hi3 : ¬ (i : Int) < 0 := by omega
    simp (implicitDefEqProofs := false) [tblT, pureStep, p35, p37, p39, p70, p32, p63, p64, p65, p66, p67, frag_rtab, forms56, a56, b56, hi, hi', hi2, hi3, us_at hx, hw.1, us_set]
    repeat' (first | with_reducible apply And.intro | with_reducible intro _)
    all_goals first
      | omega
      | (rw [us_length]; omega)
      | (refine ends_plan [.pack (GD.rtab (restTL ws o i) (c)) 0 [1]] [0] ?_ ?_ ?_ <;> simp [restTC, restTL, frag_rtab, AObj.mine, hr, getW_at hx, *] <;> omega)
  · have hr2 : s < 0 ∨ (ws.length : Int) ≤ s := by unfold inR at hr; omega
    simp (implicitDefEqProofs := false) [tblT, frag_rtab, forms56, a56, b56]
    repeat' (first | with_reducible apply And.intro | with_reducible intro _)
    all_goals first
      | omega
      | (rw [us_length]; omega)
      | (refine ends_plan [.pack (GD.rtab ws c) 0 [1]] [0] ?_ ?_ ?_ <;> simp [restTC, restTL, frag_rtab, AObj.mine, hr] <;> omega)
def st43 : CStep GD := fun args H => match args with
  | [.pointer (some ⟨k, 0, none⟩), .int .i64 o, .int .i64 s] => match H.get k with
    | some (.hi (.rtab ws c)) => some (GoodT ws c, .ret (.int .i64 (restTC ws o s)), H.upd k (.hi (.rtab (restTL ws o s) (c))))
    | _ => none
  | _ => none
theorem st43_ok : CStepOk Try.prog cfg 43 st43 := by
  intro args H p r H' h hp
  unfold st43 at h
  split at h
  case h_2 => cases h
  split at h
  case h_2 => cases h
  rename_i k o s x1 ws c hk
  cases h
  exact (runs43 ws c o s hp).atK (ro_none rfl) [k] (by simp) (by simp) (by simp [hk]) (by simp) (by simp) (by simp [upd_get hk])

end Ytaajajcdgaaloaa
end Go.Proofs
/-
  Stripes: what is read off a table; its clock.
-/
set_option linter.unusedSimpArgs false
set_option linter.unusedVariables false
set_option linter.unnecessarySimpa false
set_option linter.unusedSectionVars false
namespace Go.Proofs
namespace Ytaajajcdgaaloaa
open Go.Abs
set_option linter.unusedSimpArgs false

set_option maxHeartbeats 1000000 in
theorem runs46 (ws : List Int) (c : Int) (s : Int) (h : GoodT ws c) : Runs Try.prog cfg 46 [.pointer (some ⟨0, 0, none⟩), .int .i64 s] (AH.of [some (.hi (.tab ws c))])
    fun r H' => r = .ret (.tuple #[.int .u64 (wordTV ws s), .int .i64 (wordTC ws s)]) ∧ H' = AH.of [some (.hi (.tab (ws) (c)))] := by
  refine Runs.ends ?_
  refine Runs.opn 0 rfl ?_
  have h0 := h.c0
  have h8 := h.len8
  refine runs_by (tbl := tblT) tblT_ok 0 4 (af := a46) rfl ?_
  rw [a46, b46, run_eq]
  refine ⟨by simp, ?_⟩
  by_cases hr : inR ws s
  · obtain ⟨i, rfl⟩ := Int.eq_ofNat_of_zero_le hr.1
    have hi : i < ws.length := by have := hr.2; omega
    obtain ⟨w, hx⟩ : ∃ w, ws[i]? = some w := ⟨ws[i], List.getElem?_eq_getElem hi⟩
    have hw := h.get hx
    have hi' : ¬ (ws.length : Int) ≤ i := by omega
    have hi2 : (i : Int) < ws.length := by omega
    have hi3 : ¬ (i : Int) < 0 := by omega
    simp (implicitDefEqProofs := false) [tblT, pureStep, p35, p37, p39, p70, p32, p63, p64, p65, p66, p67, frag_tab, forms31, a31, b31, hi, hi', hi2, hi3, us_at hx, hw.1, us_set]
    repeat' (first | with_reducible apply And.intro | with_reducible intro _)
    all_goals first
      | omega
      | (rw [us_length]; omega)
      | (refine ends_plan [.pack (GD.tab (ws) (c)) 0 [1]] [0] ?_ ?_ ?_ <;> simp [wordTV, wordTC, frag_tab, AObj.mine, hr, getW_at hx, *] <;> omega)
  · have hr2 : s < 0 ∨ (ws.length : Int) ≤ s := by unfold inR at hr; omega
    simp (implicitDefEqProofs := false) [tblT, frag_tab, forms31, a31, b31]
    repeat' (first | with_reducible apply And.intro | with_reducible intro _)
    all_goals first
      | omega
      | (rw [us_length]; omega)
      | (refine ends_plan [.pack (GD.tab ws c) 0 [1]] [0] ?_ ?_ ?_ <;> simp [wordTV, wordTC, frag_tab, AObj.mine, hr] <;> omega)
def st46 : CStep GD := fun args H => match args with
  | [.pointer (some ⟨k, 0, none⟩), .int .i64 s] => match H.get k with
    | some (.hi (.tab ws c)) => some (GoodT ws c, .ret (.tuple #[.int .u64 (wordTV ws s), .int .i64 (wordTC ws s)]), H)
    | _ => none
  | _ => none
theorem st46_ok : CStepOk Try.prog cfg 46 st46 := by
  intro args H p r H' h hp
  unfold st46 at h
  split at h
  case h_2 => cases h
  split at h
  case h_2 => cases h
  rename_i k s x1 ws c hk
  cases h
  exact (runs46 ws c s hp).atK (ro_none rfl) [k] (by simp) (by simp) (by simp [hk]) (by simp) (by simp) (by simp [upd_get hk])

set_option maxHeartbeats 1000000 in
theorem runs47 (ws : List Int) (c : Int) (s : Int) (h : GoodT ws c) : Runs Try.prog cfg 47 [.pointer (some ⟨0, 0, none⟩), .int .i64 s] (AH.of [some (.hi (.rtab ws c))])
    fun r H' => r = .ret (.tuple #[.int .u64 (wordTV ws s), .int .i64 (wordTC ws s)]) ∧ H' = AH.of [some (.hi (.rtab (ws) (c)))] := by
  refine Runs.ends ?_
  refine Runs.opn 0 rfl ?_
  have h0 := h.c0
  have h8 := h.len8
  refine runs_by (tbl := tblT) tblT_ok 0 4 (af := a47) rfl ?_
  rw [a47, b47, run_eq]
  refine ⟨by simp, ?_⟩
  by_cases hr : inR ws s
  · obtain ⟨i, rfl⟩ := Int.eq_ofNat_of_zero_le hr.1
    have hi : i < ws.length := by have := hr.2; omega
    obtain ⟨w, hx⟩ : ∃ w, ws[i]? = some w := ⟨ws[i], List.getElem?_eq_getElem hi⟩
    have hw := h.get hx
    have hi' : ¬ (ws.length : Int) ≤ i := by omega
    have hi2 : (i : Int) < ws.length := by omega
    have hi3 : ¬ (i : Int) < 0 := by omega
    simp (implicitDefEqProofs := false) [tblT, pureStep, p35, p37, p39, p70, p32, p63, p64, p65, p66, p67, frag_rtab, forms56, a56, b56, hi, hi', hi2, hi3, us_at hx, hw.1, us_set]
    repeat' (first | with_reducible apply And.intro | with_reducible intro _)
    all_goals first
      | omega
      | (rw [us_length]; omega)
      | (refine ends_plan [.pack (GD.rtab (ws) (c)) 0 [1]] [0] ?_ ?_ ?_ <;> simp [wordTV, wordTC, frag_rtab, AObj.mine, hr, getW_at hx, *] <;> omega)
  · have hr2 : s < 0 ∨ (ws.length : Int) ≤ s := by unfold inR at hr; omega
    simp (implicitDefEqProofs := false) [tblT, frag_rtab, forms56, a56, b56]
    repeat' (first | with_reducible apply And.intro | with_reducible intro _)
    all_goals first
      | omega
      | (rw [us_length]; omega)
      | (refine ends_plan [.pack (GD.rtab ws c) 0 [1]] [0] ?_ ?_ ?_ <;> simp [wordTV, wordTC, frag_rtab, AObj.mine, hr] <;> omega)
def st47 : CStep GD := fun args H => match args with
  | [.pointer (some ⟨k, 0, none⟩), .int .i64 s] => match H.get k with
    | some (.hi (.rtab ws c)) => some (GoodT ws c, .ret (.tuple #[.int .u64 (wordTV ws s), .int .i64 (wordTC ws s)]), H)
    | _ => none
  | _ => none
theorem st47_ok : CStepOk Try.prog cfg 47 st47 := by
  intro args H p r H' h hp
  unfold st47 at h
  split at h
  case h_2 => cases h
  split at h
  case h_2 => cases h
  rename_i k s x1 ws c hk
  cases h
  exact (runs47 ws c s hp).atK (ro_none rfl) [k] (by simp) (by simp) (by simp [hk]) (by simp) (by simp) (by simp [upd_get hk])

set_option maxHeartbeats 1000000 in
theorem runs12 (ws : List Int) (c : Int) (s : Int) (h : GoodT ws c) : Runs Try.prog cfg 12 [.pointer (some ⟨0, 0, none⟩), .int .i64 s] (AH.of [some (.hi (.tab ws c))])
    fun r H' => r = .ret (.tuple #[.int .i64 (ownTV ws s), .bool (ownTB ws s)]) ∧ H' = AH.of [some (.hi (.tab (ws) (c)))] := by
  refine Runs.ends ?_
  refine Runs.opn 0 rfl ?_
  have h0 := h.c0
  have h8 := h.len8
  refine runs_by (tbl := tblT) tblT_ok 0 4 (af := a12) rfl ?_
  rw [a12, b12, run_eq]
  refine ⟨by simp, ?_⟩
  by_cases hr : inR ws s
  · obtain ⟨i, rfl⟩ := Int.eq_ofNat_of_zero_le hr.1
    have hi : i < ws.length := by have := hr.2; omega
    obtain ⟨w, hx⟩ : ∃ w, ws[i]? = some w := ⟨ws[i], List.getElem?_eq_getElem hi⟩
    have hw := h.get hx
    have hi' : ¬ (ws.length : Int) ≤ i := by omega
    have hi2 : (i : Int) < ws.length := by omega
    have hi3 : ¬ (i : Int) < 0 := by omega
    simp (implicitDefEqProofs := false) [tblT, pureStep, p35, p37, p39, p70, p32, p63, p64, p65, p66, p67, frag_tab, forms31, a31, b31, hi, hi', hi2, hi3, us_at hx, hw.1, us_set]
    repeat' (first | with_reducible apply And.intro | with_reducible intro _)
    all_goals first
      | omega
      | (rw [us_length]; omega)
      | (refine ends_plan [.pack (GD.tab (ws) (c)) 0 [1]] [0] ?_ ?_ ?_ <;> simp [ownTV, ownTB, frag_tab, AObj.mine, hr, getW_at hx, *] <;> omega)
  · have hr2 : s < 0 ∨ (ws.length : Int) ≤ s := by unfold inR at hr; omega
    simp (implicitDefEqProofs := false) [tblT, frag_tab, forms31, a31, b31]
    repeat' (first | with_reducible apply And.intro | with_reducible intro _)
    all_goals first
      | omega
      | (rw [us_length]; omega)
      | (refine ends_plan [.pack (GD.tab ws c) 0 [1]] [0] ?_ ?_ ?_ <;> simp [ownTV, ownTB, frag_tab, AObj.mine, hr] <;> omega)
def st12 : CStep GD := fun args H => match args with
  | [.pointer (some ⟨k, 0, none⟩), .int .i64 s] => match H.get k with
    | some (.hi (.tab ws c)) => some (GoodT ws c, .ret (.tuple #[.int .i64 (ownTV ws s), .bool (ownTB ws s)]), H)
    | _ => none
  | _ => none
theorem st12_ok : CStepOk Try.prog cfg 12 st12 := by
  intro args H p r H' h hp
  unfold st12 at h
  split at h
  case h_2 => cases h
  split at h
  case h_2 => cases h
  rename_i k s x1 ws c hk
  cases h
  exact (runs12 ws c s hp).atK (ro_none rfl) [k] (by simp) (by simp) (by simp [hk]) (by simp) (by simp) (by simp [upd_get hk])

set_option maxHeartbeats 1000000 in
theorem runs48 (ws : List Int) (c : Int) (s : Int) (h : GoodT ws c) : Runs Try.prog cfg 48 [.pointer (some ⟨0, 0, none⟩), .int .i64 s] (AH.of [some (.hi (.rtab ws c))])
    fun r H' => r = .ret (.tuple #[.int .i64 (ownTV ws s), .bool (ownTB ws s)]) ∧ H' = AH.of [some (.hi (.rtab (ws) (c)))] := by
  refine Runs.ends ?_
  refine Runs.opn 0 rfl ?_
  have h0 := h.c0
  have h8 := h.len8
  refine runs_by (tbl := tblT) tblT_ok 0 4 (af := a48) rfl ?_
  rw [a48, b48, run_eq]
  refine ⟨by simp, ?_⟩
  by_cases hr : inR ws s
  · obtain ⟨i, rfl⟩ := Int.eq_ofNat_of_zero_le hr.1
    have hi : i < ws.length := by have := hr.2; omega
    obtain ⟨w, hx⟩ : ∃ w, ws[i]? = some w := ⟨ws[i], List.getElem?_eq_getElem hi⟩
    have hw := h.get hx
    have hi' : ¬ (ws.length : Int) ≤ i := by omega
    have hi2 : (i : Int) < ws.length := by omega
    have hi3 : ¬ (i : Int) < 0 := by omega
    simp (implicitDefEqProofs := false) [tblT, pureStep, p35, p37, p39, p70, p32, p63, p64, p65, p66, p67, frag_rtab, forms56, a56, b56, hi, hi', hi2, hi3, us_at hx, hw.1, us_set]
    repeat' (first | with_reducible apply And.intro | with_reducible intro _)
    all_goals first
      | omega
      | (rw [us_length]; omega)
      | (refine ends_plan [.pack (GD.rtab (ws) (c)) 0 [1]] [0] ?_ ?_ ?_ <;> simp [ownTV, ownTB, frag_rtab, AObj.mine, hr, getW_at hx, *] <;> omega)
  · have hr2 : s < 0 ∨ (ws.length : Int) ≤ s := by unfold inR at hr; omega
    simp (implicitDefEqProofs := false) [tblT, frag_rtab, forms56, a56, b56]
    repeat' (first | with_reducible apply And.intro | with_reducible intro _)
    all_goals first
      | omega
      | (rw [us_length]; omega)
      | (refine ends_plan [.pack (GD.rtab ws c) 0 [1]] [0] ?_ ?_ ?_ <;> simp [ownTV, ownTB, frag_rtab, AObj.mine, hr] <;> omega)
def st48 : CStep GD := fun args H => match args with
  | [.pointer (some ⟨k, 0, none⟩), .int .i64 s] => match H.get k with
    | some (.hi (.rtab ws c)) => some (GoodT ws c, .ret (.tuple #[.int .i64 (ownTV ws s), .bool (ownTB ws s)]), H)
    | _ => none
  | _ => none
theorem st48_ok : CStepOk Try.prog cfg 48 st48 := by
  intro args H p r H' h hp
  unfold st48 at h
  split at h
  case h_2 => cases h
  split at h
  case h_2 => cases h
  rename_i k s x1 ws c hk
  cases h
  exact (runs48 ws c s hp).atK (ro_none rfl) [k] (by simp) (by simp) (by simp [hk]) (by simp) (by simp) (by simp [upd_get hk])

set_option maxHeartbeats 1000000 in
theorem runs11 (ws : List Int) (c : Int) (s : Int) (h : GoodT ws c) : Runs Try.prog cfg 11 [.pointer (some ⟨0, 0, none⟩), .int .i64 s] (AH.of [some (.hi (.tab ws c))])
    fun r H' => r = .ret (.int .u64 (verT ws s)) ∧ H' = AH.of [some (.hi (.tab (ws) (c)))] := by
  refine Runs.ends ?_
  refine Runs.opn 0 rfl ?_
  have h0 := h.c0
  have h8 := h.len8
  refine runs_by (tbl := tblT) tblT_ok 0 4 (af := a11) rfl ?_
  rw [a11, b11, run_eq]
  refine ⟨by simp, ?_⟩
  by_cases hr : inR ws s
  · obtain ⟨i, rfl⟩ := Int.eq_ofNat_of_zero_le hr.1
    have hi : i < ws.length := by have := hr.2; omega
    obtain ⟨w, hx⟩ : ∃ w, ws[i]? = some w := ⟨ws[i], List.getElem?_eq_getElem hi⟩
    have hw := h.get hx
    have hi' : ¬ (ws.length : Int) ≤ i := by omega
    have hi2 : (i : Int) < ws.length := by omega
    have hi3 : ¬ (i : Int) < 0 := by omega
    simp (implicitDefEqProofs := false) [tblT, pureStep, p35, p37, p39, p70, p32, p63, p64, p65, p66, p67, frag_tab, forms31, a31, b31, hi, hi', hi2, hi3, us_at hx, hw.1, us_set]
    repeat' (first | with_reducible apply And.intro | with_reducible intro _)
    all_goals first
      | omega
      | (rw [us_length]; omega)
      | (refine ends_plan [.pack (GD.tab (ws) (c)) 0 [1]] [0] ?_ ?_ ?_ <;> simp [verT, frag_tab, AObj.mine, hr, getW_at hx, *] <;> omega)
  · have hr2 : s < 0 ∨ (ws.length : Int) ≤ s := by unfold inR at hr; omega
    simp (implicitDefEqProofs := false) [tblT, frag_tab, forms31, a31, b31]
    repeat' (first | with_reducible apply And.intro | with_reducible intro _)
    all_goals first
      | omega
      | (rw [us_length]; omega)
      | (refine ends_plan [.pack (GD.tab ws c) 0 [1]] [0] ?_ ?_ ?_ <;> simp [verT, frag_tab, AObj.mine, hr] <;> omega)
def st11 : CStep GD := fun args H => match args with
  | [.pointer (some ⟨k, 0, none⟩), .int .i64 s] => match H.get k with
    | some (.hi (.tab ws c)) => some (GoodT ws c, .ret (.int .u64 (verT ws s)), H)
    | _ => none
  | _ => none
theorem st11_ok : CStepOk Try.prog cfg 11 st11 := by
  intro args H p r H' h hp
  unfold st11 at h
  split at h
  case h_2 => cases h
  split at h
  case h_2 => cases h
  rename_i k s x1 ws c hk
  cases h
  exact (runs11 ws c s hp).atK (ro_none rfl) [k] (by simp) (by simp) (by simp [hk]) (by simp) (by simp) (by simp [upd_get hk])

set_option maxHeartbeats 1000000 in
theorem runs49 (ws : List Int) (c : Int) (s : Int) (h : GoodT ws c) : Runs Try.prog cfg 49 [.pointer (some ⟨0, 0, none⟩), .int .i64 s] (AH.of [some (.hi (.rtab ws c))])
    fun r H' => r = .ret (.int .u64 (verT ws s)) ∧ H' = AH.of [some (.hi (.rtab (ws) (c)))] := by
  refine Runs.ends ?_
  refine Runs.opn 0 rfl ?_
  have h0 := h.c0
  have h8 := h.len8
  refine runs_by (tbl := tblT) tblT_ok 0 4 (af := a49) rfl ?_
  rw [a49, b49, run_eq]
  refine ⟨by simp, ?_⟩
  by_cases hr : inR ws s
  · obtain ⟨i, rfl⟩ := Int.eq_ofNat_of_zero_le hr.1
    have hi : i < ws.length := by have := hr.2; omega
    obtain ⟨w, hx⟩ : ∃ w, ws[i]? = some w := ⟨ws[i], List.getElem?_eq_getElem hi⟩
    have hw := h.get hx
    have hi' : ¬ (ws.length : Int) ≤ i := by omega
    have hi2 : (i : Int) < ws.length := by omega
    have hi3 : ¬ (i : Int) < 0 := by omega
    simp (implicitDefEqProofs := false) [tblT, pureStep, p35, p37, p39, p70, p32, p63, p64, p65, p66, p67, frag_rtab, forms56, a56, b56, hi, hi', hi2, hi3, us_at hx, hw.1, us_set]
    repeat' (first | with_reducible apply And.intro | with_reducible intro _)
    all_goals first
      | omega
      | (rw [us_length]; omega)
      | (refine ends_plan [.pack (GD.rtab (ws) (c)) 0 [1]] [0] ?_ ?_ ?_ <;> simp [verT, frag_rtab, AObj.mine, hr, getW_at hx, *] <;> omega)
  · have hr2 : s < 0 ∨ (ws.length : Int) ≤ s := by unfold inR at hr; omega
    simp (implicitDefEqProofs := false) [tblT, frag_rtab, forms56, a56, b56]
    repeat' (first | with_reducible apply And.intro | with_reducible intro _)
    all_goals first
      | omega
      | (rw [us_length]; omega)
      | (refine ends_plan [.pack (GD.rtab ws c) 0 [1]] [0] ?_ ?_ ?_ <;> simp [verT, frag_rtab, AObj.mine, hr] <;> omega)
def st49 : CStep GD := fun args H => match args with
  | [.pointer (some ⟨k, 0, none⟩), .int .i64 s] => match H.get k with
    | some (.hi (.rtab ws c)) => some (GoodT ws c, .ret (.int .u64 (verT ws s)), H)
    | _ => none
  | _ => none
theorem st49_ok : CStepOk Try.prog cfg 49 st49 := by
  intro args H p r H' h hp
  unfold st49 at h
  split at h
  case h_2 => cases h
  split at h
  case h_2 => cases h
  rename_i k s x1 ws c hk
  cases h
  exact (runs49 ws c s hp).atK (ro_none rfl) [k] (by simp) (by simp) (by simp [hk]) (by simp) (by simp) (by simp [upd_get hk])

set_option maxHeartbeats 1000000 in
theorem runs30 (ws : List Int) (c : Int) (h : GoodT ws c) : Runs Try.prog cfg 30 [.pointer (some ⟨0, 0, none⟩)] (AH.of [some (.hi (.tab ws c))])
    fun r H' => r = .ret (.tuple #[.int .u64 (nextV c), .int .i64 (nextC c)]) ∧ H' = AH.of [some (.hi (.tab (ws) (tickL c)))] := by
  refine Runs.ends ?_
  refine Runs.opn 0 rfl ?_
  have h0 := h.c0
  have h8 := h.len8
  refine runs_by (tbl := tblT) tblT_ok 0 4 (af := a30) rfl ?_
  rw [a30, b30, run_eq]
  refine ⟨by simp, ?_⟩
  simp (implicitDefEqProofs := false) [tblT, pureStep, p35, p37, p39, p70, p32, p63, p64, p65, p66, p67, frag_tab, forms57, a57, b57, h0]
  repeat' (first | with_reducible apply And.intro | with_reducible intro _)
  all_goals first
    | omega
    | (rw [us_length]; omega)
    | (refine ends_plan [.pack (GD.tab (ws) (tickL c)) 0 [1]] [0] ?_ ?_ ?_ <;> simp [tickL, nextV, frag_tab, AObj.mine, *] <;> omega)
def st30 : CStep GD := fun args H => match args with
  | [.pointer (some ⟨k, 0, none⟩)] => match H.get k with
    | some (.hi (.tab ws c)) => some (GoodT ws c, .ret (.tuple #[.int .u64 (nextV c), .int .i64 (nextC c)]), H.upd k (.hi (.tab (ws) (tickL c))))
    | _ => none
  | _ => none
theorem st30_ok : CStepOk Try.prog cfg 30 st30 := by
  intro args H p r H' h hp
  unfold st30 at h
  split at h
  case h_2 => cases h
  split at h
  case h_2 => cases h
  rename_i k x1 ws c hk
  cases h
  exact (runs30 ws c hp).atK (ro_none rfl) [k] (by simp) (by simp) (by simp [hk]) (by simp) (by simp) (by simp [upd_get hk])

set_option maxHeartbeats 1000000 in
theorem runs45 (ws : List Int) (c : Int) (h : GoodT ws c) : Runs Try.prog cfg 45 [.pointer (some ⟨0, 0, none⟩)] (AH.of [some (.hi (.rtab ws c))])
    fun r H' => r = .ret (.tuple #[.int .u64 (nextV c), .int .i64 (nextC c)]) ∧ H' = AH.of [some (.hi (.rtab (ws) (tickL c)))] := by
  refine Runs.ends ?_
  refine Runs.opn 0 rfl ?_
  have h0 := h.c0
  have h8 := h.len8
  refine runs_by (tbl := tblT) tblT_ok 0 4 (af := a45) rfl ?_
  rw [a45, b45, run_eq]
  refine ⟨by simp, ?_⟩
  simp (implicitDefEqProofs := false) [tblT, pureStep, p35, p37, p39, p70, p32, p63, p64, p65, p66, p67, frag_rtab, h0]
  repeat' (first | with_reducible apply And.intro | with_reducible intro _)
  all_goals first
    | omega
    | (rw [us_length]; omega)
    | (refine ends_plan [.pack (GD.rtab (ws) (tickL c)) 0 [1]] [0] ?_ ?_ ?_ <;> simp [tickL, nextV, frag_rtab, AObj.mine, *] <;> omega)
def st45 : CStep GD := fun args H => match args with
  | [.pointer (some ⟨k, 0, none⟩)] => match H.get k with
    | some (.hi (.rtab ws c)) => some (GoodT ws c, .ret (.tuple #[.int .u64 (nextV c), .int .i64 (nextC c)]), H.upd k (.hi (.rtab (ws) (tickL c))))
    | _ => none
  | _ => none
theorem st45_ok : CStepOk Try.prog cfg 45 st45 := by
  intro args H p r H' h hp
  unfold st45 at h
  split at h
  case h_2 => cases h
  split at h
  case h_2 => cases h
  rename_i k x1 ws c hk
  cases h
  exact (runs45 ws c hp).atK (ro_none rfl) [k] (by simp) (by simp) (by simp [hk]) (by simp) (by simp) (by simp [upd_get hk])

set_option maxHeartbeats 1000000 in
theorem runs19 (ws : List Int) (c : Int) (h : GoodT ws c) : Runs Try.prog cfg 19 [.pointer (some ⟨0, 0, none⟩)] (AH.of [some (.hi (.tab ws c))])
    fun r H' => r = .ret (.int .u64 c) ∧ H' = AH.of [some (.hi (.tab (ws) (c)))] := by
  refine Runs.ends ?_
  refine Runs.opn 0 rfl ?_
  have h0 := h.c0
  have h8 := h.len8
  refine runs_by (tbl := tblT) tblT_ok 0 4 (af := a19) rfl ?_
  rw [a19, b19, run_eq]
  refine ⟨by simp, ?_⟩
  simp (implicitDefEqProofs := false) [tblT, pureStep, p35, p37, p39, p70, p32, p63, p64, p65, p66, p67, frag_tab, h0]
  repeat' (first | with_reducible apply And.intro | with_reducible intro _)
  all_goals first
    | omega
    | (rw [us_length]; omega)
    | (refine ends_plan [.pack (GD.tab (ws) (c)) 0 [1]] [0] ?_ ?_ ?_ <;> simp [frag_tab, AObj.mine, *] <;> omega)
def st19 : CStep GD := fun args H => match args with
  | [.pointer (some ⟨k, 0, none⟩)] => match H.get k with
    | some (.hi (.tab ws c)) => some (GoodT ws c, .ret (.int .u64 c), H)
    | _ => none
  | _ => none
theorem st19_ok : CStepOk Try.prog cfg 19 st19 := by
  intro args H p r H' h hp
  unfold st19 at h
  split at h
  case h_2 => cases h
  split at h
  case h_2 => cases h
  rename_i k x1 ws c hk
  cases h
  exact (runs19 ws c hp).atK (ro_none rfl) [k] (by simp) (by simp) (by simp [hk]) (by simp) (by simp) (by simp [upd_get hk])

set_option maxHeartbeats 1000000 in
theorem runs51 (ws : List Int) (c : Int) (h : GoodT ws c) : Runs Try.prog cfg 51 [.pointer (some ⟨0, 0, none⟩)] (AH.of [some (.hi (.rtab ws c))])
    fun r H' => r = .ret (.int .u64 c) ∧ H' = AH.of [some (.hi (.rtab (ws) (c)))] := by
  refine Runs.ends ?_
  refine Runs.opn 0 rfl ?_
  have h0 := h.c0
  have h8 := h.len8
  refine runs_by (tbl := tblT) tblT_ok 0 4 (af := a51) rfl ?_
  rw [a51, b51, run_eq]
  refine ⟨by simp, ?_⟩
  simp (implicitDefEqProofs := false) [tblT, pureStep, p35, p37, p39, p70, p32, p63, p64, p65, p66, p67, frag_rtab, h0]
  repeat' (first | with_reducible apply And.intro | with_reducible intro _)
  all_goals first
    | omega
    | (rw [us_length]; omega)
    | (refine ends_plan [.pack (GD.rtab (ws) (c)) 0 [1]] [0] ?_ ?_ ?_ <;> simp [frag_rtab, AObj.mine, *] <;> omega)
def st51 : CStep GD := fun args H => match args with
  | [.pointer (some ⟨k, 0, none⟩)] => match H.get k with
    | some (.hi (.rtab ws c)) => some (GoodT ws c, .ret (.int .u64 c), H)
    | _ => none
  | _ => none
theorem st51_ok : CStepOk Try.prog cfg 51 st51 := by
  intro args H p r H' h hp
  unfold st51 at h
  split at h
  case h_2 => cases h
  split at h
  case h_2 => cases h
  rename_i k x1 ws c hk
  cases h
  exact (runs51 ws c hp).atK (ro_none rfl) [k] (by simp) (by simp) (by simp [hk]) (by simp) (by simp) (by simp [upd_get hk])

set_option maxHeartbeats 1000000 in
theorem runs10 (ws : List Int) (c : Int) (h : GoodT ws c) : Runs Try.prog cfg 10 [.pointer (some ⟨0, 0, none⟩)] (AH.of [some (.hi (.tab ws c))])
    fun r H' => r = .ret (.int .i64 ws.length) ∧ H' = AH.of [some (.hi (.tab (ws) (c)))] := by
  refine Runs.ends ?_
  refine Runs.opn 0 rfl ?_
  have h0 := h.c0
  have h8 := h.len8
  refine runs_by (tbl := tblT) tblT_ok 0 4 (af := a10) rfl ?_
  rw [a10, b10, run_eq]
  refine ⟨by simp, ?_⟩
  simp (implicitDefEqProofs := false) [tblT, pureStep, p35, p37, p39, p70, p32, p63, p64, p65, p66, p67, frag_tab, h0]
  repeat' (first | with_reducible apply And.intro | with_reducible intro _)
  all_goals first
    | omega
    | (rw [us_length]; omega)
    | (refine ends_plan [.pack (GD.tab (ws) (c)) 0 [1]] [0] ?_ ?_ ?_ <;> simp [frag_tab, AObj.mine, *] <;> omega)
def st10 : CStep GD := fun args H => match args with
  | [.pointer (some ⟨k, 0, none⟩)] => match H.get k with
    | some (.hi (.tab ws c)) => some (GoodT ws c, .ret (.int .i64 ws.length), H)
    | _ => none
  | _ => none
theorem st10_ok : CStepOk Try.prog cfg 10 st10 := by
  intro args H p r H' h hp
  unfold st10 at h
  split at h
  case h_2 => cases h
  split at h
  case h_2 => cases h
  rename_i k x1 ws c hk
  cases h
  exact (runs10 ws c hp).atK (ro_none rfl) [k] (by simp) (by simp) (by simp [hk]) (by simp) (by simp) (by simp [upd_get hk])

set_option maxHeartbeats 1000000 in
theorem runs52 (ws : List Int) (c : Int) (h : GoodT ws c) : Runs Try.prog cfg 52 [.pointer (some ⟨0, 0, none⟩)] (AH.of [some (.hi (.rtab ws c))])
    fun r H' => r = .ret (.int .i64 ws.length) ∧ H' = AH.of [some (.hi (.rtab (ws) (c)))] := by
  refine Runs.ends ?_
  refine Runs.opn 0 rfl ?_
  have h0 := h.c0
  have h8 := h.len8
  refine runs_by (tbl := tblT) tblT_ok 0 4 (af := a52) rfl ?_
  rw [a52, b52, run_eq]
  refine ⟨by simp, ?_⟩
  simp (implicitDefEqProofs := false) [tblT, pureStep, p35, p37, p39, p70, p32, p63, p64, p65, p66, p67, frag_rtab, h0]
  repeat' (first | with_reducible apply And.intro | with_reducible intro _)
  all_goals first
    | omega
    | (rw [us_length]; omega)
    | (refine ends_plan [.pack (GD.rtab (ws) (c)) 0 [1]] [0] ?_ ?_ ?_ <;> simp [frag_rtab, AObj.mine, *] <;> omega)
def st52 : CStep GD := fun args H => match args with
  | [.pointer (some ⟨k, 0, none⟩)] => match H.get k with
    | some (.hi (.rtab ws c)) => some (GoodT ws c, .ret (.int .i64 ws.length), H)
    | _ => none
  | _ => none
theorem st52_ok : CStepOk Try.prog cfg 52 st52 := by
  intro args H p r H' h hp
  unfold st52 at h
  split at h
  case h_2 => cases h
  split at h
  case h_2 => cases h
  rename_i k x1 ws c hk
  cases h
  exact (runs52 ws c hp).atK (ro_none rfl) [k] (by simp) (by simp) (by simp [hk]) (by simp) (by simp) (by simp [upd_get hk])

end Ytaajajcdgaaloaa
end Go.Proofs
/-
  Stripes: a table stays right; New, Of, Fork.
-/
set_option linter.unusedSimpArgs false
set_option linter.unusedVariables false
set_option linter.unnecessarySimpa false
set_option linter.unusedSectionVars false
namespace Go.Proofs
namespace Ytaajajcdgaaloaa
open Go.Abs
set_option linter.unusedSimpArgs false

theorem lockV_right {w o c : Int} (h : RightW w ∧ wVer w ≤ c) (hc : lockC w o = 0) : RightW (lockV w o) ∧ wVer (lockV w o) ≤ c := by
  have hv := h.1.ver0
  have ho : -1 ≤ o ∧ o < 4 := by
    unfold lockC at hc
    by_cases h1 : ¬ (0 ≤ o ∧ o < 4)
    · rw [if_pos h1] at hc; cases hc
    · omega
  unfold lockV
  rw [if_pos hc, mkW_ver ho]
  exact ⟨mkW_right ho hv.1 hv.2, h.2⟩
theorem unlockV_right {w o v c : Int} (h : RightW w ∧ wVer w ≤ c) (hv : 0 ≤ v) (hvc : v ≤ c) (hc : unlockC w o v = 0) : RightW (unlockV w o v) ∧ wVer (unlockV w o v) ≤ c := by
  have h2 : v ≤ 1099511627776 := by
    unfold unlockC at hc
    by_cases h1 : ¬ (0 ≤ o ∧ o < 4) ∨ 1099511627776 < v
    · rw [if_pos h1] at hc; cases hc
    · omega
  unfold unlockV
  rw [if_pos hc, mkW_ver (by omega)]
  exact ⟨mkW_right (by omega) hv h2, hvc⟩
theorem restV_right {w o c : Int} (h : RightW w ∧ wVer w ≤ c) (hc : restC w o = 0) : RightW (restV w o) ∧ wVer (restV w o) ≤ c := by
  have hv := h.1.ver0
  unfold restV
  rw [if_pos hc, mkW_ver (by omega)]
  exact ⟨mkW_right (by omega) hv.1 hv.2, h.2⟩
theorem GoodT.set {ws : List Int} {c : Int} (h : GoodT ws c) (i : Nat) {v : Int} (hv : RightW v ∧ wVer v ≤ c) : GoodT (ws.set i v) c := by
  refine ⟨by simpa using h.len1, by simpa using h.len8, fun w hw => ?_, h.c0, h.c1⟩
  rcases List.mem_or_eq_of_mem_set hw with h1 | h1
  · exact h.right w h1
  · rw [h1]; exact hv
theorem GoodT.getW {ws : List Int} {c : Int} (h : GoodT ws c) {s : Int} (hs : inR ws s) : RightW (getW ws s) ∧ wVer (getW ws s) ≤ c := by
  obtain ⟨i, rfl⟩ := Int.eq_ofNat_of_zero_le hs.1
  have hi : i < ws.length := by have := hs.2; omega
  rw [getW_at (List.getElem?_eq_getElem hi)]
  exact h.get (List.getElem?_eq_getElem hi)
theorem GoodT.lock {ws : List Int} {c : Int} (h : GoodT ws c) (o s : Int) : GoodT (lockTL ws o s) c := by
  unfold lockTL
  split
  · rename_i hc
    unfold lockTC at hc
    split at hc
    · exact h.set _ (lockV_right (h.getW (by assumption)) hc)
    · cases hc
  · exact h
theorem GoodT.unlock {ws : List Int} {c : Int} (h : GoodT ws c) (o s : Int) {v : Int} (hv : 0 ≤ v) : GoodT (unlockTL ws c o s v) c := by
  unfold unlockTL
  split
  · rename_i hc
    unfold unlockTC at hc
    split at hc
    · split at hc
      · cases hc
      · exact h.set _ (unlockV_right (h.getW (by assumption)) hv (by omega) hc)
    · cases hc
  · exact h
theorem GoodT.rest {ws : List Int} {c : Int} (h : GoodT ws c) (o s : Int) : GoodT (restTL ws o s) c := by
  unfold restTL
  split
  · rename_i hc
    unfold restTC at hc
    split at hc
    · exact h.set _ (restV_right (h.getW (by assumption)) hc)
    · cases hc
  · exact h
theorem tickL_eq {c : Int} (h : c ≤ 1099511627776) : tickL c = if c < 1099511627776 then c + 1 else c := by
  simp only [tickL, nextV, nextC]
  (repeat' split) <;> omega
theorem tickL_le {c : Int} (h : c ≤ 1099511627776) : c ≤ tickL c := by
  rw [tickL_eq h]; split <;> omega
theorem GoodT.tick {ws : List Int} {c : Int} (h : GoodT ws c) : GoodT ws (tickL c) := by
  refine ⟨h.len1, h.len8, fun w hw => ⟨(h.right w hw).1, Int.le_trans (h.right w hw).2 (tickL_le h.c1)⟩, Int.le_trans h.c0 (tickL_le h.c1), ?_⟩
  have := h.c1
  rw [tickL_eq h.c1]; split <;> omega

/-! ### New -/
def newL (n : Nat) : List Int := List.replicate n 0
theorem right0 : RightW 0 := ⟨by omega, by decide, .inl (by decide)⟩
theorem GoodT.new {n : Nat} (h1 : 1 ≤ n) (h8 : n ≤ 8) : GoodT (newL n) 0 := by
  refine ⟨by simpa [newL] using h1, by simpa [newL] using h8, fun w hw => ?_, by omega, by omega⟩
  rw [List.eq_of_mem_replicate hw]
  exact ⟨right0, by decide⟩
theorem us_new (n : Nat) : us (newL n) = List.replicate n (.int .u64 0) := by simp [us, newL]

theorem runs29 (n : Nat) (h1 : 1 ≤ n) (h8 : n ≤ 8) : Runs Try.prog cfg 29 [.int .i64 n] (AH.of [])
    fun r H' => r = .ret (.pointer (some ⟨0, 0, none⟩)) ∧ H' = AH.of [some (.hi (.tab (newL n) 0))] := by
  refine Runs.ends ?_
  refine runs_by (tbl := []) (by simp) 0 0 (af := a29) rfl ?_
  rw [a29, b29, run_eq]
  refine ⟨by simp, ?_⟩
  have e1 : ¬ (n : Int) < 1 := by omega
  have e2 : ¬ 8 < (n : Int) := by omega
  simp (implicitDefEqProofs := false) [e1, e2]
  rw [← us_new]
  have hn : (newL n).length = n := by simp [newL]
  refine ⟨by omega, ends_plan [.pack (GD.tab (newL n) 0) 1 [0]] [1] ?_ ?_ ?_⟩ <;> simp [frag_tab, AObj.mine, hn]
def st29 : CStep GD := fun args H => match args with
  | [.int .i64 n] => some (1 ≤ n ∧ n ≤ 8, .ret (.pointer (some ⟨H.next, 0, none⟩)), H.add (.hi (.tab (newL n.toNat) 0)))
  | _ => none
theorem st29_ok : CStepOk Try.prog cfg 29 st29 := by
  intro args H p r H' h hp
  unfold st29 at h
  split at h
  case h_2 => cases h
  rename_i n
  cases h
  have e : n = (n.toNat : Int) := by omega
  have := runs29 n.toNat (by omega) (by omega)
  rw [← e] at this
  exact this.atK (ro_none rfl) [] (by simp) (by simp) trivial (by simp) (by simp) (by simp [AObj.ren])
theorem runs18 (n : Nat) (h1 : 1 ≤ n) (h8 : n ≤ 8) : Runs Try.prog cfg 18 [.int .i64 n] (AH.of [])
    fun r H' => r = .ret (.pointer (some ⟨0, 0, none⟩)) ∧ H' = AH.of [some (.hi (.rtab (newL n) 0))] := by
  refine Runs.ends ?_
  refine runs_by (tbl := []) (by simp) 0 0 (af := a18) rfl ?_
  rw [a18, b18, run_eq]
  refine ⟨by simp, ?_⟩
  have e1 : ¬ (n : Int) < 1 := by omega
  have e2 : ¬ 8 < (n : Int) := by omega
  simp (implicitDefEqProofs := false) [e1, e2]
  rw [← us_new]
  have hn : (newL n).length = n := by simp [newL]
  refine ⟨by omega, ends_plan [.pack (GD.rtab (newL n) 0) 1 [0]] [1] ?_ ?_ ?_⟩ <;> simp [frag_rtab, AObj.mine, hn]
def st18 : CStep GD := fun args H => match args with
  | [.int .i64 n] => some (1 ≤ n ∧ n ≤ 8, .ret (.pointer (some ⟨H.next, 0, none⟩)), H.add (.hi (.rtab (newL n.toNat) 0)))
  | _ => none
theorem st18_ok : CStepOk Try.prog cfg 18 st18 := by
  intro args H p r H' h hp
  unfold st18 at h
  split at h
  case h_2 => cases h
  rename_i n
  cases h
  have e : n = (n.toNat : Int) := by omega
  have := runs18 n.toNat (by omega) (by omega)
  rw [← e] at this
  exact this.atK (ro_none rfl) [] (by simp) (by simp) trivial (by simp) (by simp) (by simp [AObj.ren])

/-! ### Of -/
theorem ofT_lt {ws : List Int} {c t : Int} (h : GoodT ws c) (ht : 0 ≤ t ∧ t < 12) : 0 ≤ ofT ws t ∧ ofT ws t < ws.length := by
  have := h.len1
  unfold ofT
  rw [if_pos ht]
  exact ⟨Int.emod_nonneg _ (by omega), Int.emod_lt_of_pos _ (by omega)⟩
theorem runs24 (ws : List Int) (c t : Int) (h : GoodT ws c) : Runs Try.prog cfg 24 [.pointer (some ⟨0, 0, none⟩), .int .i64 t] (AH.of [some (.hi (.tab ws c))])
    fun r H' => r = .ret (.int .i64 (ofT ws t)) ∧ H' = AH.of [some (.hi (.tab ws c))] := by
  refine Runs.ends ?_
  have h1 := h.len1
  have h8 := h.len8
  refine runs_by (tbl := []) (by simp) 0 0 (af := a24) rfl ?_
  rw [a24, b24, run_eq]
  refine ⟨by simp, ?_⟩
  by_cases ht : 0 ≤ t ∧ t < 12
  · have e1 : ¬ t < 0 := by omega
    have e2 : ¬ 12 ≤ t := by omega
    have e3 : IntKind.i64.wrap (t * 5) = t * 5 := wrap_i64 (by omega) (by omega)
    have e4 : IntKind.i64.wrap (t * 5 + 3) = t * 5 + 3 := wrap_i64 (by omega) (by omega)
    have e5 : ¬ (ws.length : Int) = 0 := by omega
    have e6 : (t * 5 + 3).tmod ws.length = (t * 5 + 3) % ws.length := Int.tmod_eq_emod_of_nonneg (by omega)
    have e7 : ws ≠ [] := by intro e; rw [e] at h1; simp at h1
    simp (implicitDefEqProofs := false) [frag_tab, e1, e2, e3, e4, e5, e6, e7]
    refine ends_plan [.pack (GD.tab ws c) 0 [1]] [0] ?_ ?_ ?_ <;> simp [frag_tab, AObj.mine, ofT, ht]
  · simp (implicitDefEqProofs := false)
    repeat' (first | with_reducible apply And.intro | with_reducible intro _)
    all_goals first
      | omega
      | (refine ends_plan [] [0] ?_ ?_ ?_ <;> simp [ofT, ht])
def st24 : CStep GD := fun args H => match args with
  | [.pointer (some ⟨k, 0, none⟩), .int .i64 t] => match H.get k with
    | some (.hi (.tab ws c)) => some (GoodT ws c, .ret (.int .i64 (ofT ws t)), H)
    | _ => none
  | _ => none
theorem st24_ok : CStepOk Try.prog cfg 24 st24 := by
  intro args H p r H' h hp
  unfold st24 at h
  split at h
  case h_2 => cases h
  split at h
  case h_2 => cases h
  rename_i k t x1 ws c hk
  cases h
  exact (runs24 ws c t hp).atK (ro_none rfl) [k] (by simp) (by simp) (by simp [hk]) (by simp) (by simp) (by simp [upd_get hk])
theorem runs25 (ws : List Int) (c t : Int) (h : GoodT ws c) : Runs Try.prog cfg 25 [.pointer (some ⟨0, 0, none⟩), .int .i64 t] (AH.of [some (.hi (.rtab ws c))])
    fun r H' => r = .ret (.int .i64 (ofT ws t)) ∧ H' = AH.of [some (.hi (.rtab ws c))] := by
  refine Runs.ends ?_
  have h1 := h.len1
  have h8 := h.len8
  refine runs_by (tbl := []) (by simp) 0 0 (af := a25) rfl ?_
  rw [a25, b25, run_eq]
  refine ⟨by simp, ?_⟩
  by_cases ht : 0 ≤ t ∧ t < 12
  · have e1 : ¬ t < 0 := by omega
    have e2 : ¬ 12 ≤ t := by omega
    have e3 : IntKind.i64.wrap (t * 5) = t * 5 := wrap_i64 (by omega) (by omega)
    have e4 : IntKind.i64.wrap (t * 5 + 3) = t * 5 + 3 := wrap_i64 (by omega) (by omega)
    have e5 : ¬ (ws.length : Int) = 0 := by omega
    have e6 : (t * 5 + 3).tmod ws.length = (t * 5 + 3) % ws.length := Int.tmod_eq_emod_of_nonneg (by omega)
    have e7 : ws ≠ [] := by intro e; rw [e] at h1; simp at h1
    simp (implicitDefEqProofs := false) [frag_rtab, e1, e2, e3, e4, e5, e6, e7]
    refine ends_plan [.pack (GD.rtab ws c) 0 [1]] [0] ?_ ?_ ?_ <;> simp [frag_rtab, AObj.mine, ofT, ht]
  · simp (implicitDefEqProofs := false)
    repeat' (first | with_reducible apply And.intro | with_reducible intro _)
    all_goals first
      | omega
      | (refine ends_plan [] [0] ?_ ?_ ?_ <;> simp [ofT, ht])
def st25 : CStep GD := fun args H => match args with
  | [.pointer (some ⟨k, 0, none⟩), .int .i64 t] => match H.get k with
    | some (.hi (.rtab ws c)) => some (GoodT ws c, .ret (.int .i64 (ofT ws t)), H)
    | _ => none
  | _ => none
theorem st25_ok : CStepOk Try.prog cfg 25 st25 := by
  intro args H p r H' h hp
  unfold st25 at h
  split at h
  case h_2 => cases h
  split at h
  case h_2 => cases h
  rename_i k t x1 ws c hk
  cases h
  exact (runs25 ws c t hp).atK (ro_none rfl) [k] (by simp) (by simp) (by simp [hk]) (by simp) (by simp) (by simp [upd_get hk])
end Ytaajajcdgaaloaa
end Go.Proofs
/-
  Stripes: what an owner holds.
-/
set_option linter.unusedSimpArgs false
set_option linter.unusedVariables false
set_option linter.unnecessarySimpa false
set_option linter.unusedSectionVars false
namespace Go.Proofs
namespace Ytaajajcdgaaloaa
open Go.Abs
set_option linter.unusedSimpArgs false

def isH (ws : List Int) (o : Int) (i : Nat) : Bool := decide (ownTB ws i = true ∧ ownTV ws i = o)
def heldN (ws : List Int) (o : Int) (n : Nat) : List Int := ((List.range n).filter (isH ws o)).map fun i : Nat => (i : Int)
def heldL (ws : List Int) (o : Int) : List Int := heldN ws o ws.length
theorem heldN_succ (ws : List Int) (o : Int) (n : Nat) : heldN ws o (n + 1) = heldN ws o n ++ (if isH ws o n then [(n : Int)] else []) := by
  unfold heldN
  rw [List.range_succ, List.filter_append, List.map_append]
  by_cases h : isH ws o n <;> simp [h]
theorem heldN_le (ws : List Int) (o : Int) (n : Nat) : (heldN ws o n).length ≤ n := by
  unfold heldN
  rw [List.length_map]
  have := List.length_filter_le (isH ws o) (List.range n)
  simpa using this
theorem isH_at {ws : List Int} {o : Int} {i : Nat} {w : Int} (hi : ws[i]? = some w) : isH ws o i = decide (wOwn w = o ∧ 0 ≤ o) := by
  have hl : i < ws.length := by
    rcases Nat.lt_or_ge i ws.length with h | h
    · exact h
    · rw [List.getElem?_eq_none h] at hi; cases hi
  have hr : inR ws i := ⟨by omega, by omega⟩
  unfold isH ownTB ownTV
  rw [if_pos hr, if_pos hr, getW_at hi]
  by_cases h : 0 ≤ wOwn w
  · simp [h]; intro e; omega
  · simp [h]; intro e; omega

set_option maxHeartbeats 2000000 in
theorem runs16 (ws : List Int) (c o : Int) (h : GoodT ws c) : Runs Try.prog cfg 16 [.pointer (some ⟨0, 0, none⟩), .int .i64 o] (AH.of [some (.hi (.tab ws c))])
    fun r H' => r = .ret (.slice (some ⟨1, 0, none⟩) (heldL ws o).length 1) ∧ H' = AH.of [some (.hi (.tab ws c)), some (.arr 3 (ints (heldL ws o)))] := by
  refine Runs.ends ?_
  refine Runs.opn 0 rfl ?_
  have h8 := h.len8
  refine runs_by (tbl := tblT) tblT_ok 10 3 (af := a16) rfl ?_
  rw [a16, b16, run_eq]
  refine ⟨by simp, ?_⟩
  simp (implicitDefEqProofs := false) [tblT, frag_tab, forms40, a40, b40, forms62, a62, b62]
  intro r
  refine loop_view (sg_mono gX_ok (tabS_ok tblT_ok) _ _ _ (yldX_mono (sg_mono gX_ok (tabS_ok tblT_ok) _ _ noY noY_mono))) (fun m tm H => ∃ i : Nat, m + i = ws.length ∧ tm 0 = .func (.yield 5) #[] #[] ∧ tm 2 = .pointer (some ⟨4, 0, none⟩) ∧ tm 14 = .slice (some ⟨1, 0, none⟩) ws.length 1 ∧ tm 15 = .int .i64 ws.length ∧ tm 16 = .int .i64 i ∧
    H = AH.of [some (.arr 62 [.int .u64 c, .slice (some ⟨1, 0, none⟩) ws.length 1]), some (.arr 29 (us ws)), some (.hi (.vints (heldN ws o i))), some (.arr 23 [.pointer (some ⟨0, 0, none⟩)]), some (.arr 3 [.int .i64 o]), some (.loopr r 0 none)]) (m := ws.length) ?_ (by omega) ?_
  · refine round_plan [.nil 3, .pack (GD.vints []) 2 [6]] [0, 1, 2, 3, 4, 5] [some (.arr 62 [.int .u64 c, .slice (some ⟨1, 0, none⟩) ws.length 1]), some (.arr 29 (us ws)), some (.hi (.vints [])), some (.arr 23 [.pointer (some ⟨0, 0, none⟩)]), some (.arr 3 [.int .i64 o]), some (.loopr r 0 none)] ws.length (by omega) ?_ ?_ ⟨0, ?_⟩ <;> simp [heldN, frag_vints, AObj.mine, ints]
    done
  rintro m tm H ⟨i, hm, t0, t2, t14, t15, t16, rfl⟩
  have hle := heldN_le ws o i
  by_cases hi : i < ws.length
  · obtain ⟨w, hx⟩ : ∃ w, ws[i]? = some w := ⟨ws[i], List.getElem?_eq_getElem hi⟩
    have hw := (h.get hx).1
    have hi' : (i : Int) < ws.length := by omega
    have hwr := inc_i64 hi (by omega)
    have hr3 : ((heldN ws o i).length + 1) * 8 ≤ 140737488355328 ∧ (heldN ws o i).length ≤ 9223372036854775806 := by omega
    have htk := take_ints (heldN ws o i)
    have hsuc := heldN_succ ws o i
    rw [isH_at hx] at hsuc
    by_cases hp : wOwn w = o ∧ 0 ≤ o
    · have hp1 := hp.1
      have hp2 := hp.2
      simp (implicitDefEqProofs := false) [tblT, pureStep, p32, t0, t2, t14, t15, t16, hi, hi', us_at hx, hw, hwr, hp1, hp2, frag_vints, hr3, htk]
      refine round_plan [.pack (GD.vints (heldN ws o (i + 1))) 2 [8]] [0, 1, 2, 3, 4, 5] [some (.arr 62 [.int .u64 c, .slice (some ⟨1, 0, none⟩) ws.length 1]), some (.arr 29 (us ws)), some (.hi (.vints (heldN ws o (i + 1)))), some (.arr 23 [.pointer (some ⟨0, 0, none⟩)]), some (.arr 3 [.int .i64 o]), some (.loopr r 0 none)] (m - 1) (by omega) ?_ ?_ ⟨i + 1, by omega, ?_⟩ <;> simp [t0, t2, t14, t15, t16, frag_vints, AObj.mine, hsuc, hp, ints_append, ints_single]
    · have hp' : wOwn w = o → ¬ 0 ≤ o := fun e h => hp ⟨e, h⟩
      simp (implicitDefEqProofs := false) [tblT, pureStep, p32, t0, t2, t14, t15, t16, hi, hi', us_at hx, hw, hwr, frag_vints]
      repeat' (first | with_reducible apply And.intro | with_reducible intro _)
      all_goals first
        | omega
        | (refine round_plan [] [0, 1, 2, 3, 4, 5] [some (.arr 62 [.int .u64 c, .slice (some ⟨1, 0, none⟩) ws.length 1]), some (.arr 29 (us ws)), some (.hi (.vints (heldN ws o (i + 1)))), some (.arr 23 [.pointer (some ⟨0, 0, none⟩)]), some (.arr 3 [.int .i64 o]), some (.loopr r 0 none)] (m - 1) (by omega) ?_ ?_ ⟨i + 1, by omega, ?_⟩ <;> simp [t0, t2, t14, t15, t16, hsuc, hp]; done)
  · have hi' : ¬ (i : Int) < ws.length := by omega
    have hil : i = ws.length := by omega
    simp (implicitDefEqProofs := false) [t0, t2, t14, t15, t16, hi', frag_vints]
    refine ends_plan [.pack (GD.tab ws c) 0 [1]] [0, 6] ?_ ?_ ?_ <;> simp [frag_tab, AObj.mine, heldL, hil]
def st16 : CStep GD := fun args H => match args with
  | [.pointer (some ⟨k, 0, none⟩), .int .i64 o] => match H.get k with
    | some (.hi (.tab ws c)) => some (GoodT ws c, .ret (.slice (some ⟨H.next, 0, none⟩) (heldL ws o).length 1), H.add (.arr 3 (ints (heldL ws o))))
    | _ => none
  | _ => none
theorem st16_ok : CStepOk Try.prog cfg 16 st16 := by
  intro args H p r H' h hp
  unfold st16 at h
  split at h
  case h_2 => cases h
  split at h
  case h_2 => cases h
  rename_i k o x1 ws c hk
  cases h
  exact (runs16 ws c o hp).atK (ro_none rfl) [k] (by simp) (by simp) (by simp [hk]) (by simp) (by simp) (by simp [upd_get hk, AObj.ren])

end Ytaajajcdgaaloaa
end Go.Proofs
/-
  Stripes: may, Held of the reference; Drop.
-/
set_option linter.unusedSimpArgs false
set_option linter.unusedVariables false
set_option linter.unnecessarySimpa false
set_option linter.unusedSectionVars false
namespace Go.Proofs
namespace Ytaajajcdgaaloaa
open Go.Abs
set_option linter.unusedSimpArgs false

def mayC (ws : List Int) (s : Int) : Int := if inR ws s then 0 else 2
theorem runs56 (ws : List Int) (c s : Int) (h : GoodT ws c) : Runs Try.prog cfg 56 [.pointer (some ⟨0, 0, none⟩), .int .i64 s] (AH.of [some (.hi (.rtab ws c))])
    fun r H' => r = .ret (.int .i64 (mayC ws s)) ∧ H' = AH.of [some (.hi (.rtab ws c))] := by
  refine Runs.ends ?_
  refine runs_by (tbl := []) (by simp) 0 0 (af := a56) rfl ?_
  rw [a56, b56, run_eq]
  refine ⟨by simp, ?_⟩
  simp (implicitDefEqProofs := false) [frag_rtab]
  repeat' (first | with_reducible apply And.intro | with_reducible intro _)
  all_goals first
    | (refine ends_plan [] [0] ?_ ?_ ?_ <;> simp [mayC, inR, *] <;> omega)
    | (refine ends_plan [.pack (GD.rtab ws c) 0 [1]] [0] ?_ ?_ ?_ <;> simp [frag_rtab, AObj.mine, mayC, inR, *] <;> omega)
def st56 : CStep GD := fun args H => match args with
  | [.pointer (some ⟨k, 0, none⟩), .int .i64 s] => match H.get k with
    | some (.hi (.rtab ws c)) => some (GoodT ws c, .ret (.int .i64 (mayC ws s)), H)
    | _ => none
  | _ => none
theorem st56_ok : CStepOk Try.prog cfg 56 st56 := by
  intro args H p r H' h hp
  unfold st56 at h
  split at h
  case h_2 => cases h
  split at h
  case h_2 => cases h
  rename_i k s x1 ws c hk
  cases h
  exact (runs56 ws c s hp).atK (ro_none rfl) [k] (by simp) (by simp) (by simp [hk]) (by simp) (by simp) (by simp [upd_get hk])
theorem mayC_in {ws : List Int} {i : Nat} (h : i < ws.length) : mayC ws i = 0 := by
  unfold mayC
  rw [if_pos (show inR ws i from ⟨by omega, by omega⟩)]
theorem mayC_out {ws : List Int} {i : Nat} (h : ¬ i < ws.length) : mayC ws i = 2 := by
  unfold mayC
  rw [if_neg (fun hr : inR ws i => by have := hr.2; omega)]

def tblH : List (FuncId × CStep GD) := [(56, st56), (48, st48), (43, st43), (15, st15), (16, st16)]
theorem tblH_ok : ∀ x ∈ tblH, CStepOk Try.prog cfg x.1 x.2 := by simp [tblH, st56_ok, st48_ok, st43_ok, st15_ok, st16_ok]

set_option maxHeartbeats 1000000 in
theorem runs50 (ws : List Int) (c o : Int) (h : GoodT ws c) : Runs Try.prog cfg 50 [.pointer (some ⟨0, 0, none⟩), .int .i64 o] (AH.of [some (.hi (.rtab ws c))])
    fun r H' => r = .ret (.slice (some ⟨1, 0, none⟩) (heldL ws o).length 1) ∧ H' = AH.of [some (.hi (.rtab ws c)), some (.arr 3 (ints (heldL ws o)))] := by
  refine Runs.ends ?_
  have h8 := h.len8
  refine runs_by (tbl := tblH) tblH_ok 10 0 (af := a50) rfl ?_
  rw [a50, b50, run_eq]
  refine ⟨by simp, ?_⟩
  simp (implicitDefEqProofs := false)
  refine loop_view (sg_mono gX_ok (tabS_ok tblH_ok) _ _ noY noY_mono) (fun m tm H => ∃ i : Nat, m + i = ws.length ∧ tm 0 = .pointer (some ⟨0, 0, none⟩) ∧ tm 1 = .int .i64 o ∧ tm 5 = .slice (some ⟨1, 0, none⟩) (heldN ws o i).length 1 ∧ tm 6 = .int .i64 i ∧
    H = AH.of [some (.hi (.rtab ws c)), some (.arr 3 (ints (heldN ws o i)))]) (m := ws.length) ?_ (by omega) ?_
  · refine round_wk [.nil 3] [0, 1] [some (.hi (.rtab ws c)), some (.arr 3 (ints []))] [(5, .slice (some ⟨1, 0, none⟩) 0 1)] ws.length (by omega) ?_ ?_ ?_ ⟨0, ?_⟩ <;> simp [heldN, ints]
    done
  rintro m tm H ⟨i, hm, t0, t1, t5, t6, rfl⟩
  have hle := heldN_le ws o i
  by_cases hi : i < ws.length
  · have hmay := mayC_in hi
    have hwr := inc_i64 hi (by omega)
    have hr3 : ((heldN ws o i).length + 1) * 8 ≤ 140737488355328 ∧ (heldN ws o i).length ≤ 9223372036854775806 := by omega
    have htk := take_ints (heldN ws o i)
    have hsuc := heldN_succ ws o i
    by_cases hp : ownTB ws i = true ∧ ownTV ws i = o
    · have hq : isH ws o i = true := by simp [isH, hp.1, hp.2]
      have hp1 := hp.1
      have hp2 := hp.2
      simp (implicitDefEqProofs := false) [tblH, st56, st48, h, hmay, t0, t1, t5, t6, hp1, hp2, hwr, hr3, htk]
      refine round_plan [] [0, 3] [some (.hi (.rtab ws c)), some (.arr 3 (ints (heldN ws o (i + 1))))] (m - 1) (by omega) ?_ ?_ ⟨i + 1, by omega, ?_⟩ <;> simp [t0, t1, t5, t6, hsuc, hq, ints_append, ints_single]
    · have hq : isH ws o i = false := by simp [isH]; intro e e2; exact hp ⟨e, e2⟩
      simp (implicitDefEqProofs := false) [tblH, st56, st48, h, hmay, t0, t1, t5, t6, hwr]
      repeat' (first | with_reducible apply And.intro | with_reducible intro _)
      all_goals first
        | (exfalso; simp_all; done)
        | (refine round_plan [] [0, 1] [some (.hi (.rtab ws c)), some (.arr 3 (ints (heldN ws o (i + 1))))] (m - 1) (by omega) ?_ ?_ ⟨i + 1, by omega, ?_⟩ <;> simp [t0, t1, t5, t6, hsuc, hq]; done)
  · have hmay := mayC_out hi
    have hil : i = ws.length := by omega
    simp (implicitDefEqProofs := false) [tblH, st56, h, hmay, t0, t1, t5, t6]
    refine ends_plan [] [0, 1] ?_ ?_ ?_ <;> simp [heldL, hil]
def st50 : CStep GD := fun args H => match args with
  | [.pointer (some ⟨k, 0, none⟩), .int .i64 o] => match H.get k with
    | some (.hi (.rtab ws c)) => some (GoodT ws c, .ret (.slice (some ⟨H.next, 0, none⟩) (heldL ws o).length 1), H.add (.arr 3 (ints (heldL ws o))))
    | _ => none
  | _ => none
theorem st50_ok : CStepOk Try.prog cfg 50 st50 := by
  intro args H p r H' h hp
  unfold st50 at h
  split at h
  case h_2 => cases h
  split at h
  case h_2 => cases h
  rename_i k o x1 ws c hk
  cases h
  exact (runs50 ws c o hp).atK (ro_none rfl) [k] (by simp) (by simp) (by simp [hk]) (by simp) (by simp) (by simp [upd_get hk, AObj.ren])

/-! ### Drop -/
theorem isH_eq (ws : List Int) (o : Int) (i : Nat) : isH ws o i = match ws[i]? with
    | some w => decide (wOwn w = o ∧ 0 ≤ o)
    | none => false := by
  cases hx : ws[i]? with
  | some w => exact isH_at hx
  | none =>
    have : ¬ inR ws i := fun hr => by
      have hl := hr.2
      rw [List.getElem?_eq_getElem (by omega)] at hx; cases hx
    simp [isH, ownTB, this]
theorem restTC_held {ws : List Int} {c o : Int} (h : GoodT ws c) (i : Nat) : (restTC ws o i = 0) ↔ isH ws o i = true := by
  rw [isH_eq]
  unfold restTC restC
  cases hx : ws[i]? with
  | some w =>
    have hl : i < ws.length := by
      rcases Nat.lt_or_ge i ws.length with h | h
      · exact h
      · rw [List.getElem?_eq_none h] at hx; cases hx
    have hr : inR ws i := ⟨by omega, by omega⟩
    have ho := (h.get hx).1.own
    rw [if_pos hr, getW_at hx]
    simp only [decide_eq_true_eq]
    (repeat' split) <;> omega
  | none =>
    have : ¬ inR ws i := fun hr => by
      have hl := hr.2
      rw [List.getElem?_eq_getElem (by omega)] at hx; cases hx
    rw [if_neg this]
    simp
theorem restTL_not {ws : List Int} {c o : Int} (h : GoodT ws c) {i : Nat} (hn : isH ws o i = false) : restTL ws o i = ws := by
  unfold restTL
  rw [if_neg]
  intro e
  rw [(restTC_held h i).1 e] at hn; cases hn
theorem restTL_length (ws : List Int) (o s : Int) : (restTL ws o s).length = ws.length := by
  unfold restTL; split <;> simp
theorem isH_rest (ws : List Int) (o : Int) {i j : Nat} (hij : i ≠ j) : isH (restTL ws o i) o j = isH ws o j := by
  rw [isH_eq, isH_eq]
  have e : (restTL ws o i)[j]? = ws[j]? := by
    unfold restTL
    split
    · rw [Int.toNat_natCast, List.getElem?_set_ne hij]
    · rfl
  rw [e]
def restF (o : Int) (l : List Nat) (ws : List Int) : List Int := l.foldl (fun ws (i : Nat) => restTL ws o i) ws
def restAll (ws : List Int) (o : Int) (n : Nat) : List Int := restF o (List.range n) ws
def dropL (ws : List Int) (o : Int) : List Int := restAll ws o ws.length
theorem restAll_succ (ws : List Int) (o : Int) (n : Nat) : restAll ws o (n + 1) = restTL (restAll ws o n) o n := by
  simp [restAll, restF, List.range_succ, List.foldl_append]
theorem restF_good {ws : List Int} {c : Int} (h : GoodT ws c) (o : Int) (l : List Nat) : GoodT (restF o l ws) c := by
  induction l generalizing ws with
  | nil => exact h
  | cons i l ih => exact ih (h.rest o i)
theorem restF_length (o : Int) (l : List Nat) (ws : List Int) : (restF o l ws).length = ws.length := by
  induction l generalizing ws with
  | nil => rfl
  | cons i l ih => exact (ih _).trans (restTL_length _ _ _)
theorem restF_isH (o : Int) {j : Nat} : ∀ (l : List Nat) (ws : List Int), j ∉ l → isH (restF o l ws) o j = isH ws o j
  | [], _, _ => rfl
  | i :: l, ws, h => by
    simp only [List.mem_cons, not_or] at h
    show isH (restF o l (restTL ws o i)) o j = _
    rw [restF_isH o l _ h.2, isH_rest _ _ (Ne.symm h.1)]
theorem restF_filter (o c : Int) : ∀ (l : List Nat) (ws : List Int), GoodT ws c → l.Nodup → restF o (l.filter (isH ws o)) ws = restF o l ws
  | [], _, _, _ => rfl
  | i :: l, ws, h, hn => by
    rw [List.nodup_cons] at hn
    have e : l.filter (isH (restTL ws o i) o) = l.filter (isH ws o) := List.filter_congr fun j hj => isH_rest _ _ fun e => hn.1 (e ▸ hj)
    have ih := restF_filter o c l (restTL ws o i) (h.rest o i) hn.2
    rw [e] at ih
    show _ = restF o l (restTL ws o i)
    rw [← ih, List.filter_cons]
    cases hq : isH ws o i with
    | true => rw [if_pos rfl]; rfl
    | false => rw [if_neg (by simp), restTL_not h hq]
theorem drop_held {ws : List Int} {c : Int} (h : GoodT ws c) (o : Int) : restF o ((List.range ws.length).filter (isH ws o)) ws = dropL ws o := restF_filter o c _ ws h List.nodup_range
theorem GoodT.drop {ws : List Int} {c : Int} (h : GoodT ws c) (o : Int) : GoodT (dropL ws o) c := restF_good h o _
end Ytaajajcdgaaloaa
end Go.Proofs
/-
  slices.Clone of words.
-/
set_option linter.unusedSimpArgs false
set_option linter.unusedVariables false
set_option linter.unnecessarySimpa false
set_option linter.unusedSectionVars false
namespace Go.Proofs
namespace Ytaajajcdgaaloaa
open Go.Abs
set_option linter.unusedSimpArgs false

theorem runs53 (e : TypeId) (l : List Int) (tg : Nat) (hl : l.length ≤ 1000000) : Runs Try.prog cfg 53 [.slice (some ⟨0, 0, none⟩) l.length tg] (AH.of [some (.arr e (us l))])
    fun r H' => r = .ret (.slice (some ⟨1, 0, none⟩) l.length 1) ∧ H' = AH.of [some (.arr e (us l)), some (.arr 29 (us l))] := by
  refine Runs.ends ?_
  refine runs_by (tbl := []) (by simp) 0 0 (af := a53) rfl ?_
  rw [a53, b53, run_eq]
  refine ⟨by simp, ?_⟩
  have h1 : l.length * 8 ≤ 140737488355328 ∧ l.length ≤ 9223372036854775807 := by omega
  have h2 := take_us l
  simp (implicitDefEqProofs := false) [h1, h2, us_length]
  repeat' (first | with_reducible apply And.intro | with_reducible intro _)
  all_goals first
    | (refine ends_plan [] [0, 2] ?_ ?_ ?_ <;> simp [us_length]; done)
    | (have : l = [] := by assumption
       subst this
       refine ends_wk (r' := .ret (.slice (some ⟨1, 0, none⟩) 0 1)) (leR_ret (by simp)) (ends_plan [.nil 29] [0, 1] ?_ ?_ ?_) <;> simp [us])
def st53 : CStep GD := fun args H => match args with
  | [x] => (sl0 x).bind fun q => (getArr H q.1).map fun l => (q.2.1 = l.2.length ∧ l.2.length ≤ 1000000, .ret (.slice (some ⟨H.next, 0, none⟩) l.2.length 1), H.add (.arr 29 (us l.2)))
  | _ => none
theorem st53_ok : CStepOk Try.prog cfg 53 st53 := by
  intro args H p r H' h hp
  unfold st53 at h
  split at h
  case h_2 => cases h
  simp only [Option.map_eq_some_iff, Option.bind_eq_some_iff] at h
  obtain ⟨q, hq, l, hl, h⟩ := h
  cases h
  rw [sl0_inv hq, hp.1]
  exact (runs53 l.1 l.2 q.2.2 hp.2).atK (ro_none rfl) [q.1] (by simp) (by simp) (by simp [getArr_inv hl]) (by simp) (by simp) (by simp [upd_get (getArr_inv hl)])
end Ytaajajcdgaaloaa
end Go.Proofs
/-
  Stripes: Drop, Fork.
-/
set_option linter.unusedSimpArgs false
set_option linter.unusedVariables false
set_option linter.unnecessarySimpa false
set_option linter.unusedSectionVars false
namespace Go.Proofs
namespace Ytaajajcdgaaloaa
open Go.Abs
set_option linter.unusedSimpArgs false

set_option maxHeartbeats 1000000 in
theorem runs17 (ws : List Int) (c o : Int) (h : GoodT ws c) : Runs Try.prog cfg 17 [.pointer (some ⟨0, 0, none⟩), .int .i64 o] (AH.of [some (.hi (.tab ws c))])
    fun r H' => r = .ret (.int .i64 (heldL ws o).length) ∧ H' = AH.of [some (.hi (.tab (dropL ws o) c))] := by
  refine Runs.ends ?_
  have h8 := h.len8
  have hd := drop_held h o
  have hle := heldN_le ws o ws.length
  have hH : heldL ws o = ((List.range ws.length).filter (isH ws o)).map fun i : Nat => (i : Int) := rfl
  have hlen : (heldL ws o).length ≤ 8 := Nat.le_trans hle h8
  generalize (List.range ws.length).filter (isH ws o) = hl at hd hH
  obtain ⟨li, hli⟩ : ∃ li, heldL ws o = li := ⟨_, rfl⟩
  rw [hli] at hH hlen ⊢
  have hll : li.length = hl.length := by rw [hH, List.length_map]
  refine runs_by (tbl := tblH) tblH_ok 10 0 (af := a17) rfl ?_
  rw [a17, b17, run_eq]
  refine ⟨by simp, ?_⟩
  simp (implicitDefEqProofs := false) [tblH, st16, h, hli]
  refine loop_view (sg_mono gX_ok (tabS_ok tblH_ok) _ _ noY noY_mono) (fun m tm H => ∃ j : Nat, m + j = li.length ∧ tm 0 = .pointer (some ⟨0, 0, none⟩) ∧ tm 1 = .int .i64 o ∧ tm 5 = .slice (some ⟨1, 0, none⟩) li.length 1 ∧ tm 11 = .slice (some ⟨1, 0, none⟩) li.length 1 ∧ tm 12 = .int .i64 li.length ∧ tm 13 = .int .i64 j ∧
    H = AH.of [some (.hi (.tab (restF o (hl.take j) ws) c)), some (.arr 3 (ints li))]) (m := li.length) ?_ (by omega) ?_
  · refine round_plan [] [0, 1] [some (.hi (.tab ws c)), some (.arr 3 (ints li))] li.length (by omega) ?_ ?_ ⟨0, ?_⟩ <;> simp [restF]
    done
  rintro m tm H ⟨j, hm, t0, t1, t5, t11, t12, t13, rfl⟩
  by_cases hj : j < li.length
  · obtain ⟨i, hx⟩ : ∃ i, hl[j]? = some i := ⟨hl[j]'(by omega), List.getElem?_eq_getElem (by omega)⟩
    have hx2 : li[j]? = some (i : Int) := by rw [hH]; simp [hx]
    have hj' : (j : Int) < li.length := by omega
    have hwr := inc_i64 hj (by omega)
    have hst : restF o (hl.take (j + 1)) ws = restTL (restF o (hl.take j) ws) o i := by
      rw [List.take_add_one, hx]; simp [restF, List.foldl_append]
    have hgood := restF_good h o (hl.take j)
    simp (implicitDefEqProofs := false) [tblH, st15, hgood, t0, t1, t5, t11, t12, t13, hj, hj', ints_at hx2, ints_get hx2, hwr]
    refine round_plan [] [0, 1] [some (.hi (.tab (restF o (hl.take (j + 1)) ws) c)), some (.arr 3 (ints li))] (m - 1) (by omega) ?_ ?_ ⟨j + 1, by omega, ?_⟩ <;> simp [t0, t1, t5, t11, t12, t13, hst]
    done
  · have hj' : ¬ (j : Int) < li.length := by omega
    have hjl : hl.take j = hl := List.take_of_length_le (by omega)
    simp (implicitDefEqProofs := false) [t0, t1, t5, t11, t12, t13, hj', hjl, hd]
    refine ends_plan [] [0] ?_ ?_ ?_ <;> simp

set_option maxHeartbeats 1000000 in
theorem runs44 (ws : List Int) (c o : Int) (h : GoodT ws c) : Runs Try.prog cfg 44 [.pointer (some ⟨0, 0, none⟩), .int .i64 o] (AH.of [some (.hi (.rtab ws c))])
    fun r H' => r = .ret (.int .i64 (heldL ws o).length) ∧ H' = AH.of [some (.hi (.rtab (dropL ws o) c))] := by
  refine Runs.ends ?_
  have h8 := h.len8
  refine runs_by (tbl := tblH) tblH_ok 10 0 (af := a44) rfl ?_
  rw [a44, b44, run_eq]
  refine ⟨by simp, ?_⟩
  simp (implicitDefEqProofs := false)
  refine loop_inv (sg_mono gX_ok (tabS_ok tblH_ok) _ _ noY noY_mono) (fun m tm H => ∃ i : Nat, m + i = ws.length ∧ tm 0 = .pointer (some ⟨0, 0, none⟩) ∧ tm 1 = .int .i64 o ∧ tm 5 = .int .i64 (heldN ws o i).length ∧ tm 6 = .int .i64 i ∧
    ∃ ws2, ws2 = restAll ws o i ∧ H = AH.of [some (.hi (.rtab ws2 c))]) (m := ws.length) ⟨0, by simp [heldN, restAll, restF]⟩ (by omega) ?_
  rintro m tm H ⟨i, hm, t0, t1, t5, t6, ws2, hw2, rfl⟩
  have hgood : GoodT ws2 c := by rw [hw2]; exact restF_good h o _
  have hlen : ws2.length = ws.length := by rw [hw2]; exact restF_length _ _ _
  have hle := heldN_le ws o i
  by_cases hi : i < ws.length
  · have hmay : mayC ws2 i = 0 := mayC_in (by omega)
    have hwr := inc_i64 hi (by omega)
    have hsuc := heldN_succ ws o i
    have hiH : isH ws2 o i = isH ws o i := by rw [hw2]; exact restF_isH o _ ws (by simp)
    have hrc := restTC_held (o := o) hgood i
    have hnx : restAll ws o (i + 1) = restTL ws2 o i := by rw [restAll_succ, ← hw2]
    have hwr2 : IntKind.i64.wrap (((heldN ws o i).length : Int) + 1) = (heldN ws o i).length + 1 := wrap_i64 (by omega) (by omega)
    cases hq : isH ws o i with
    | true =>
      have hc : restTC ws2 o i = 0 := hrc.2 (hiH.trans hq)
      simp (implicitDefEqProofs := false) [tblH, st56, st43, hgood, hmay, hc, t0, t1, t5, t6, hwr, hwr2]
      exact ⟨m - 1, by omega, i + 1, by omega, by rw [hsuc, hq]; simp, by omega, by rw [hnx]⟩
    | false =>
      have hc : ¬ restTC ws2 o i = 0 := fun e => by rw [hrc, hiH, hq] at e; cases e
      simp (implicitDefEqProofs := false) [tblH, st56, st43, hgood, hmay, hc, t0, t1, t5, t6, hwr]
      exact ⟨m - 1, by omega, i + 1, by omega, by rw [hsuc, hq]; simp, by omega, by rw [hnx]⟩
  · have hmay : mayC ws2 i = 2 := mayC_out (by omega)
    have hil : i = ws.length := by omega
    simp (implicitDefEqProofs := false) [tblH, st56, hgood, hmay, t0, t1, t5, t6]
    refine ends_plan [] [0] ?_ ?_ ?_ <;> simp [heldL, hil, dropL, hw2]
def st17 : CStep GD := fun args H => match args with
  | [.pointer (some ⟨k, 0, none⟩), .int .i64 o] => match H.get k with
    | some (.hi (.tab ws c)) => some (GoodT ws c, .ret (.int .i64 (heldL ws o).length), H.upd k (.hi (.tab (dropL ws o) c)))
    | _ => none
  | _ => none
theorem st17_ok : CStepOk Try.prog cfg 17 st17 := by
  intro args H p r H' h hp
  unfold st17 at h
  split at h
  case h_2 => cases h
  split at h
  case h_2 => cases h
  rename_i k o x1 ws c hk
  cases h
  exact (runs17 ws c o hp).atK (ro_none rfl) [k] (by simp) (by simp) (by simp [hk]) (by simp) (by simp) (by simp [AObj.ren])
def st44 : CStep GD := fun args H => match args with
  | [.pointer (some ⟨k, 0, none⟩), .int .i64 o] => match H.get k with
    | some (.hi (.rtab ws c)) => some (GoodT ws c, .ret (.int .i64 (heldL ws o).length), H.upd k (.hi (.rtab (dropL ws o) c)))
    | _ => none
  | _ => none
theorem st44_ok : CStepOk Try.prog cfg 44 st44 := by
  intro args H p r H' h hp
  unfold st44 at h
  split at h
  case h_2 => cases h
  split at h
  case h_2 => cases h
  rename_i k o x1 ws c hk
  cases h
  exact (runs44 ws c o hp).atK (ro_none rfl) [k] (by simp) (by simp) (by simp [hk]) (by simp) (by simp) (by simp [AObj.ren])
theorem runs22 (ws : List Int) (c : Int) (h : GoodT ws c) : Runs Try.prog cfg 22 [.pointer (some ⟨0, 0, none⟩)] (AH.of [some (.hi (.tab ws c))])
    fun r H' => r = .ret (.pointer (some ⟨1, 0, none⟩)) ∧ H' = AH.of [some (.hi (.tab ws c)), some (.hi (.tab ws c))] := by
  refine Runs.ends ?_
  refine Runs.opn 0 rfl ?_
  have h8 := h.len8
  have h9 : ws.length ≤ 1000000 := by omega
  have h10 : ws.length * 8 ≤ 140737488355328 ∧ ws.length ≤ 9223372036854775807 := by omega
  refine runs_by (tbl := [(53, st53)]) (by simp [st53_ok]) 0 0 (af := a22) rfl ?_
  rw [a22, b22, run_eq]
  refine ⟨by simp, ?_⟩
  simp (implicitDefEqProofs := false) [frag_tab, st53, getArr, h9, h10, take_us, us_length]
  refine ends_plan [.pack (GD.tab ws c) 0 [1], .pack (GD.tab ws c) 3 [2]] [0, 3] ?_ ?_ ?_ <;> simp [frag_tab, AObj.mine]
def st22 : CStep GD := fun args H => match args with
  | [.pointer (some ⟨k, 0, none⟩)] => match H.get k with
    | some (.hi (.tab ws c)) => some (GoodT ws c, .ret (.pointer (some ⟨H.next, 0, none⟩)), H.add (.hi (.tab ws c)))
    | _ => none
  | _ => none
theorem st22_ok : CStepOk Try.prog cfg 22 st22 := by
  intro args H p r H' h hp
  unfold st22 at h
  split at h
  case h_2 => cases h
  split at h
  case h_2 => cases h
  rename_i k x1 ws c hk
  cases h
  exact (runs22 ws c hp).atK (ro_none rfl) [k] (by simp) (by simp) (by simp [hk]) (by simp) (by simp) (by simp [upd_get hk, AObj.ren])
theorem runs23 (ws : List Int) (c : Int) (h : GoodT ws c) : Runs Try.prog cfg 23 [.pointer (some ⟨0, 0, none⟩)] (AH.of [some (.hi (.rtab ws c))])
    fun r H' => r = .ret (.pointer (some ⟨1, 0, none⟩)) ∧ H' = AH.of [some (.hi (.rtab ws c)), some (.hi (.rtab ws c))] := by
  refine Runs.ends ?_
  refine Runs.opn 0 rfl ?_
  have h8 := h.len8
  have h9 : ws.length ≤ 1000000 := by omega
  have h10 : ws.length * 8 ≤ 140737488355328 ∧ ws.length ≤ 9223372036854775807 := by omega
  refine runs_by (tbl := []) (by simp) 0 0 (af := a23) rfl ?_
  rw [a23, b23, run_eq]
  refine ⟨by simp, ?_⟩
  simp (implicitDefEqProofs := false) [frag_rtab, st53, getArr, h9, h10, take_us, us_length]
  refine ends_plan [.pack (GD.rtab ws c) 0 [1], .pack (GD.rtab ws c) 4 [3]] [0, 4] ?_ ?_ ?_ <;> simp [frag_rtab, AObj.mine]
def st23 : CStep GD := fun args H => match args with
  | [.pointer (some ⟨k, 0, none⟩)] => match H.get k with
    | some (.hi (.rtab ws c)) => some (GoodT ws c, .ret (.pointer (some ⟨H.next, 0, none⟩)), H.add (.hi (.rtab ws c)))
    | _ => none
  | _ => none
theorem st23_ok : CStepOk Try.prog cfg 23 st23 := by
  intro args H p r H' h hp
  unfold st23 at h
  split at h
  case h_2 => cases h
  split at h
  case h_2 => cases h
  rename_i k x1 ws c hk
  cases h
  exact (runs23 ws c hp).atK (ro_none rfl) [k] (by simp) (by simp) (by simp [hk]) (by simp) (by simp) (by simp [upd_get hk, AObj.ren])
end Ytaajajcdgaaloaa
end Go.Proofs
/-
  Are two rows of whole numbers one? (the reference)
-/
set_option linter.unusedSimpArgs false
set_option linter.unusedVariables false
set_option linter.unnecessarySimpa false
set_option linter.unusedSectionVars false
namespace Go.Proofs
namespace Ytaajajcdgaaloaa
open Go.Abs
set_option linter.unusedSimpArgs false

set_option maxHeartbeats 1000000 in
theorem runs26 (e e' : TypeId) (a b : List Int) (tg tg' : Nat) (hn : a.length ≤ 1000000) : Runs Try.prog cfg 26 [.slice (some ⟨0, 0, none⟩) a.length tg, .slice (some ⟨1, 0, none⟩) b.length tg'] (AH.of [some (.arr e (ints a)), some (.arr e' (ints b))])
    fun r H' => r = .ret (.bool (decide (a = b))) ∧ H' = AH.of [some (.arr e (ints a)), some (.arr e' (ints b))] := by
  refine runs_by (tbl := []) (by simp) (a.length + 1) 0 (af := a26) rfl ?_
  rw [a26, b26, run_eq]
  refine ⟨by simp, ?_⟩
  simp (implicitDefEqProofs := false)
  refine ⟨fun h1 => (by rintro rfl; exact h1 rfl), fun hl => ?_⟩
  refine loop_inv (sg_mono gX_ok (tabS_ok (by simp)) _ _ noY noY_mono) (fun m tm H => ∃ i : Nat, m + i = a.length ∧ (∀ j, j < i → a[j]? = b[j]?) ∧ tm 0 = .slice (some ⟨0, 0, none⟩) a.length tg ∧ tm 1 = .slice (some ⟨1, 0, none⟩) b.length tg' ∧ tm 5 = .int .i64 i ∧
    H = AH.of [some (.arr e (ints a)), some (.arr e' (ints b))]) (m := a.length) ⟨0, by simp⟩ (by omega) ?_
  rintro m tm H ⟨i, hm, hno, t0, t1, t5, rfl⟩
  by_cases hi : i < a.length
  · obtain ⟨x, hx⟩ : ∃ x, a[i]? = some x := ⟨a[i], List.getElem?_eq_getElem hi⟩
    obtain ⟨y, hy⟩ : ∃ y, b[i]? = some y := ⟨b[i]'(by omega), List.getElem?_eq_getElem (by omega)⟩
    have hi' : (i : Int) < a.length := by omega
    have hib : (i : Int) < b.length := by omega
    have hw := inc_i64 hi hn
    simp (implicitDefEqProofs := false) [t0, t1, t5, hi', hib, ints_at hx, ints_at hy, hw]
    refine ⟨fun hne => ?_, fun he => ⟨m - 1, by omega, i + 1, by omega, fun j hj => ?_, by omega⟩⟩
    · rintro rfl
      rw [hx] at hy; cases hy; exact hne rfl
    · by_cases hji : j = i
      · subst hji; rw [hx, hy, he]
      · exact hno j (by omega)
  · have hi' : ¬ (i : Int) < a.length := by omega
    simp (implicitDefEqProofs := false) [t0, t1, t5, hi']
    exact same_none (by omega) fun j hj => hno j (by omega)
def st26 : CStep GD := fun args H => match args with
  | [x, y] => (sl0 x).bind fun q => (sl0 y).bind fun u => (getInts H q.1).bind fun a => (getInts H u.1).map fun b => (q.2.1 = a.2.length ∧ u.2.1 = b.2.length ∧ a.2.length ≤ 1000000 ∧ q.1 ≠ u.1, .ret (.bool (decide (a.2 = b.2))), H)
  | _ => none
theorem st26_ok : CStepOk Try.prog cfg 26 st26 := by
  intro args H p r H' h hp
  unfold st26 at h
  split at h
  case h_2 => cases h
  simp only [Option.map_eq_some_iff, Option.bind_eq_some_iff] at h
  obtain ⟨q, hq, u, hu, a, ha, b, hb, h⟩ := h
  cases h
  obtain ⟨h1, h2, h3, h4⟩ := hp
  rw [sl0_inv hq, sl0_inv hu, h1, h2]
  exact (runs26 a.1 b.1 a.2 b.2 q.2.2 u.2.2 h3).atK (ro_none rfl) [q.1, u.1] (by simp [h4]) (by simp) (by simp [getInts_inv ha, getInts_inv hb]) (by simp) (by simp) (by simp [upd_get (getInts_inv ha), upd_get (getInts_inv hb)])
end Ytaajajcdgaaloaa
end Go.Proofs
/-
  Stripes: a deed on both; do both tell the same?
-/
set_option linter.unusedSimpArgs false
set_option linter.unusedVariables false
set_option linter.unnecessarySimpa false
set_option linter.unusedSectionVars false
namespace Go.Proofs
namespace Ytaajajcdgaaloaa
open Go.Abs
set_option linter.unusedSimpArgs false

structure Deed where
  k : Int
  o : Int
  s : Int
  v : Int
def Deed.cells (d : Deed) : List Value := [.int .i64 d.k, .int .i64 d.o, .int .i64 d.s, .int .u64 d.v]
def Deed.Ok (d : Deed) : Prop := 0 ≤ d.v
def deedL (ws : List Int) (c : Int) (d : Deed) : List Int :=
  if d.k = 0 then lockTL ws d.o d.s else if d.k = 1 then unlockTL ws c d.o d.s d.v else if d.k = 2 then restTL ws d.o d.s else if d.k = 3 then dropL ws d.o else ws
def deedK (c : Int) (d : Deed) : Int := if d.k = 4 then tickL c else c
theorem GoodT.deed {ws : List Int} {c : Int} (h : GoodT ws c) {d : Deed} (hd : d.Ok) : GoodT (deedL ws c d) (deedK c d) := by
  unfold deedL deedK
  by_cases h0 : d.k = 0
  · simp [h0]; exact h.lock _ _
  · by_cases h1 : d.k = 1
    · simp [h1]; exact h.unlock _ _ hd
    · by_cases h2 : d.k = 2
      · simp [h2]; exact h.rest _ _
      · by_cases h3 : d.k = 3
        · simp [h3]; exact h.drop _
        · simp [h0, h1, h2, h3]
          split
          · exact h.tick
          · exact h

def tblD : List (FuncId × CStep GD) := [(13, st13), (41, st41), (14, st14), (42, st42), (15, st15), (43, st43), (17, st17), (44, st44), (30, st30), (45, st45)]
theorem tblD_ok : ∀ x ∈ tblD, CStepOk Try.prog cfg x.1 x.2 := by simp [tblD, st13_ok, st41_ok, st14_ok, st42_ok, st15_ok, st43_ok, st17_ok, st44_ok, st30_ok, st45_ok]

set_option maxHeartbeats 2000000 in
theorem runs20 (ws : List Int) (c k o s v : Int) (h : GoodT ws c) (hv : 0 ≤ v) : Runs Try.prog cfg 20 [.pointer (some ⟨0, 0, none⟩), .pointer (some ⟨1, 0, none⟩), .agg #[.int .i64 k, .int .i64 o, .int .i64 s, .int .u64 v]] (AH.of [some (.hi (.tab ws c)), some (.hi (.rtab ws c))])
    fun r H' => r = .ret (.bool true) ∧ H' = AH.of [some (.hi (.tab (deedL ws c ⟨k, o, s, v⟩) (deedK c ⟨k, o, s, v⟩))), some (.hi (.rtab (deedL ws c ⟨k, o, s, v⟩) (deedK c ⟨k, o, s, v⟩)))] := by
  refine Runs.ends ?_
  refine runs_by (tbl := tblD) tblD_ok 0 0 (af := a20) rfl ?_
  rw [a20, b20, run_eq]
  refine ⟨by simp, ?_⟩
  by_cases h0 : k = 0
  · subst h0
    simp (implicitDefEqProofs := false) [tblD, st13, st41, h]
    refine ends_plan [] [0, 1] ?_ ?_ ?_ <;> simp [deedL, deedK]
  by_cases h1 : k = 1
  · subst h1
    simp (implicitDefEqProofs := false) [tblD, st14, st42, h, hv]
    refine ends_plan [] [0, 1] ?_ ?_ ?_ <;> simp [deedL, deedK]
  by_cases h2 : k = 2
  · subst h2
    simp (implicitDefEqProofs := false) [tblD, st15, st43, h]
    refine ends_plan [] [0, 1] ?_ ?_ ?_ <;> simp [deedL, deedK]
  by_cases h3 : k = 3
  · subst h3
    simp (implicitDefEqProofs := false) [tblD, st17, st44, h]
    refine ends_plan [] [0, 1] ?_ ?_ ?_ <;> simp [deedL, deedK]
  by_cases h4 : k = 4
  · subst h4
    simp (implicitDefEqProofs := false) [tblD, st30, st45, h]
    refine ends_plan [] [0, 1] ?_ ?_ ?_ <;> simp [deedL, deedK]
  simp (implicitDefEqProofs := false) [h0, h1, h2, h3, h4]
  refine ends_plan [] [0, 1] ?_ ?_ ?_ <;> simp [deedL, deedK, h0, h1, h2, h3, h4]
def st20 : CStep GD := fun args H => match args with
  | [.pointer (some ⟨a, 0, none⟩), .pointer (some ⟨b, 0, none⟩), .agg ⟨[.int .i64 k, .int .i64 o, .int .i64 s, .int .u64 v]⟩] => match H.get a, H.get b with
    | some (.hi (.tab ws c)), some (.hi (.rtab ws2 c2)) => some (ws2 = ws ∧ c2 = c ∧ GoodT ws c ∧ 0 ≤ v, .ret (.bool true), (H.upd a (.hi (.tab (deedL ws c ⟨k, o, s, v⟩) (deedK c ⟨k, o, s, v⟩)))).upd b (.hi (.rtab (deedL ws c ⟨k, o, s, v⟩) (deedK c ⟨k, o, s, v⟩))))
    | _, _ => none
  | _ => none
theorem st20_ok : CStepOk Try.prog cfg 20 st20 := by
  intro args H p r H' h hp
  unfold st20 at h
  split at h
  case h_2 => cases h
  split at h
  case h_2 => cases h
  rename_i a b k o s v x1 x2 ws c ws2 c2 ha hb
  cases h
  obtain ⟨rfl, rfl, hg, hv⟩ := hp
  have hne : a ≠ b := fun e => by rw [e, hb] at ha; cases ha
  exact (runs20 _ _ k o s v hg hv).atK (ro_none rfl) [a, b] (by simp [hne]) (by simp) (by simp [ha, hb]) (by simp) (by simp) (by simp [AObj.ren])

/-! ### same -/
def tblSm : List (FuncId × CStep GD) := [(46, st46), (47, st47), (12, st12), (48, st48), (11, st11), (49, st49), (16, st16), (50, st50), (26, st26), (19, st19), (51, st51), (10, st10), (52, st52)]
theorem tblSm_ok : ∀ x ∈ tblSm, CStepOk Try.prog cfg x.1 x.2 := by simp [tblSm, st46_ok, st47_ok, st12_ok, st48_ok, st11_ok, st49_ok, st16_ok, st50_ok, st26_ok, st19_ok, st51_ok, st10_ok, st52_ok]
set_option maxHeartbeats 2000000 in
theorem runs21 (ws : List Int) (c : Int) (h : GoodT ws c) : Runs Try.prog cfg 21 [.pointer (some ⟨0, 0, none⟩), .pointer (some ⟨1, 0, none⟩)] (AH.of [some (.hi (.tab ws c)), some (.hi (.rtab ws c))])
    fun r H' => r = .ret (.bool true) ∧ H' = AH.of [some (.hi (.tab ws c)), some (.hi (.rtab ws c))] := by
  refine Runs.ends ?_
  refine runs_by (tbl := tblSm) tblSm_ok 12 0 (af := a21) rfl ?_
  rw [a21, b21, run_eq]
  refine ⟨by simp, ?_⟩
  simp (implicitDefEqProofs := false)
  refine loop_inv (sg_mono gX_ok (tabS_ok tblSm_ok) _ _ noY noY_mono) (fun m tm H => ∃ i : Nat, m + i = 10 ∧ tm 0 = .pointer (some ⟨0, 0, none⟩) ∧ tm 1 = .pointer (some ⟨1, 0, none⟩) ∧ tm 5 = .int .i64 ((i : Int) - 1) ∧
    H = AH.of [some (.hi (.tab ws c)), some (.hi (.rtab ws c))]) (m := 10) ⟨0, by simp⟩ (by omega) ?_
  rintro m tm H ⟨i, hm, t0, t1, t5, rfl⟩
  by_cases hi : i < 10
  · have hi' : (i : Int) - 1 ≤ 8 := by omega
    have hw : IntKind.i64.wrap (i : Int) = i := wrap_i64 (by omega) (by omega)
    simp (implicitDefEqProofs := false) [tblSm, st46, st47, st12, st48, st11, st49, t0, t1, t5, hi', h, hw]
    exact ⟨m - 1, by omega, i + 1, by omega, by omega⟩
  have hi' : ¬ (i : Int) - 1 ≤ 8 := by omega
  simp (implicitDefEqProofs := false) [t0, t1, t5, hi']
  refine loop_view (sg_mono gX_ok (tabS_ok tblSm_ok) _ _ noY noY_mono) (fun m tm H => ∃ i : Nat, m + i = 6 ∧ tm 0 = .pointer (some ⟨0, 0, none⟩) ∧ tm 1 = .pointer (some ⟨1, 0, none⟩) ∧ tm 14 = .int .i64 ((i : Int) - 1) ∧
    H = AH.of [some (.hi (.tab ws c)), some (.hi (.rtab ws c))]) (m := 6) ?_ (by omega) ?_
  · refine round_plan [] [0, 1] [some (.hi (.tab ws c)), some (.hi (.rtab ws c))] 6 (by omega) ?_ ?_ ⟨0, ?_⟩ <;> simp [t0, t1]
  rintro m tm H ⟨i, hm, t0, t1, t14, rfl⟩
  by_cases hi : i < 6
  · have hi' : (i : Int) - 1 ≤ 4 := by omega
    have hw : IntKind.i64.wrap (i : Int) = i := wrap_i64 (by omega) (by omega)
    have hl : (heldL ws ((i : Int) - 1)).length ≤ 1000000 := by
      have := heldN_le ws ((i : Int) - 1) ws.length
      have := h.len8
      show (heldN ws ((i : Int) - 1) ws.length).length ≤ _
      omega
    simp (implicitDefEqProofs := false) [tblSm, st16, st50, st26, getInts, t0, t1, t14, hi', h, hw, hl]
    refine round_plan [] [0, 1] [some (.hi (.tab ws c)), some (.hi (.rtab ws c))] (m - 1) (by omega) ?_ ?_ ⟨i + 1, ?_⟩ <;> simp [t0, t1, t14] <;> omega
  have hi' : ¬ (i : Int) - 1 ≤ 4 := by omega
  simp (implicitDefEqProofs := false) [tblSm, st19, st51, st10, st52, t0, t1, t14, hi', h]
  refine ends_plan [] [0, 1] ?_ ?_ ?_ <;> simp
def st21 : CStep GD := fun args H => match args with
  | [.pointer (some ⟨a, 0, none⟩), .pointer (some ⟨b, 0, none⟩)] => match H.get a, H.get b with
    | some (.hi (.tab ws c)), some (.hi (.rtab ws2 c2)) => some (ws2 = ws ∧ c2 = c ∧ GoodT ws c, .ret (.bool true), H)
    | _, _ => none
  | _ => none
theorem st21_ok : CStepOk Try.prog cfg 21 st21 := by
  intro args H p r H' h hp
  unfold st21 at h
  split at h
  case h_2 => cases h
  split at h
  case h_2 => cases h
  rename_i a b x1 x2 ws c ws2 c2 ha hb
  cases h
  obtain ⟨rfl, rfl, hg⟩ := hp
  have hne : a ≠ b := fun e => by rw [e, hb] at ha; cases ha
  exact (runs21 _ _ hg).atK (ro_none rfl) [a, b] (by simp [hne]) (by simp) (by simp [ha, hb]) (by simp) (by simp) (by simp [upd_get ha, upd_get hb])
end Ytaajajcdgaaloaa
end Go.Proofs
/-
  Stripes: live, play.
-/
set_option linter.unusedSimpArgs false
set_option linter.unusedVariables false
set_option linter.unnecessarySimpa false
set_option linter.unusedSectionVars false
namespace Go.Proofs
namespace Ytaajajcdgaaloaa
open Go.Abs
set_option linter.unusedSimpArgs false

def tblLv : List (FuncId × CStep GD) := [(29, st29), (13, st13), (30, st30), (12, st12), (14, st14), (24, st24), (11, st11)]
theorem tblLv_ok : ∀ x ∈ tblLv, CStepOk Try.prog cfg x.1 x.2 := by simp [tblLv, st29_ok, st13_ok, st30_ok, st12_ok, st14_ok, st24_ok, st11_ok]
set_option maxHeartbeats 1000000 in
theorem runs9 : Runs Try.prog cfg 9 [] (AH.of []) fun r H' => r = .ret (.bool true) ∧ H' = AH.of [] := by
  refine Runs.ends ?_
  refine runs_by (tbl := tblLv) tblLv_ok 0 0 (af := a9) rfl ?_
  rw [a9, b9, run_eq]
  refine ⟨by simp, ?_⟩
  have e1 : lockTC (newL 4) 0 1 = 0 := by decide
  have e2 : lockTL (newL 4) 0 1 = [0, 1, 0, 0] := by decide
  have e3 : nextC 0 = 0 := by decide
  have e4 : nextV 0 = 1 := by decide
  have e5 : tickL 0 = 1 := by decide
  have e6 : ownTB [0, 1, 0, 0] 1 = true := by decide
  have e7 : ownTV [0, 1, 0, 0] 1 = 0 := by decide
  have e8 : unlockTC [0, 1, 0, 0] 1 0 1 1 = 0 := by decide
  have e9 : unlockTL [0, 1, 0, 0] 1 0 1 1 = [0, 32, 0, 0] := by decide
  have e10 : ofT [0, 32, 0, 0] 2 = 1 := by decide
  have e11 : verT [0, 32, 0, 0] 1 = 1 := by decide
  have g0 : GoodT (newL 4) 0 := GoodT.new (by omega) (by omega)
  have g1 : GoodT [0, 1, 0, 0] 0 := by have := g0.lock 0 1; rwa [e2] at this
  have g2 : GoodT [0, 1, 0, 0] 1 := by have := g1.tick; rwa [e5] at this
  have g3 : GoodT [0, 32, 0, 0] 1 := by have := g2.unlock 0 1 (v := 1) (by omega); rwa [e9] at this
  simp (implicitDefEqProofs := false) [tblLv, st29, st13, st30, st12, st14, st24, st11, e1, e2, e3, e4, e5, e6, e7, e8, e9, e10, e11, g0, g1, g2, g3]
  refine ends_plan [] [] ?_ ?_ ?_ <;> simp
def st9 : CStep GD := fun args H => match args with
  | [] => some (True, .ret (.bool true), H)
  | _ => none
theorem st9_ok : CStepOk Try.prog cfg 9 st9 := by
  intro args H p r H' h hp
  unfold st9 at h
  split at h
  case h_2 => cases h
  cases h
  exact runs9.atK (ro_none rfl) [] (by simp) (by simp) trivial (by simp) (by simp) (by simp)

/-! ### play -/
def deeds (l : List Deed) : List Value := l.flatMap Deed.cells
theorem deeds_cons (d : Deed) (l : List Deed) : deeds (d :: l) = .int .i64 d.k :: .int .i64 d.o :: .int .i64 d.s :: .int .u64 d.v :: deeds l := rfl
theorem deeds_length (l : List Deed) : (deeds l).length = l.length * 4 := by
  induction l with
  | nil => rfl
  | cons e l ih => rw [deeds_cons]; simp [ih]; omega
theorem deeds_ground (l : List Deed) : grounds (deeds l) = true := by
  induction l with
  | nil => rfl
  | cons e l ih => rw [deeds_cons]; simpa [grounds, ground] using ih
theorem ren_deeds (θ : Nat → Nat) (l : List Deed) : rens θ (deeds l) = deeds l := rens_ground θ _ (deeds_ground l)
attribute [simp] ren_deeds
theorem many_deeds {i : Nat} {x : Deed} : ∀ {l : List Deed}, l[i]? = some x → ((deeds l).drop (i * 4)).take 4 = x.cells := by
  induction i with
  | zero =>
    intro l h
    cases l with
    | nil => cases h
    | cons e l => simp at h; subst h; rfl
  | succ i ih =>
    intro l h
    cases l with
    | nil => cases h
    | cons e l =>
      rw [deeds_cons]
      have : (i + 1) * 4 = i * 4 + 4 := by omega
      rw [this]
      exact ih (by simpa using h)
def stepT (T : List Int × Int) (d : Deed) : List Int × Int := (deedL T.1 T.2 d, deedK T.2 d)
def kOf (n : Int) : Nat := (n % 8 + 1).toNat
def playT (n : Int) (l : List Deed) : List Int × Int := (l.take 60).foldl stepT (newL (kOf n), 0)
theorem kOf_le (n : Int) : 1 ≤ kOf n ∧ kOf n ≤ 8 := by unfold kOf; omega
theorem foldT_good {T : List Int × Int} (h : GoodT T.1 T.2) : ∀ {l : List Deed}, (∀ d ∈ l, d.Ok) → GoodT (l.foldl stepT T).1 (l.foldl stepT T).2 := by
  intro l
  induction l generalizing T with
  | nil => intro _; exact h
  | cons d l ih => intro hok; exact ih (T := stepT T d) (h.deed (hok d List.mem_cons_self)) fun x hx => hok x (List.mem_cons_of_mem _ hx)
theorem playT_good (n : Int) {l : List Deed} (hok : ∀ d ∈ l, d.Ok) : GoodT (playT n l).1 (playT n l).2 :=
  foldT_good (GoodT.new (kOf_le n).1 (kOf_le n).2) fun d hd => hok d (List.mem_of_mem_take hd)

def tblP : List (FuncId × CStep GD) := [(29, st29), (18, st18), (20, st20)]
theorem tblP_ok : ∀ x ∈ tblP, CStepOk Try.prog cfg x.1 x.2 := by simp [tblP, st29_ok, st18_ok, st20_ok]
set_option maxHeartbeats 1000000 in
theorem runs8 (n : Int) (hn : 0 ≤ n ∧ n < 256) (l : List Deed) (tg : Nat) (hok : ∀ d ∈ l, d.Ok) : Runs Try.prog cfg 8 [.int .u8 n, .slice (some ⟨0, 0, none⟩) l.length tg] (AH.of [some (.ro (deeds l))])
    fun r H' => r = .ret (.tuple #[.pointer (some ⟨1, 0, none⟩), .pointer (some ⟨2, 0, none⟩), .bool true]) ∧ H' = AH.of [some (.ro (deeds l)), some (.hi (.tab (playT n l).1 (playT n l).2)), some (.hi (.rtab (playT n l).1 (playT n l).2))] := by
  refine runs_by (tbl := tblP) tblP_ok 61 0 (af := a8) rfl ?_
  rw [a8, b8, run_eq]
  refine ⟨by simp, ?_⟩
  have e1 : IntKind.i64.wrap n = n := wrap_i64 (by omega) (by omega)
  have e2 : n.tmod 8 = n % 8 := Int.tmod_eq_emod_of_nonneg hn.1
  have e3 : IntKind.i64.wrap (n % 8 + 1) = (kOf n : Int) := by rw [wrap_i64 (by omega) (by omega)]; unfold kOf; omega
  have hk := kOf_le n
  have hk1 : (1 : Int) ≤ kOf n := by omega
  have hk8 : (kOf n : Int) ≤ 8 := by omega
  simp (implicitDefEqProofs := false) [tblP, st29, st18, e1, e2, e3, hk1, hk8]
  refine loop_inv (sg_mono gX_ok (tabS_ok tblP_ok) _ _ noY noY_mono) (fun m tm H => ∃ i, m + i = 60 ∧ i ≤ l.length ∧ tm 1 = .slice (some ⟨0, 0, none⟩) l.length tg ∧ tm 8 = .pointer (some ⟨1, 0, none⟩) ∧ tm 9 = .pointer (some ⟨2, 0, none⟩) ∧ tm 10 = .int .i64 (i : Nat) ∧
      ∃ T, T = (l.take i).foldl stepT (newL (kOf n), 0) ∧ GoodT T.1 T.2 ∧ H = AH.of [some (.ro (deeds l)), some (.hi (.tab T.1 T.2)), some (.hi (.rtab T.1 T.2))])
    (m := 60) ⟨0, by simp [GoodT.new hk.1 hk.2]⟩ (by omega) ?_
  rintro m tm H ⟨i, hm, hil, t1, t8, t9, t10, T, hT, hg, rfl⟩
  by_cases hi : i < l.length
  · have hi' : (i : Int) < l.length := by omega
    by_cases hi3 : i < 60
    · obtain ⟨x, hx⟩ : ∃ x, l[i]? = some x := ⟨l[i], List.getElem?_eq_getElem hi⟩
      have r4 := many_deeds hx
      have hle : i * 4 + 4 ≤ (deeds l).length := by rw [deeds_length]; omega
      have hxo : x.Ok := hok x (List.mem_of_getElem? hx)
      have hxo' : 0 ≤ x.v := hxo
      have hi3' : (i : Int) < 60 := by omega
      have hw : IntKind.i64.wrap ((i : Int) + 1) = ((i + 1 : Nat) : Int) := by rw [wrap_i64 (by omega) (by omega)]; omega
      have hst : (l.take (i + 1)).foldl stepT (newL (kOf n), 0) = stepT T x := by
        rw [List.take_add_one, hx, List.foldl_append, ← hT]; rfl
      simp (implicitDefEqProofs := false) [tblP, st20, t1, t8, t9, t10, hi, hi', hi3', r4, hle, Deed.cells, hg, hxo', hw]
      exact ⟨m - 1, by omega, i + 1, by omega, by omega, by omega, by rw [hst]; exact hg.deed hxo, by rw [hst]; rfl⟩
    · have hi3' : ¬ (i : Int) < 60 := by omega
      simp (implicitDefEqProofs := false) [t1, t8, t9, t10, hi, hi', hi3']
      have : l.take i = l.take 60 := by congr 1; omega
      rw [hT, this]; rfl
  · have hi' : ¬ (i : Int) < l.length := by omega
    simp (implicitDefEqProofs := false) [t1, t8, t9, t10, hi, hi']
    have : l.take i = l.take 60 := by rw [List.take_of_length_le (by omega), List.take_of_length_le (by omega)]
    rw [hT, this]; rfl
theorem runs_play0 (n : Int) (hn : 0 ≤ n ∧ n < 256) : Runs Try.prog cfg 8 [.int .u8 n, .slice none 0 0] (AH.of [])
    fun r H' => r = .ret (.tuple #[.pointer (some ⟨0, 0, none⟩), .pointer (some ⟨1, 0, none⟩), .bool true]) ∧ H' = AH.of [some (.hi (.tab (newL (kOf n)) 0)), some (.hi (.rtab (newL (kOf n)) 0))] := by
  refine runs_by (tbl := tblP) tblP_ok 61 0 (af := a8) rfl ?_
  rw [a8, b8, run_eq]
  refine ⟨by simp, ?_⟩
  have e1 : IntKind.i64.wrap n = n := wrap_i64 (by omega) (by omega)
  have e2 : n.tmod 8 = n % 8 := Int.tmod_eq_emod_of_nonneg hn.1
  have e3 : IntKind.i64.wrap (n % 8 + 1) = (kOf n : Int) := by rw [wrap_i64 (by omega) (by omega)]; unfold kOf; omega
  have hk := kOf_le n
  have hk1 : (1 : Int) ≤ kOf n := by omega
  have hk8 : (kOf n : Int) ≤ 8 := by omega
  simp (implicitDefEqProofs := false) [tblP, st29, st18, e1, e2, e3, hk1, hk8]
  refine loop_once (sg_mono gX_ok (tabS_ok tblP_ok) _ _ noY noY_mono) (by omega) ?_
  simp (implicitDefEqProofs := false)
def asDeeds : List Value → Option (List Deed)
  | [] => some []
  | .int .i64 k :: .int .i64 o :: .int .i64 s :: .int .u64 v :: l => (asDeeds l).map (⟨k, o, s, v⟩ :: ·)
  | _ => none
theorem asDeeds_deeds : ∀ l : List Deed, asDeeds (deeds l) = some l
  | [] => rfl
  | e :: l => by
    show (asDeeds (deeds l)).map (_ :: ·) = _
    rw [asDeeds_deeds l]; rfl
theorem asDeeds_inv : ∀ {cs : List Value} {l : List Deed}, asDeeds cs = some l → cs = deeds l
  | cs, l, e => by
    unfold asDeeds at e
    split at e
    · cases e; rfl
    · simp only [Option.map_eq_some_iff] at e
      obtain ⟨l', e1, rfl⟩ := e
      rw [asDeeds_inv e1]; rfl
    · cases e
attribute [simp] asDeeds_deeds
def stPlay1 : CStep GD := fun args H => match args with
  | [.int .u8 n, .slice (some ⟨k, 0, none⟩) m tg] => match H.get k with
    | some (.ro cs) => (asDeeds cs).map fun l => ((0 ≤ n ∧ n < 256) ∧ m = l.length ∧ ∀ d ∈ l, d.Ok, .ret (.tuple #[.pointer (some ⟨H.next, 0, none⟩), .pointer (some ⟨H.next + 1, 0, none⟩), .bool true]), (H.add (.hi (.tab (playT n l).1 (playT n l).2))).add (.hi (.rtab (playT n l).1 (playT n l).2)))
    | _ => none
  | _ => none
theorem stPlay1_ok : CStepOk Try.prog cfg 8 stPlay1 := by
  intro args H p r H' h hp
  unfold stPlay1 at h
  split at h
  case h_2 => cases h
  split at h
  case h_2 => cases h
  rename_i n k m tg x1 cs hk
  simp only [Option.map_eq_some_iff] at h
  obtain ⟨l, hl, h⟩ := h
  cases h
  obtain ⟨h1, rfl, h3⟩ := hp
  rw [asDeeds_inv hl] at hk
  exact (runs8 n h1 l tg h3).atK (ro_same fun i cs hi => by rcases i with _ | _ | _ | i <;> simp at hi ⊢; exact hi) [k] (by simp) (by simp) (by simp [hk]) (by simp) (by simp) (by simp [upd_get hk, AObj.ren])
def stPlay0 : CStep GD := fun args H => match args with
  | [.int .u8 n, .slice none 0 0] => some (0 ≤ n ∧ n < 256, .ret (.tuple #[.pointer (some ⟨H.next, 0, none⟩), .pointer (some ⟨H.next + 1, 0, none⟩), .bool true]), (H.add (.hi (.tab (newL (kOf n)) 0))).add (.hi (.rtab (newL (kOf n)) 0)))
  | _ => none
theorem stPlay0_ok : CStepOk Try.prog cfg 8 stPlay0 := by
  intro args H p r H' h hp
  unfold stPlay0 at h
  split at h
  case h_2 => cases h
  rename_i n
  cases h
  exact (runs_play0 n hp).atK (ro_none rfl) [] (by simp) (by simp) trivial (by simp) (by simp) (by simp [AObj.ren])
def st8 : CStep GD := stPlay1.or stPlay0
theorem st8_ok : CStepOk Try.prog cfg 8 st8 := CStep.or_ok stPlay1_ok stPlay0_ok

/-! ### StripesPlays -/
def tblL : List (FuncId × CStep GD) := [(8, st8), (9, st9), (21, st21), (20, st20), (22, st22), (23, st23), (10, st10), (11, st11), (19, st19), (18, st18), (12, st12), (13, st13), (14, st14), (15, st15), (16, st16), (17, st17)]
theorem tblL_ok : ∀ x ∈ tblL, CStepOk Try.prog cfg x.1 x.2 := by simp [tblL, st8_ok, st9_ok, st21_ok, st20_ok, st22_ok, st23_ok, st10_ok, st11_ok, st19_ok, st18_ok, st12_ok, st13_ok, st14_ok, st15_ok, st16_ok, st17_ok]
theorem runs5 (n : Int) (hn : 0 ≤ n ∧ n < 256) (l : List Deed) (tg : Nat) (hok : ∀ d ∈ l, d.Ok) : Runs Try.prog cfg 5 [.int .u8 n, .slice (some ⟨0, 0, none⟩) l.length tg] (AH.of [some (.ro (deeds l))])
    fun r H' => r = .ret (.bool true) ∧ H' = AH.of [some (.ro (deeds l))] := by
  refine Runs.ends ?_
  refine runs_by (tbl := tblL) tblL_ok 0 0 (af := a5) rfl ?_
  rw [a5, b5, run_eq]
  refine ⟨by simp, ?_⟩
  have hg := playT_good n hok
  simp (implicitDefEqProofs := false) [tblL, st8, stPlay1, stPlay0, CStep.or, st9, st21, hn, hok, hg]
  refine ⟨hok, ends_plan [] [0] ?_ ?_ ?_⟩ <;> simp
end Ytaajajcdgaaloaa
end Go.Proofs
/-
  Stripes: what drops, and what rises. The law of the forks.
-/
set_option linter.unusedSimpArgs false
set_option linter.unusedVariables false
set_option linter.unnecessarySimpa false
set_option linter.unusedSectionVars false
namespace Go.Proofs
namespace Ytaajajcdgaaloaa
open Go.Abs
set_option linter.unusedSimpArgs false

theorem verT_eq (ws : List Int) (i : Nat) : verT ws i = match ws[i]? with
    | some w => wVer w
    | none => 0 := by
  cases hx : ws[i]? with
  | some w =>
    have hl : i < ws.length := by
      rcases Nat.lt_or_ge i ws.length with h | h
      · exact h
      · rw [List.getElem?_eq_none h] at hx; cases hx
    unfold verT
    rw [if_pos (show inR ws i from ⟨by omega, by omega⟩), getW_at hx]
  | none =>
    have : ¬ inR ws i := fun hr => by
      have hl := hr.2
      rw [List.getElem?_eq_getElem (by omega)] at hx; cases hx
    unfold verT
    rw [if_neg this]
theorem at_lt {ws : List Int} {i : Nat} {w : Int} (hx : ws[i]? = some w) : i < ws.length := by
  rcases Nat.lt_or_ge i ws.length with h | h
  · exact h
  · rw [List.getElem?_eq_none h] at hx; cases hx
theorem verT_set {ws : List Int} {i j : Nat} {v : Int} (hi : i < ws.length) : verT (ws.set i v) j = if i = j then wVer v else verT ws j := by
  rw [verT_eq, verT_eq, List.getElem?_set]
  by_cases h : i = j
  · subst h; simp [hi]
  · simp [h]
theorem verT_out {ws : List Int} {c s : Int} (h : GoodT ws c) : 0 ≤ verT ws s ∧ verT ws s ≤ c := by
  unfold verT
  split
  · exact ⟨((h.getW (by assumption)).1.ver0).1, (h.getW (by assumption)).2⟩
  · exact ⟨by omega, h.c0⟩

/-! Each word's version does not fall. -/
theorem rest_ver {ws : List Int} {c : Int} (h : GoodT ws c) (o : Int) (i j : Nat) : verT (restTL ws o i) j = verT ws j := by
  unfold restTL
  split
  · rename_i hc
    have hr : inR ws i := by
      unfold restTC at hc
      split at hc
      · assumption
      · cases hc
    have hl : i < ws.length := by have := hr.2; omega
    obtain ⟨w, hx⟩ : ∃ w, ws[i]? = some w := ⟨ws[i], List.getElem?_eq_getElem hl⟩
    have hc2 : restC w o = 0 := by unfold restTC at hc; rwa [if_pos hr, getW_at hx] at hc
    rw [Int.toNat_natCast, verT_set hl]
    split
    · rename_i e; subst e
      rw [getW_at hx, restV, if_pos hc2, mkW_ver (by omega), verT_eq, hx]
    · rfl
  · rfl
theorem rest_ver' {ws : List Int} {c : Int} (h : GoodT ws c) (o s : Int) (j : Nat) : verT (restTL ws o s) j = verT ws j := by
  by_cases hs : 0 ≤ s
  · obtain ⟨i, rfl⟩ := Int.eq_ofNat_of_zero_le hs
    exact rest_ver h o i j
  · unfold restTL restTC
    rw [if_neg]
    rw [if_neg (fun hr : inR ws s => hs hr.1)]
    decide
theorem restF_ver {c : Int} (o : Int) (j : Nat) : ∀ (l : List Nat) (ws : List Int), GoodT ws c → verT (restF o l ws) j = verT ws j
  | [], _, _ => rfl
  | i :: l, ws, h => by
    show verT (restF o l (restTL ws o i)) j = _
    rw [restF_ver o j l _ (h.rest o i), rest_ver h]
theorem drop_ver {ws : List Int} {c : Int} (h : GoodT ws c) (o : Int) (j : Nat) : verT (dropL ws o) j = verT ws j := restF_ver o j _ ws h
theorem lock_ver {ws : List Int} {c : Int} (h : GoodT ws c) (o s : Int) (j : Nat) : verT (lockTL ws o s) j = verT ws j := by
  unfold lockTL
  split
  · rename_i hc
    have hr : inR ws s := by
      unfold lockTC at hc
      split at hc
      · assumption
      · cases hc
    obtain ⟨i, rfl⟩ := Int.eq_ofNat_of_zero_le hr.1
    have hl : i < ws.length := by have := hr.2; omega
    obtain ⟨w, hx⟩ : ∃ w, ws[i]? = some w := ⟨ws[i], List.getElem?_eq_getElem hl⟩
    have hc2 : lockC w o = 0 := by unfold lockTC at hc; rwa [if_pos hr, getW_at hx] at hc
    have ho : -1 ≤ o ∧ o < 4 := by
      unfold lockC at hc2
      by_cases h1 : ¬ (0 ≤ o ∧ o < 4)
      · rw [if_pos h1] at hc2; cases hc2
      · omega
    rw [Int.toNat_natCast, verT_set hl]
    split
    · rename_i e; subst e
      rw [getW_at hx, lockV, if_pos hc2, mkW_ver ho, verT_eq, hx]
    · rfl
  · rfl
theorem unlock_ver {ws : List Int} {c : Int} (h : GoodT ws c) (o s v : Int) (j : Nat) : verT ws j ≤ verT (unlockTL ws c o s v) j := by
  unfold unlockTL
  split
  · rename_i hc
    have hr : inR ws s := by
      unfold unlockTC at hc
      split at hc
      · assumption
      · cases hc
    obtain ⟨i, rfl⟩ := Int.eq_ofNat_of_zero_le hr.1
    have hl : i < ws.length := by have := hr.2; omega
    obtain ⟨w, hx⟩ : ∃ w, ws[i]? = some w := ⟨ws[i], List.getElem?_eq_getElem hl⟩
    have hc2 : unlockC w o v = 0 := by
      unfold unlockTC at hc
      rw [if_pos hr, getW_at hx] at hc
      split at hc
      · cases hc
      · exact hc
    have hv : wVer w ≤ v := by
      unfold unlockC at hc2
      split at hc2
      · cases hc2
      · split at hc2
        · cases hc2
        · omega
    rw [Int.toNat_natCast, verT_set hl]
    split
    · rename_i e; subst e
      rw [getW_at hx, unlockV, if_pos hc2, mkW_ver (by omega), verT_eq, hx]; exact hv
    · exact Int.le_refl _
  · exact Int.le_refl _
theorem deed_rise {ws : List Int} {c : Int} (h : GoodT ws c) (d : Deed) (j : Nat) : verT ws j ≤ verT (deedL ws c d) j := by
  unfold deedL
  split
  · rw [lock_ver h]; exact Int.le_refl _
  · split
    · exact unlock_ver h _ _ _ _
    · split
      · rw [rest_ver' h]; exact Int.le_refl _
      · split
        · rw [drop_ver h]; exact Int.le_refl _
        · exact Int.le_refl _
theorem deedK_le {ws : List Int} {c : Int} (h : GoodT ws c) (d : Deed) : c ≤ deedK c d := by
  unfold deedK
  split
  · exact tickL_le h.c1
  · exact Int.le_refl _
theorem deedL_length (ws : List Int) (c : Int) (d : Deed) : (deedL ws c d).length = ws.length := by
  unfold deedL lockTL unlockTL dropL restAll
  split
  · split <;> simp
  · split
    · split <;> simp
    · split
      · exact restTL_length _ _ _
      · split
        · exact restF_length _ _ _
        · rfl

set_option maxHeartbeats 1000000 in
theorem runs6 (n : Int) (hn : 0 ≤ n ∧ n < 256) (l l2 : List Deed) (tg tg2 : Nat) (hok : ∀ d ∈ l, d.Ok) (hok2 : ∀ d ∈ l2, d.Ok) : Runs Try.prog cfg 6 [.int .u8 n, .slice (some ⟨0, 0, none⟩) l.length tg, .slice (some ⟨1, 0, none⟩) l2.length tg2] (AH.of [some (.ro (deeds l)), some (.ro (deeds l2))])
    fun r H' => r = .ret (.bool true) ∧ H' = AH.of [some (.ro (deeds l)), some (.ro (deeds l2))] := by
  refine Runs.ends ?_
  refine runs_by (tbl := tblL) tblL_ok 15 0 (af := a6) rfl ?_
  rw [a6, b6, run_eq]
  refine ⟨by simp, ?_⟩
  have hg := playT_good n hok
  generalize hT : playT n l = T at hg
  simp (implicitDefEqProofs := false) [tblL, st8, stPlay1, stPlay0, CStep.or, st9, st22, st23, hn, hok, hT, hg]
  refine ⟨hok, ?_⟩
  refine loop_inv (sg_mono gX_ok (tabS_ok tblL_ok) _ _ noY noY_mono) (fun m tm H => ∃ i, m + i = 14 ∧ i ≤ l2.length ∧ tm 2 = .slice (some ⟨1, 0, none⟩) l2.length tg2 ∧ tm 7 = .pointer (some ⟨2, 0, none⟩) ∧ tm 8 = .pointer (some ⟨3, 0, none⟩) ∧ tm 10 = .pointer (some ⟨4, 0, none⟩) ∧ tm 11 = .pointer (some ⟨5, 0, none⟩) ∧ tm 12 = .int .i64 (i : Nat) ∧
      ∃ U : List Int × Int, GoodT U.1 U.2 ∧ H = AH.of [some (.ro (deeds l)), some (.ro (deeds l2)), some (.hi (.tab T.1 T.2)), some (.hi (.rtab T.1 T.2)), some (.hi (.tab U.1 U.2)), some (.hi (.rtab U.1 U.2))])
    (m := 14) ⟨0, by simp; exact ⟨_, _, hg, rfl⟩⟩ (by omega) ?_
  rintro m tm H ⟨i, hm, hil, t2, t7, t8, t10, t11, t12, U, hU, rfl⟩
  by_cases hi : i < l2.length
  · have hi' : (i : Int) < l2.length := by omega
    by_cases hi3 : i < 14
    · obtain ⟨x, hx⟩ : ∃ x, l2[i]? = some x := ⟨l2[i], List.getElem?_eq_getElem hi⟩
      have r4 := many_deeds hx
      have hle : i * 4 + 4 ≤ (deeds l2).length := by rw [deeds_length]; omega
      have hxo : x.Ok := hok2 x (List.mem_of_getElem? hx)
      have hxo' : 0 ≤ x.v := hxo
      have hi3' : (i : Int) < 14 := by omega
      have hw : IntKind.i64.wrap ((i : Int) + 1) = ((i + 1 : Nat) : Int) := by rw [wrap_i64 (by omega) (by omega)]; omega
      simp (implicitDefEqProofs := false) [tblL, st20, t2, t7, t8, t10, t11, t12, hi, hi', hi3', r4, hle, Deed.cells, hU, hxo', hw]
      exact ⟨m - 1, by omega, i + 1, by omega, by omega, by omega, _, _, hU.deed hxo, rfl⟩
    · have hi3' : ¬ (i : Int) < 14 := by omega
      simp (implicitDefEqProofs := false) [tblL, st21, t2, t7, t8, t10, t11, t12, hi, hi', hi3', hg, hU]
      refine ends_plan [] [0, 1] ?_ ?_ ?_ <;> simp
  · have hi' : ¬ (i : Int) < l2.length := by omega
    simp (implicitDefEqProofs := false) [tblL, st21, t2, t7, t8, t10, t11, t12, hi, hi', hg, hU]
    refine ends_plan [] [0, 1] ?_ ?_ ?_ <;> simp
end Ytaajajcdgaaloaa
end Go.Proofs
/-
  Stripes: the law of the one owner; the law of the versions.
-/
set_option linter.unusedSimpArgs false
set_option linter.unusedVariables false
set_option linter.unnecessarySimpa false
set_option linter.unusedSectionVars false
namespace Go.Proofs
namespace Ytaajajcdgaaloaa
open Go.Abs
set_option linter.unusedSimpArgs false

theorem isH_dropped {ws : List Int} {c : Int} (h : GoodT ws c) (o : Int) (i : Nat) : isH (restTL ws o i) o i = false := by
  cases hq : isH ws o i with
  | false => rw [restTL_not h hq, hq]
  | true =>
    have hc := (restTC_held h i).2 hq
    have hr : inR ws i := by
      unfold restTC at hc
      split at hc
      · assumption
      · cases hc
    have hl : i < ws.length := by have := hr.2; omega
    obtain ⟨w, hx⟩ : ∃ w, ws[i]? = some w := ⟨ws[i], List.getElem?_eq_getElem hl⟩
    have hc2 : restC w o = 0 := by unfold restTC at hc; rwa [if_pos hr, getW_at hx] at hc
    unfold restTL
    rw [if_pos hc, isH_eq, Int.toNat_natCast, List.getElem?_set_self hl, getW_at hx]
    simp only [restV, if_pos hc2]
    rw [mkW_own (by omega)]
    simp
    intro e; omega
theorem isH_all {ws : List Int} {c : Int} (h : GoodT ws c) (o : Int) {j : Nat} : ∀ {n : Nat}, j < n → isH (restAll ws o n) o j = false
  | 0, hn => by omega
  | n + 1, hn => by
    rw [restAll_succ]
    by_cases e : n = j
    · subst e; exact isH_dropped (restF_good h o _) o n
    · rw [isH_rest _ _ e]; exact isH_all h o (by omega)
theorem held_drop {ws : List Int} {c : Int} (h : GoodT ws c) (o : Int) : heldL (dropL ws o) o = [] := by
  unfold heldL heldN
  rw [List.map_eq_nil_iff, List.filter_eq_nil_iff]
  intro j hj
  have hl : (dropL ws o).length = ws.length := restF_length _ _ _
  rw [List.mem_range, hl] at hj
  rw [show isH (dropL ws o) o j = false from isH_all h o hj]
  decide
theorem held_pos {ws : List Int} {o : Int} {i : Nat} (hi : i < ws.length) (h : isH ws o i = true) : 0 < (heldL ws o).length := by
  have : (i : Int) ∈ heldL ws o := List.mem_map.2 ⟨i, List.mem_filter.2 ⟨List.mem_range.2 hi, h⟩, rfl⟩
  exact List.length_pos_of_mem this

theorem foldT_length : ∀ (l : List Deed) (T : List Int × Int), (l.foldl stepT T).1.length = T.1.length
  | [], _ => rfl
  | d :: l, T => (foldT_length l (stepT T d)).trans (deedL_length _ _ _)

set_option maxHeartbeats 2000000 in
theorem runs3 (l : List Deed) (tg : Nat) (a b : Int) (ha : 0 ≤ a ∧ a < 256) (hb : 0 ≤ b ∧ b < 256) (hok : ∀ d ∈ l, d.Ok) : Runs Try.prog cfg 3 [.slice (some ⟨0, 0, none⟩) l.length tg, .int .u8 a, .int .u8 b] (AH.of [some (.ro (deeds l))])
    fun r H' => r = .ret (.bool true) ∧ H' = AH.of [some (.ro (deeds l))] := by
  refine Runs.ends ?_
  refine runs_by (tbl := tblL) tblL_ok 0 0 (af := a3) rfl ?_
  rw [a3, b3, run_eq]
  refine ⟨by simp, ?_⟩
  have hg := playT_good 5 hok
  have hlen : (playT 5 l).1.length = 6 := by rw [playT, foldT_length]; rfl
  generalize hT : playT 5 l = T at hg hlen
  obtain ⟨ws, c⟩ := T
  simp only at hg hlen
  have e1 : IntKind.i64.wrap a = a := wrap_i64 (by omega) (by omega)
  have e2 : a.tmod 4 = a % 4 := Int.tmod_eq_emod_of_nonneg ha.1
  have e3 : IntKind.i64.wrap b = b := wrap_i64 (by omega) (by omega)
  have e4 : b.tmod 6 = ((b % 6).toNat : Int) := by rw [Int.tmod_eq_emod_of_nonneg hb.1]; omega
  have hs : (b % 6).toNat < ws.length := by omega
  have ho : 0 ≤ a % 4 ∧ a % 4 < 4 := by omega
  generalize hse : (b % 6).toNat = s at e4 hs
  generalize hoe : a % 4 = o at e2 ho
  obtain ⟨w, hx⟩ : ∃ w, ws[s]? = some w := ⟨ws[s], List.getElem?_eq_getElem hs⟩
  have hr : inR ws s := ⟨by omega, by omega⟩
  have hgw := getW_at hx
  have hw := (hg.get hx).1
  have hwo := hw.own
  have hvs : 0 ≤ verT ws s := (verT_out hg).1
  have hd1 := drop_ver hg o s
  have hd2 := held_drop hg o
  have hbool : ownTB ws s = decide (0 ≤ wOwn w) := by unfold ownTB; rw [if_pos hr, hgw]
  have hL : lockTC ws o s = lockC w o := by unfold lockTC; rw [if_pos hr, hgw]
  have hLC : lockC w o = if wOwn w = o then 6 else if wOwn w ≠ -1 then 7 else 0 := by unfold lockC; rw [if_neg (by omega)]
  by_cases hc1 : wOwn w = o
  · have h1 : ownTB ws s = true := by rw [hbool]; simp; omega
    have h2 : ownTV ws s = o := by unfold ownTV; rw [if_pos hr, hgw, if_pos (by omega), hc1]
    have h3 : lockTC ws o s = 6 := by rw [hL, hLC, if_pos hc1]
    have h4 : lockTL ws o s = ws := by unfold lockTL; rw [if_neg (by rw [h3]; decide)]
    have h5 : 0 < (heldL ws o).length := held_pos hs (by rw [isH_at hx]; simp [hc1, ho.1])
    have h5' : ¬ ((heldL ws o).length = 0) := by omega
    simp (implicitDefEqProofs := false) [tblL, st8, stPlay1, stPlay0, CStep.or, st9, st10, st11, st12, st13, st16, st17, hok, hT, hg, hlen, e1, e2, e3, e4, h1, h2, h3, h4, h5, hg.drop o, hd1, hd2]
    refine ⟨hok, ends_plan [] [0] ?_ ?_ ?_⟩ <;> simp
  · by_cases hc2 : wOwn w = -1
    · have h1 : ownTB ws s = false := by rw [hbool]; simp; omega
      have h3 : lockTC ws o s = 0 := by rw [hL, hLC, if_neg hc1, if_neg (by simp [hc2])]
      have hlk := hg.lock o s
      have hv2 := lock_ver hg o s s
      have h4 : lockTL ws o s = ws.set s (mkW o (wVer w)) := by
        unfold lockTL
        rw [if_pos h3, hgw, Int.toNat_natCast, lockV, if_pos (by rw [← hL]; exact h3)]
      have hx2 : (lockTL ws o s)[s]? = some (mkW o (wVer w)) := by rw [h4, List.getElem?_set_self hs]
      have h5 : 0 < (heldL (lockTL ws o s) o).length := held_pos (by rw [h4]; simpa using hs) (by rw [isH_at hx2, mkW_own (by omega)]; simp [ho.1])
      have hd3 := drop_ver hlk o s
      rw [hv2] at hd3
      have hd4 := held_drop hlk o
      simp (implicitDefEqProofs := false) [tblL, st8, stPlay1, stPlay0, CStep.or, st9, st10, st11, st12, st13, st16, st17, hok, hT, hg, hlen, e1, e2, e3, e4, h1, h3, hlk, h5, hlk.drop o, hd3, hd4]
      refine ⟨hok, ends_plan [] [0] ?_ ?_ ?_⟩ <;> simp
    · have h1 : ownTB ws s = true := by rw [hbool]; simp; omega
      have h2 : ownTV ws s = wOwn w := by unfold ownTV; rw [if_pos hr, hgw, if_pos (by omega)]
      have h3 : lockTC ws o s = 7 := by rw [hL, hLC, if_neg hc1, if_pos hc2]
      have h4 : lockTL ws o s = ws := by unfold lockTL; rw [if_neg (by rw [h3]; decide)]
      have h6 : unlockTC ws c o s (verT ws s) ≠ 0 := by
        unfold unlockTC unlockC
        rw [if_pos hr, hgw]
        split
        · decide
        · split
          · decide
          · rw [if_pos (.inl hc1)]; decide
      have h7 : unlockTL ws c o s (verT ws s) = ws := by unfold unlockTL; rw [if_neg h6]
      have h8 : restTC ws o s ≠ 0 := by
        unfold restTC restC
        rw [if_pos hr, hgw, if_neg (by omega), if_pos hc1]; decide
      have h9 : restTL ws o s = ws := by unfold restTL; rw [if_neg h8]
      simp (implicitDefEqProofs := false) [tblL, st8, stPlay1, stPlay0, CStep.or, st9, st10, st11, st12, st13, st14, st15, hok, hT, hg, hlen, e1, e2, e3, e4, h1, h2, h3, h4, hc1, hvs, h6, h7, h8, h9]
      refine ⟨hok, ends_plan [] [0] ?_ ?_ ?_⟩ <;> simp
end Ytaajajcdgaaloaa
end Go.Proofs
/-
  Stripes: the law of the versions.
-/
set_option linter.unusedSimpArgs false
set_option linter.unusedVariables false
set_option linter.unnecessarySimpa false
set_option linter.unusedSectionVars false
namespace Go.Proofs
namespace Ytaajajcdgaaloaa
open Go.Abs
set_option linter.unusedSimpArgs false

/-- The versions that are noted, up to one. -/
def noted (ws : List Int) (i : Nat) : List Int := (List.range 8).map fun s => if s < i then verT ws (s : Nat) else 0
theorem noted_length (ws : List Int) (i : Nat) : (noted ws i).length = 8 := by simp [noted]
theorem noted_set (ws : List Int) {i : Nat} (hi : i < 8) : (noted ws i).set i (verT ws i) = noted ws (i + 1) := by
  refine List.ext_getElem (by simp [noted]) fun j h1 h2 => ?_
  have hj : j < 8 := by simpa [noted] using h2
  rw [List.getElem_set]
  simp only [noted, List.getElem_map, List.getElem_range]
  by_cases e : i = j
  · subst e; simp
  · rw [if_neg e]
    by_cases hlt : j < i
    · rw [if_pos hlt, if_pos (by omega)]
    · rw [if_neg hlt, if_neg (by omega)]
theorem noted_at (ws : List Int) {i n : Nat} (hi : i < 8) (hn : i < n) : (noted ws n)[i]? = some (verT ws i) := by
  simp [noted, hi, hn]
theorem noted0 (ws : List Int) : us (noted ws 0) = [.int .u64 0, .int .u64 0, .int .u64 0, .int .u64 0, .int .u64 0, .int .u64 0, .int .u64 0, .int .u64 0] := rfl

set_option maxHeartbeats 4000000 in
theorem runs4 (n : Int) (hn : 0 ≤ n ∧ n < 256) (l : List Deed) (tg : Nat) (hok : ∀ d ∈ l, d.Ok) : Runs Try.prog cfg 4 [.int .u8 n, .slice (some ⟨0, 0, none⟩) l.length tg] (AH.of [some (.ro (deeds l))])
    fun r H' => r = .ret (.bool true) ∧ H' = AH.of [some (.ro (deeds l))] := by
  refine Runs.ends ?_
  refine runs_by (tbl := tblL) tblL_ok 61 0 (af := a4) rfl ?_
  rw [a4, b4, run_eq]
  refine ⟨by simp, ?_⟩
  have e1 : IntKind.i64.wrap n = n := wrap_i64 (by omega) (by omega)
  have e2 : n.tmod 8 = n % 8 := Int.tmod_eq_emod_of_nonneg hn.1
  have e3 : IntKind.i64.wrap (n % 8 + 1) = (kOf n : Int) := by rw [wrap_i64 (by omega) (by omega)]; unfold kOf; omega
  have hk := kOf_le n
  have hk1 : (1 : Int) ≤ kOf n := by omega
  have hk8 : (kOf n : Int) ≤ 8 := by omega
  simp (implicitDefEqProofs := false) [tblL, st8, stPlay1, stPlay0, CStep.or, st9, st18, hn, e1, e2, e3, hk1, hk8]
  refine loop_view (sg_mono gX_ok (tabS_ok tblL_ok) _ _ noY noY_mono) (fun m tm H => ∃ i, m + i = 60 ∧ i ≤ l.length ∧ tm 1 = .slice (some ⟨0, 0, none⟩) l.length tg ∧ tm 5 = .pointer (some ⟨1, 0, none⟩) ∧ tm 8 = .pointer (some ⟨3, 0, none⟩) ∧ tm 9 = .int .i64 (i : Nat) ∧
      ∃ (ws : List Int) (c : Int), GoodT ws c ∧ H = AH.of [some (.ro (deeds l)), some (.hi (.tab ws c)), none, some (.hi (.rtab ws c))])
    (m := 60) ?_ (by omega) ?_
  · refine round_plan [] [0, 1, 2, 3] [some (.ro (deeds l)), some (.hi (.tab (newL (kOf n)) 0)), none, some (.hi (.rtab (newL (kOf n)) 0))] 60 (by omega) ?_ ?_ ⟨0, ?_⟩ <;> simp
    exact ⟨_, _, GoodT.new hk.1 hk.2, rfl⟩
  rintro m tm H ⟨i, hm, hil, t1, t5, t8, t9, ws, c, hg, rfl⟩
  by_cases hi : i < l.length
  · have hi' : (i : Int) < l.length := by omega
    by_cases hi3 : i < 60
    · obtain ⟨x, hx⟩ : ∃ x, l[i]? = some x := ⟨l[i], List.getElem?_eq_getElem hi⟩
      have r4 := many_deeds hx
      have hle : i * 4 + 4 ≤ (deeds l).length := by rw [deeds_length]; omega
      have hxo : x.Ok := hok x (List.mem_of_getElem? hx)
      have hxo' : 0 ≤ x.v := hxo
      have hi3' : (i : Int) < 60 := by omega
      have hw : IntKind.i64.wrap ((i : Int) + 1) = ((i + 1 : Nat) : Int) := by rw [wrap_i64 (by omega) (by omega)]; omega
      have h8 := hg.len8
      have hg2 := hg.deed hxo
      have hkle := deedK_le hg x
      have hkle' : ¬ deedK c x < c := by omega
      have hdl := deedL_length ws c x
      simp (implicitDefEqProofs := false) [t1, t5, t8, t9, hi', hi3']
      refine loop_inv (sg_mono gX_ok (tabS_ok tblL_ok) _ _ noY noY_mono) (fun m tm H => ∃ s : Nat, m + s = ws.length ∧ tm 1 = .slice (some ⟨0, 0, none⟩) l.length tg ∧ tm 5 = .pointer (some ⟨1, 0, none⟩) ∧ tm 8 = .pointer (some ⟨3, 0, none⟩) ∧ tm 9 = .int .i64 (i : Nat) ∧ tm 10 = .pointer (some ⟨4, 0, none⟩) ∧ tm 11 = .int .i64 (s : Nat) ∧
        H = AH.of [some (.ro (deeds l)), some (.hi (.tab ws c)), none, some (.hi (.rtab ws c)), some (.arr 41 (us (noted ws s)))]) (m := ws.length) ⟨0, by simp [t1, t5, t8, t9, noted0]⟩ (by omega) ?_
      rintro m2 tm2 H2 ⟨s, hm2, u1, u5, u8, u9, u10, u11, rfl⟩
      by_cases hs : s < ws.length
      · have hs' : (s : Int) < ws.length := by omega
        have hs8 : (s : Int) < 8 := by omega
        have hs8n : s < 8 := by omega
        have hws : IntKind.i64.wrap ((s : Int) + 1) = ((s + 1 : Nat) : Int) := by rw [wrap_i64 (by omega) (by omega)]; omega
        simp (implicitDefEqProofs := false) [tblL, st10, st11, hg, u1, u5, u8, u9, u10, u11, hs', hs8, hs8n, hws, us_set, noted_set ws hs8n]
        exact ⟨by rw [us_length, noted_length]; omega, m2 - 1, by omega, s + 1, by omega, by omega, rfl⟩
      have hs' : ¬ (s : Int) < ws.length := by omega
      have hse : s = ws.length := by omega
      simp (implicitDefEqProofs := false) [tblL, st10, st11, st19, st20, hg, hg2, u1, u5, u8, u9, u10, u11, hs', hi, hi', r4, hle, Deed.cells, hxo', hkle']
      refine loop_inv (sg_mono gX_ok (tabS_ok tblL_ok) _ _ noY noY_mono) (fun m tm H => ∃ s : Nat, m + s = ws.length ∧ tm 1 = .slice (some ⟨0, 0, none⟩) l.length tg ∧ tm 5 = .pointer (some ⟨1, 0, none⟩) ∧ tm 8 = .pointer (some ⟨3, 0, none⟩) ∧ tm 9 = .int .i64 (i : Nat) ∧ tm 10 = .pointer (some ⟨4, 0, none⟩) ∧ tm 13 = .int .i64 (s : Nat) ∧
        H = AH.of [some (.ro (deeds l)), some (.hi (.tab (deedL ws c x) (deedK c x))), none, some (.hi (.rtab (deedL ws c x) (deedK c x))), some (.arr 41 (us (noted ws ws.length)))]) (m := ws.length) ⟨0, by simp [u1, u5, u8, u9, u10, hse]⟩ (by omega) ?_
      rintro m3 tm3 H3 ⟨s, hm3, w1, w5, w8, w9, w10, w13, rfl⟩
      by_cases hs : s < ws.length
      · have hs' : (s : Int) < (deedL ws c x).length := by omega
        have hs8 : (s : Int) < 8 := by omega
        have hs8n : s < 8 := by omega
        have hws : IntKind.i64.wrap ((s : Int) + 1) = ((s + 1 : Nat) : Int) := by rw [wrap_i64 (by omega) (by omega)]; omega
        have hrise := deed_rise hg x s
        have hr1 : ¬ verT (deedL ws c x) s < verT ws s := by omega
        have hr2 : ¬ deedK c x < verT (deedL ws c x) s := by have := (verT_out (s := s) hg2).2; omega
        simp (implicitDefEqProofs := false) [tblL, st10, st11, st19, hg2, w1, w5, w8, w9, w10, w13, hs', hs8, hs8n, hws, us_at (noted_at ws hs8n hs), hr1, hr2]
        exact ⟨m3 - 1, by omega, s + 1, by omega, by omega⟩
      have hs' : ¬ (s : Int) < (deedL ws c x).length := by omega
      simp (implicitDefEqProofs := false) [tblL, st10, hg2, w1, w5, w8, w9, w10, w13, hs', hw]
      refine round_plan [] [0, 1, 2, 3] [some (.ro (deeds l)), some (.hi (.tab (deedL ws c x) (deedK c x))), none, some (.hi (.rtab (deedL ws c x) (deedK c x)))] (m - 1) (by omega) ?_ ?_ ⟨i + 1, by omega, by omega, ?_⟩ <;> simp [w1, w5, w8, w9]
      exact ⟨_, _, hg2, rfl⟩
    · have hi3' : ¬ (i : Int) < 60 := by omega
      simp (implicitDefEqProofs := false) [t1, t5, t8, t9, hi', hi3']
      refine ends_plan [] [0] ?_ ?_ ?_ <;> simp
  · have hi' : ¬ (i : Int) < l.length := by omega
    simp (implicitDefEqProofs := false) [t1, t5, t8, t9, hi']
    refine ends_plan [] [0] ?_ ?_ ?_ <;> simp
end Ytaajajcdgaaloaa
end Go.Proofs
/-
  What the arguments of the stripes' laws read as.
-/
set_option linter.unusedSimpArgs false
set_option linter.unusedVariables false
set_option linter.unnecessarySimpa false
set_option linter.unusedSectionVars false
namespace Go.Proofs
namespace Ytaajajcdgaaloaa
open Go.Abs Go.ChangeShapes Go.WideShapes Go.ChangeAt Go.RowKit
set_option linter.unusedSimpArgs false
set_option linter.unusedVariables false
set_option maxRecDepth 100000

theorem cells45 : Try.prog.cellsOf 45 = 4 := by kernel_rfl
theorem cells3 : Try.prog.cellsOf 3 = 1 := by kernel_rfl
def ltypes : List TypeId := [22, 36, 45, 3, 29, 5]
theorem lclosed : closedB Try.prog ltypes = true := by kernel_rfl
section
variable {H : Type} {enc : TypeId × Value → H} {w : World}
theorem deed_cells {fuel : Nat} {cs : List Value} {y : DataW H × List MemPlace} (h : DataW.trod enc Try.prog w 0 (fun _ => true) true fuel 45 cs = some y) : ∃ e : Deed, cs = e.cells ∧ e.Ok := by
  obtain ⟨h1, h2⟩ := struct_cells Try.underlying45 (by kernel_rfl) h cells45
  obtain ⟨v0, n0, y0, g0, t0⟩ := h2 0 _ rfl
  obtain ⟨v1, n1, y1, g1, t1⟩ := h2 1 _ rfl
  obtain ⟨v2, n2, y2, g2, t2⟩ := h2 2 _ rfl
  obtain ⟨v3, n3, y3, g3, t3⟩ := h2 3 _ rfl
  obtain ⟨a, ha, _, _⟩ := DataW.trod_int Try.underlying3 t0
  obtain ⟨b, hb, _, _⟩ := DataW.trod_int Try.underlying3 t1
  obtain ⟨c, hc, _, _⟩ := DataW.trod_int Try.underlying3 t2
  obtain ⟨d, hd, _, hw⟩ := DataW.trod_int Try.underlying29 t3
  have h3 : cs.length = 4 := h1
  match cs, h3 with
  | [c0, c1, c2, c3], _ =>
    simp only [List.getElem?_cons_zero, List.getElem?_cons_succ, Option.some.injEq] at g0 g1 g2 g3
    cases g0; cases g1; cases g2; cases g3
    cases ha; cases hb; cases hc; cases hd
    exact ⟨⟨a, b, c, d⟩, rfl, (wf_u64 hw).1⟩
theorem open_deeds {r : Reach} {b0 : Nat} {v : Value} {d : DataW H} {ps : List MemPlace} (hok : Value.okWide Try.prog w r b0 22 v) (hd : DataW.Trod enc Try.prog w 0 (fun _ => true) true 22 v d ps) :
    ∃ l : List Deed, (∀ e ∈ l, e.Ok) ∧ l.length ≤ maxLen ∧ ArgRow w v l.length (deeds l) :=
  open_rows (ea := Deed.cells) Try.underlying22 (by rw [cells45]; omega) (fun x => cells45.symm) (fun _ _ _ h => deed_cells h) hok hd
theorem open_u8 {r : Reach} {b0 : Nat} {v : Value} {d : DataW H} {ps : List MemPlace} (hok : Value.okWide Try.prog w r b0 5 v) (hd : DataW.Trod enc Try.prog w 0 (fun _ => true) true 5 v d ps) : ∃ n : Int, v = .int .u8 n ∧ (0 ≤ n ∧ n < 256) := by
  obtain ⟨n, h1, h2⟩ := open_num Try.underlying5 hok hd
  exact ⟨n, h1, wf_u8 h2⟩
theorem open_int {r : Reach} {b0 : Nat} {v : Value} {d : DataW H} {ps : List MemPlace} (hok : Value.okWide Try.prog w r b0 3 v) (hd : DataW.Trod enc Try.prog w 0 (fun _ => true) true 3 v d ps) : ∃ n : Int, v = .int .i64 n ∧ (-9223372036854775808 ≤ n ∧ n ≤ 9223372036854775807) := by
  obtain ⟨n, h1, h2⟩ := open_num Try.underlying3 hok hd
  exact ⟨n, h1, wf_i64 h2⟩
theorem open_ints {r : Reach} {b0 : Nat} {v : Value} {d : DataW H} {ps : List MemPlace} (hok : Value.okWide Try.prog w r b0 36 v) (hd : DataW.Trod enc Try.prog w 0 (fun _ => true) true 36 v d ps) :
    ∃ l : List Int, (∀ n ∈ l, -9223372036854775808 ≤ n ∧ n ≤ 9223372036854775807) ∧ l.length ≤ maxLen ∧ ArgRow w v l.length (ints l) := by
  obtain ⟨l, h1, h2, h3⟩ := open_rows (ea := fun v => [Value.int .i64 v]) (Ok := fun n => -9223372036854775808 ≤ n ∧ n ≤ 9223372036854775807) Try.underlying36 (by rw [cells3]; omega) (fun x => cells3.symm) (fun _ _ _ h => by
    obtain ⟨n, rfl, _, hw⟩ := DataW.trod_int Try.underlying3 h
    exact ⟨n, rfl, wf_i64 hw⟩) hok hd
  rw [ints_flat] at h3
  exact ⟨l, h1, h2, h3⟩
theorem deeds_one (l : List Deed) : (deeds l).all (·.oneCell') = true := by
  induction l with
  | nil => rfl
  | cons e l ih => rw [deeds_cons]; simpa [Value.oneCell'] using ih
theorem ints_ground (l : List Int) : grounds (ints l) = true := by
  induction l with
  | nil => rfl
  | cons v l ih => show (ground (.int .i64 v) && grounds (ints l)) = true; rw [ih]; rfl
end
end Ytaajajcdgaaloaa
end Go.Proofs
/-
  DERIVED: THE SHELF's CONTRACTS AT THIS DUMP, IN PLAIN WORDS (tools/lay-plain.mjs out of 'TryShelf.lean', which tools/lay-shelf.mjs wrote): THE SAME DECLARATIONS UNDER THE SAME NAMES: 'import', 'namespace', 'open', 'def', 'theorem' AND NOTHING ELSE: no command of the shelf's: FOR A HAND-IN. Each laying: the table of numbers ('.._ren') and one theorem, a field a fact of the dump's own or the kernel's comparison; each contract: ONE APPLICATION.
-/
namespace Go.Proofs
open Go.Shelf
def Try.lays189_ren : Go.Shelf.Ren := ⟨fun | 189 => 54 | 125 => 69 | 257 => 68 | 128 => 87 | 129 => 88 | 294 => 78 | 295 => 79 | 296 => 80 | 297 => 81 | 298 => 82 | 299 => 83 | 216 => 84 | 300 => 85 | 301 => 86 | 328 => 89 | 329 => 90 | 330 => 91 | 331 => 92 | 332 => 93 | 215 => 94 | 343 => 95 | n => n, fun | 28 => 36 | 3 => 3 | 46 => 88 | 0 => 0 | 51 => 102 | 53 => 29 | 4 => 4 | 183 => 95 | 182 => 94 | 131 => 31 | 5 => 5 | 9 => 9 | 218 => 104 | 222 => 107 | 228 => 109 | 229 => 110 | n => n, fun | n => n⟩
theorem Try.lays189 : Go.Proofs.Lays.n189 Try.prog Try.lays189_ren := {
  mixed := by kernel_rfl
  f125 := Try.func69.trans (congrArg some (by kernel_rfl))
  f128 := Try.func87.trans (congrArg some (by kernel_rfl))
  f129 := Try.func88.trans (congrArg some (by kernel_rfl))
  f189 := Try.func54.trans (congrArg some (by kernel_rfl))
  f215 := Try.func94.trans (congrArg some (by kernel_rfl))
  f216 := Try.func84.trans (congrArg some (by kernel_rfl))
  f257 := Try.func68.trans (congrArg some (by kernel_rfl))
  f294 := Try.func78.trans (congrArg some (by kernel_rfl))
  f295 := Try.func79.trans (congrArg some (by kernel_rfl))
  f296 := Try.func80.trans (congrArg some (by kernel_rfl))
  f297 := Try.func81.trans (congrArg some (by kernel_rfl))
  f298 := Try.func82.trans (congrArg some (by kernel_rfl))
  f299 := Try.func83.trans (congrArg some (by kernel_rfl))
  f300 := Try.func85.trans (congrArg some (by kernel_rfl))
  f301 := Try.func86.trans (congrArg some (by kernel_rfl))
  f328 := Try.func89.trans (congrArg some (by kernel_rfl))
  f329 := Try.func90.trans (congrArg some (by kernel_rfl))
  f330 := Try.func91.trans (congrArg some (by kernel_rfl))
  f331 := Try.func92.trans (congrArg some (by kernel_rfl))
  f332 := Try.func93.trans (congrArg some (by kernel_rfl))
  f343 := Try.func95.trans (congrArg some (by kernel_rfl))
  t0 := Try.underlying0
  a0 := Try.isAgg0
  z0 := Try.sizeOf0
  v0 := Try.zeroValue0
  t3 := Try.underlying3
  a3 := Try.isAgg3
  z3 := Try.sizeOf3
  v3 := Try.zeroValue3
  t4 := Try.underlying4
  a4 := Try.isAgg4
  z4 := Try.sizeOf4
  v4 := Try.zeroValue4
  t5 := Try.underlying5
  a5 := Try.isAgg5
  z5 := Try.sizeOf5
  v5 := Try.zeroValue5
  t9 := Try.underlying9
  a9 := Try.isAgg9
  z9 := Try.sizeOf9
  v9 := Try.zeroValue9
  t28 := Try.underlying36
  a28 := Try.isAgg36
  z28 := Try.sizeOf36
  v28 := Try.zeroValue36
  t46 := Try.underlying88
  a46 := Try.isAgg88
  z46 := Try.sizeOf88
  v46 := Try.zeroValue88
  t51 := Try.underlying102
  a51 := Try.isAgg102
  z51 := Try.sizeOf102
  v51 := Try.zeroValue102
  t53 := Try.underlying29
  a53 := Try.isAgg29
  z53 := Try.sizeOf29
  v53 := Try.zeroValue29
  t131 := Try.underlying31
  a131 := Try.isAgg31
  z131 := Try.sizeOf31
  v131 := Try.zeroValue31
  t182 := Try.underlying94
  a182 := Try.isAgg94
  z182 := Try.sizeOf94
  v182 := Try.zeroValue94
  t183 := Try.underlying95
  a183 := Try.isAgg95
  z183 := Try.sizeOf95
  v183 := Try.zeroValue95
  t218 := Try.underlying104
  a218 := Try.isAgg104
  z218 := Try.sizeOf104
  v218 := Try.zeroValue104
  t222 := Try.underlying107
  a222 := Try.isAgg107
  z222 := Try.sizeOf107
  v222 := Try.zeroValue107
  t228 := Try.underlying109
  a228 := Try.isAgg109
  z228 := Try.sizeOf109
  v228 := Try.zeroValue109
  t229 := Try.underlying110
  a229 := Try.isAgg110
  z229 := Try.sizeOf110
  v229 := Try.zeroValue110 }
open Go.Sort Go.RowKit in
theorem Try.slices_Sort_int (blk off cap : Nat) (zs : List Int) (w : World) (hH : Holds (Value.int .i64) w blk off zs.toArray) (hblk : blk < w.heap.size) (hsz : zs.length < 4611686018427387904) :
    Calls Try.prog 54 #[.slice (some ⟨blk, off, none⟩) zs.length cap] w fun e w' =>
      e = .returned (.tuple #[]) ∧ ∃ n os, w' = grow (putRow (Value.int .i64) (Sort.ahead w n) blk off (zs.mergeSort fun x y => decide (x ≤ y)).toArray) os := Any.slices_Sort_int Try.lays189 blk off cap zs w hH hblk hsz
def Try.laysNm220_ren : Go.Shelf.Ren := ⟨fun | 20 => 55 | n => n, fun | 22 => 36 | 3 => 3 | 4 => 4 | 0 => 0 | n => n, fun | n => n⟩
theorem Try.laysNm220 : Go.Proofs.Lays2.n20 Try.prog Try.laysNm220_ren := {
  mixed := by kernel_rfl
  f20 := Try.func55.trans (congrArg some (by kernel_rfl))
  t0 := Try.underlying0
  a0 := Try.isAgg0
  z0 := Try.sizeOf0
  v0 := Try.zeroValue0
  t3 := Try.underlying3
  a3 := Try.isAgg3
  z3 := Try.sizeOf3
  v3 := Try.zeroValue3
  t4 := Try.underlying4
  a4 := Try.isAgg4
  z4 := Try.sizeOf4
  v4 := Try.zeroValue4
  t22 := Try.underlying36
  a22 := Try.isAgg36
  z22 := Try.sizeOf36
  v22 := Try.zeroValue36
  i3 := by kernel_rfl }
open Go.RowKit Go.Lib Go.Sort in
/-- slices.Compact at []int: "Compact replaces consecutive runs of equal elements with a single copy. This is like the uniq command found on Unix. Compact modifies the contents of the slice s and returns the modified slice, which may have a smaller length. Compact zeroes the elements between the new length and the original length. The result preserves the nilness of s.": IT RETURNS THE SLICE CUT TO 'Lib.compact zs'; ITS CELLS HOLD 'Lib.compact zs', THEN ZERO VALUES up to the old length; all else is as it was, but for the count of draws. IN THE WORDS OF slices.Sort's CONTRACT ('Holds', 'putRow'): so the everyday 'slices.Sort(xs); xs = slices.Compact(xs)' goes from the one contract to the other. It asks 'zs.length ≤ cap' (every slice's: the reslicing 's[:k]' looks at it). Length 0, nil: '.._empty'. (LAID: no walk: one application.) -/
theorem Try.slices_Compact_int (blk off cap : Nat) (zs : List Int) (w : World) (hH : Holds (Value.int .i64) w blk off zs.toArray) (hsz : zs.length ≤ 9223372036854775807) (hcap : zs.length ≤ cap) :
    Calls Try.prog 55 #[.slice (some ⟨blk, off, none⟩) zs.length cap] w fun e w' => e = .returned (.slice (some ⟨blk, off, none⟩) (Lib.compact zs).length cap) ∧ ∃ q, w' = putRow (Value.int .i64) (Sort.ahead w q) blk off (Lib.compact zs ++ List.replicate (zs.length - (Lib.compact zs).length) 0).toArray := Any.slices_Compact_int Try.laysNm220 blk off cap zs w hH hsz hcap
open Go.RowKit Go.Lib Go.Sort in
/-- The same at a slice of length 0, a nil one too: it comes back as it is. (LAID: no walk: one application.) -/
theorem Try.slices_Compact_int_empty (a : Option Addr) (cap : Nat) (w : World) :
    Calls Try.prog 55 #[.slice a 0 cap] w fun e w' => e = .returned (.slice a 0 cap) ∧ w' = w := Any.slices_Compact_int_empty Try.laysNm220 a cap w
end Go.Proofs
/-
  slices.Sort of whole numbers.
-/
set_option linter.unusedSimpArgs false
set_option linter.unusedVariables false
set_option linter.unnecessarySimpa false
set_option linter.unusedSectionVars false
namespace Go.Proofs
namespace Ytaajajcdgaaloaa
open Go.Abs
set_option linter.unusedSimpArgs false

theorem sort_in : ∀ args w, (callFunc 54 args).run Try.prog w = .ok (.enter 54 args) w := callable_of Try.func54 (by kernel_rfl) (by kernel_rfl)
set_option maxRecDepth 100000 in
/-- Nothing is sorted: by the text. -/
theorem runs_sort0 (e : TypeId) (tg : Nat) : Runs Try.prog cfg 54 [.slice (some ⟨0, 0, none⟩) 0 tg] (AH.of [some (.arr e (ints []))])
    fun r H' => r = .ret (.tuple #[]) ∧ H' = AH.of [some (.arr e (ints []))] := by
  refine Runs.ends ?_
  refine runs_by (tbl := []) (by simp) 3 5 (af := a54) rfl ?_
  rw [a54, b54, run_eq]
  refine ⟨by simp, ?_⟩
  have w1 : IntKind.u64.wrap 0 = 0 := by decide
  have w2 : IntKind.u8.wrap 0 = 0 := by decide
  have w3 : IntKind.i64.wrap 0 = 0 := by decide
  have w4 : IntKind.i64.wrap 1 = 1 := by decide
  simp (implicitDefEqProofs := false) [forms68, a68, b68, forms69, a69, b69, forms88, a88, b88, w1, w2, w3]
  refine loop_once (sg_mono gX_ok (tabS_ok (by simp)) _ _ noY noY_mono) (by omega) ?_
  simp (implicitDefEqProofs := false) [forms78, a78, b78, w3, w4]
  refine loop_once (sg_mono gX_ok (tabS_ok (by simp)) _ _ noY noY_mono) (by omega) ?_
  simp (implicitDefEqProofs := false) [w3]
  refine ends_plan [] [0] ?_ ?_ ?_ <;> simp
theorem runs54 (e : TypeId) (l : List Int) (tg : Nat) (hl : l.length ≤ 1000000) : Runs Try.prog cfg 54 [.slice (some ⟨0, 0, none⟩) l.length tg] (AH.of [some (.arr e (ints l))])
    fun r H' => r = .ret (.tuple #[]) ∧ H' = AH.of [some (.arr e (ints (sorted l)))] := by
  by_cases hz : l = []
  · subst hz
    have : sorted [] = [] := List.eq_nil_of_length_eq_zero (by simp)
    rw [this]
    exact runs_sort0 e tg
  · exact runs_sort sort_in (fun blk off cap zs w h1 h2 h3 => Try.slices_Sort_int blk off cap zs w h1 h2 h3) e l tg hz (by omega)
def st54 : CStep GD := fun args H => match args with
  | [x] => (sl0 x).bind fun q => (getInts H q.1).map fun l => (q.2.1 = l.2.length ∧ l.2.length ≤ 1000000, .ret (.tuple #[]), H.upd q.1 (.arr l.1 (ints (sorted l.2))))
  | _ => none
theorem st54_ok : CStepOk Try.prog cfg 54 st54 := by
  intro args H p r H' h hp
  unfold st54 at h
  split at h
  case h_2 => cases h
  simp only [Option.map_eq_some_iff, Option.bind_eq_some_iff] at h
  obtain ⟨q, hq, l, hl, h⟩ := h
  cases h
  rw [sl0_inv hq, hp.1]
  exact (runs54 l.1 l.2 q.2.2 hp.2).atK (ro_none rfl) [q.1] (by simp) (by simp) (by simp [getInts_inv hl]) (by simp) (by simp) (by simp)
end Ytaajajcdgaaloaa
end Go.Proofs
/-
  slices.Compact of whole numbers.
-/
set_option linter.unusedSimpArgs false
set_option linter.unusedVariables false
set_option linter.unnecessarySimpa false
set_option linter.unusedSectionVars false
namespace Go.Proofs
namespace Ytaajajcdgaaloaa
open Go.Abs
set_option linter.unusedSimpArgs false

theorem compact_in : ∀ args w, (callFunc 55 args).run Try.prog w = .ok (.enter 55 args) w := callable_of Try.func55 (by kernel_rfl) (by kernel_rfl)
theorem runs55 (e : TypeId) (l : List Int) (tg : Nat) (hl : l.length ≤ 1000000) : Runs Try.prog cfg 55 [.slice (some ⟨0, 0, none⟩) l.length tg] (AH.of [some (.arr e (ints l))])
    fun r H' => r = .ret (.slice (some ⟨0, 0, none⟩) (Lib.compact l).length tg) ∧ H' = AH.of [some (.arr e (ints (Lib.compact l)))] := by
  by_cases hz : l = []
  · subst hz
    exact runs_compact0 compact_in (fun a cap w => Try.slices_Compact_int_empty a cap w) e tg
  · exact runs_compact compact_in (fun blk off cap zs w h1 h2 h3 => Try.slices_Compact_int blk off cap zs w h1 h2 h3) e l tg hz (by omega)
def st55 : CStep GD := fun args H => match args with
  | [x] => (sl0 x).bind fun q => (getInts H q.1).map fun l => (q.2.1 = l.2.length ∧ l.2.length ≤ 1000000, .ret (.slice (some ⟨q.1, 0, none⟩) (Lib.compact l.2).length q.2.2), H.upd q.1 (.arr l.1 (ints (Lib.compact l.2))))
  | _ => none
theorem st55_ok : CStepOk Try.prog cfg 55 st55 := by
  intro args H p r H' h hp
  unfold st55 at h
  split at h
  case h_2 => cases h
  simp only [Option.map_eq_some_iff, Option.bind_eq_some_iff] at h
  obtain ⟨q, hq, l, hl, h⟩ := h
  cases h
  rw [sl0_inv hq, hp.1]
  exact (runs55 l.1 l.2 q.2.2 hp.2).atK (ro_none rfl) [q.1] (by simp) (by simp) (by simp [getInts_inv hl]) (by simp) (by simp) (by simp)
end Ytaajajcdgaaloaa
end Go.Proofs
/-
  Stripes: those of some variables, rising, each once: the plain law.
-/
set_option linter.unusedSimpArgs false
set_option linter.unusedVariables false
set_option linter.unnecessarySimpa false
set_option linter.unusedSectionVars false
namespace Go.Proofs
namespace Ytaajajcdgaaloaa
open Go.Abs
set_option linter.unusedSimpArgs false

/-- The stripes of the first ones, as they come. -/
def strN (ws : List Int) (l : List Int) (i : Nat) : List Int := ((l.take i).map (ofT ws)).filter fun s => decide (0 ≤ s)
def stripesL (ws : List Int) (l : List Int) (n : Nat) : List Int := Lib.compact (sorted (strN ws l n))
/-- Has one of the first ones this stripe? -/
def inAt (ws : List Int) (l : List Int) (n : Nat) (s : Nat) : Bool := (l.take n).any fun t => decide (ofT ws t = s)
def rstrN (ws : List Int) (l : List Int) (n : Nat) (s : Nat) : List Int := ((List.range s).filter (inAt ws l n)).map fun i : Nat => (i : Int)
theorem strN_zero (ws l : List Int) : strN ws l 0 = [] := by simp [strN]
theorem strN_succ {ws l : List Int} {i : Nat} {t : Int} (hx : l[i]? = some t) : strN ws l (i + 1) = strN ws l i ++ (if 0 ≤ ofT ws t then [ofT ws t] else []) := by
  unfold strN
  rw [List.take_add_one, hx, List.map_append, List.filter_append]
  by_cases h : 0 ≤ ofT ws t <;> simp [h]
theorem strN_le (ws l : List Int) (i : Nat) : (strN ws l i).length ≤ i := by
  unfold strN
  have := List.length_filter_le (fun s : Int => decide (0 ≤ s)) ((l.take i).map (ofT ws))
  rw [List.length_map, List.length_take] at this
  omega
theorem inAt_zero (ws l : List Int) (s : Nat) : inAt ws l 0 s = false := by simp [inAt]
theorem inAt_succ {ws l : List Int} {i : Nat} {t : Int} (s : Nat) (hx : l[i]? = some t) : inAt ws l (i + 1) s = (inAt ws l i s || decide (ofT ws t = s)) := by
  unfold inAt
  rw [List.take_add_one, hx, List.any_append]
  simp
theorem rstrN_succ (ws l : List Int) (n s : Nat) : rstrN ws l n (s + 1) = rstrN ws l n s ++ (if inAt ws l n s then [(s : Int)] else []) := by
  unfold rstrN
  rw [List.range_succ, List.filter_append, List.map_append]
  by_cases h : inAt ws l n s <;> simp [h]
theorem rstrN_le (ws l : List Int) (n s : Nat) : (rstrN ws l n s).length ≤ s := by
  unfold rstrN
  rw [List.length_map]
  have := List.length_filter_le (inAt ws l n) (List.range s)
  simpa using this
theorem rstrN_strict (ws l : List Int) (n s : Nat) : (rstrN ws l n s).Pairwise (· < ·) := by
  induction s with
  | zero => simp [rstrN]
  | succ s ih =>
    rw [rstrN_succ, List.pairwise_append]
    refine ⟨ih, by split <;> simp, fun a ha b hb => ?_⟩
    have hb' : b = s := by
      split at hb
      · simpa using hb
      · simp at hb
    subst hb'
    unfold rstrN at ha
    obtain ⟨i, hi, rfl⟩ := List.mem_map.1 ha
    have := List.mem_range.1 (List.mem_filter.1 hi).1
    omega
theorem stripes_same {ws : List Int} {c : Int} (h : GoodT ws c) (l : List Int) (n : Nat) : stripesL ws l n = rstrN ws l n ws.length := by
  refine strict_ext (compact_strict _) (rstrN_strict ws l n ws.length) fun v => ?_
  unfold stripesL
  rw [compact_mem]
  unfold strN rstrN inAt
  simp only [List.mem_filter, List.mem_map, List.mem_range, decide_eq_true_eq, List.any_eq_true]
  constructor
  · rintro ⟨⟨t, ht, rfl⟩, h0⟩
    have hlt : ofT ws t < ws.length := by
      by_cases hb : 0 ≤ t ∧ t < 12
      · exact (ofT_lt h hb).2
      · unfold ofT at h0; rw [if_neg hb] at h0; omega
    exact ⟨(ofT ws t).toNat, ⟨by omega, t, ht, by omega⟩, by omega⟩
  · rintro ⟨i, ⟨_, t, ht, e⟩, rfl⟩
    exact ⟨⟨t, ht, e⟩, by omega⟩
end Ytaajajcdgaaloaa
end Go.Proofs
/-
  Stripes of some variables: both walked; the law's run.
-/
set_option linter.unusedSimpArgs false
set_option linter.unusedVariables false
set_option linter.unnecessarySimpa false
set_option linter.unusedSectionVars false
namespace Go.Proofs
namespace Ytaajajcdgaaloaa
open Go.Abs
set_option linter.unusedSimpArgs false

def tblSs : List (FuncId × CStep GD) := [(24, st24), (54, st54), (55, st55), (25, st25), (56, st56)]
theorem tblSs_ok : ∀ x ∈ tblSs, CStepOk Try.prog cfg x.1 x.2 := by simp [tblSs, st24_ok, st54_ok, st55_ok, st25_ok, st56_ok]
set_option maxHeartbeats 4000000 in
theorem runs27 (ws : List Int) (c : Int) (l : List Int) (n tg : Nat) (h : GoodT ws c) (hn : n ≤ l.length) (hs : n ≤ 1000) : Runs Try.prog cfg 27 [.pointer (some ⟨0, 0, none⟩), .slice (some ⟨1, 0, none⟩) n tg] (AH.of [some (.hi (.tab ws c)), some (.ro (ints l))])
    fun r H' => r = .ret (.slice (some ⟨2, 0, none⟩) (stripesL ws l n).length 1) ∧ H' = AH.of [some (.hi (.tab ws c)), some (.ro (ints l)), some (.arr 3 (ints (stripesL ws l n)))] := by
  refine Runs.ends ?_
  refine runs_by (tbl := tblSs) tblSs_ok 1001 0 (af := a27) rfl ?_
  rw [a27, b27, run_eq]
  refine ⟨by simp, ?_⟩
  simp (implicitDefEqProofs := false)
  refine loop_view (sg_mono gX_ok (tabS_ok tblSs_ok) _ _ noY noY_mono) (fun m tm H => ∃ i : Nat, m + i = n ∧ tm 0 = .pointer (some ⟨0, 0, none⟩) ∧ tm 9 = .slice (some ⟨1, 0, none⟩) n tg ∧ tm 10 = .int .i64 n ∧ tm 11 = .int .i64 i ∧ tm 5 = .slice (some ⟨2, 0, none⟩) (strN ws l i).length 1 ∧
    H = AH.of [some (.hi (.tab ws c)), some (.ro (ints l)), some (.arr 3 (ints (strN ws l i)))]) (m := n) ?_ (by omega) ?_
  · refine round_wk [.nil 3] [0, 1, 2] [some (.hi (.tab ws c)), some (.ro (ints l)), some (.arr 3 (ints []))] [(5, .slice (some ⟨2, 0, none⟩) 0 1)] n (by omega) ?_ ?_ ?_ ⟨0, ?_⟩ <;> simp [strN_zero, show ints [] = [] from rfl]
  rintro m tm H ⟨i, hm, t0, t9, t10, t11, t5, rfl⟩
  have hle := strN_le ws l i
  by_cases hi : i < n
  · obtain ⟨x, hx⟩ : ∃ x, l[i]? = some x := ⟨l[i]'(by omega), List.getElem?_eq_getElem (by omega)⟩
    have hi' : (i : Int) < n := by omega
    have hil : i < l.length := by omega
    have hwr := inc_i64 hi (by omega)
    have hsuc := strN_succ (ws := ws) hx
    have hat := ints_at hx
    have hget := ints_get hx
    have hr3 : ((strN ws l i).length + 1) * 8 ≤ 140737488355328 ∧ (strN ws l i).length ≤ 9223372036854775806 := by omega
    have htk := take_ints (strN ws l i)
    by_cases hp : 0 ≤ ofT ws x
    · rw [if_pos hp] at hsuc
      simp (implicitDefEqProofs := false) [tblSs, st24, h, t0, t9, t10, t11, t5, hi, hi', hil, hwr, hat, hget, hp, hr3, htk]
      refine round_plan [] [0, 1, 4] [some (.hi (.tab ws c)), some (.ro (ints l)), some (.arr 3 (ints (strN ws l (i + 1))))] (m - 1) (by omega) ?_ ?_ ⟨i + 1, by omega, ?_⟩ <;> simp [t0, t9, t10, t11, t5, hsuc, ints_append, ints_single]
    · rw [if_neg hp] at hsuc
      simp (implicitDefEqProofs := false) [tblSs, st24, h, t0, t9, t10, t11, t5, hi, hi', hil, hwr, hat, hget, hp, hr3, htk]
      refine round_plan [] [0, 1, 2] [some (.hi (.tab ws c)), some (.ro (ints l)), some (.arr 3 (ints (strN ws l (i + 1))))] (m - 1) (by omega) ?_ ?_ ⟨i + 1, by omega, ?_⟩ <;> simp [t0, t9, t10, t11, t5, hsuc]
  · have hie : i = n := by omega
    subst hie
    have hb : (strN ws l i).length ≤ 1000000 := by omega
    simp (implicitDefEqProofs := false) [tblSs, st54, st55, sl0, getInts, t0, t9, t10, t11, t5, hb]
    refine ends_plan [] [0, 1, 2] ?_ ?_ ?_ <;> simp [stripesL]
set_option maxHeartbeats 4000000 in
theorem runs28 (ws : List Int) (c : Int) (l : List Int) (n tg : Nat) (h : GoodT ws c) (hn : n ≤ l.length) (hs : n ≤ 1000) : Runs Try.prog cfg 28 [.pointer (some ⟨0, 0, none⟩), .slice (some ⟨1, 0, none⟩) n tg] (AH.of [some (.hi (.rtab ws c)), some (.ro (ints l))])
    fun r H' => r = .ret (.slice (some ⟨2, 0, none⟩) (stripesL ws l n).length 1) ∧ H' = AH.of [some (.hi (.rtab ws c)), some (.ro (ints l)), some (.arr 3 (ints (stripesL ws l n)))] := by
  refine Runs.ends ?_
  have h8 := h.len8
  rw [stripes_same h]
  refine runs_by (tbl := tblSs) tblSs_ok 1001 0 (af := a28) rfl ?_
  rw [a28, b28, run_eq]
  refine ⟨by simp, ?_⟩
  simp (implicitDefEqProofs := false)
  refine loop_view (sg_mono gX_ok (tabS_ok tblSs_ok) _ _ noY noY_mono) (fun m tm H => ∃ s : Nat, m + s = ws.length ∧ tm 0 = .pointer (some ⟨0, 0, none⟩) ∧ tm 1 = .slice (some ⟨1, 0, none⟩) n tg ∧ tm 6 = .int .i64 s ∧ tm 5 = .slice (some ⟨2, 0, none⟩) (rstrN ws l n s).length 1 ∧
    H = AH.of [some (.hi (.rtab ws c)), some (.ro (ints l)), some (.arr 3 (ints (rstrN ws l n s)))]) (m := ws.length) ?_ (by omega) ?_
  · refine round_wk [.nil 3] [0, 1, 2] [some (.hi (.rtab ws c)), some (.ro (ints l)), some (.arr 3 (ints []))] [(5, .slice (some ⟨2, 0, none⟩) 0 1)] ws.length (by omega) ?_ ?_ ?_ ⟨0, ?_⟩ <;> simp [rstrN, show ints [] = [] from rfl]
  rintro m tm H ⟨s, hm, t0, t1, t6, t5, rfl⟩
  by_cases hi : s < ws.length
  · have hmay := mayC_in hi
    have hwr := inc_i64 hi (by omega)
    have hle := rstrN_le ws l n s
    have hsuc := rstrN_succ ws l n s
    have hr3 : ((rstrN ws l n s).length + 1) * 8 ≤ 140737488355328 ∧ (rstrN ws l n s).length ≤ 9223372036854775806 := by omega
    have htk := take_ints (rstrN ws l n s)
    simp (implicitDefEqProofs := false) [tblSs, st56, h, hmay, t0, t1, t5, t6]
    refine loop_inv (sg_mono gX_ok (tabS_ok tblSs_ok) _ _ noY noY_mono) (fun m2 tm H => ∃ i : Nat, m2 + i = n ∧ tm 0 = .pointer (some ⟨0, 0, none⟩) ∧ tm 1 = .slice (some ⟨1, 0, none⟩) n tg ∧ tm 6 = .int .i64 s ∧ tm 5 = .slice (some ⟨2, 0, none⟩) (rstrN ws l n s).length 1 ∧ tm 7 = .bool (inAt ws l i s) ∧ tm 8 = .int .i64 i ∧
      H = AH.of [some (.hi (.rtab ws c)), some (.ro (ints l)), some (.arr 3 (ints (rstrN ws l n s)))]) (m := n) ⟨0, by simp [t0, t1, t5, t6, inAt_zero]⟩ (by omega) ?_
    rintro m2 tm2 H2 ⟨i, hm2, u0, u1, u6, u5, u7, u8, rfl⟩
    by_cases hin : i < n
    · obtain ⟨x, hx⟩ : ∃ x, l[i]? = some x := ⟨l[i]'(by omega), List.getElem?_eq_getElem (by omega)⟩
      have hin' : (i : Int) < n := by omega
      have hil : i < l.length := by omega
      have hwi := inc_i64 hin (by omega)
      have hat := ints_at hx
      have hget := ints_get hx
      have hia := inAt_succ (ws := ws) s hx
      cases hb : inAt ws l i s with
      | true =>
        rw [hb] at u7 hia
        simp (implicitDefEqProofs := false) [tblSs, st25, h, u0, u1, u5, u6, u7, u8, hin, hin', hil, hwi, hat, hget]
        exact ⟨m2 - 1, by omega, i + 1, by omega, by simp [hia], by omega⟩
      | false =>
        rw [hb] at u7 hia
        simp (implicitDefEqProofs := false) [tblSs, st25, h, u0, u1, u5, u6, u7, u8, hin, hin', hil, hwi, hat, hget]
        exact ⟨m2 - 1, by omega, i + 1, by omega, by simp [hia], by omega⟩
    · have hie : i = n := by omega
      subst hie
      cases hb : inAt ws l i s with
      | true =>
        rw [hb] at u7 hsuc
        simp (implicitDefEqProofs := false) [u0, u1, u5, u6, u7, u8, hwr, hr3, htk]
        refine round_plan [] [0, 1, 4] [some (.hi (.rtab ws c)), some (.ro (ints l)), some (.arr 3 (ints (rstrN ws l i (s + 1))))] (m - 1) (by omega) ?_ ?_ ⟨s + 1, by omega, ?_⟩ <;> simp [u0, u1, u5, u6, hsuc, ints_append, ints_single]
      | false =>
        rw [hb] at u7 hsuc
        simp (implicitDefEqProofs := false) [u0, u1, u5, u6, u7, u8, hwr, hr3, htk]
        refine round_plan [] [0, 1, 2] [some (.hi (.rtab ws c)), some (.ro (ints l)), some (.arr 3 (ints (rstrN ws l i (s + 1))))] (m - 1) (by omega) ?_ ?_ ⟨s + 1, by omega, ?_⟩ <;> simp [u0, u1, u5, u6, hsuc]
  · have hmay := mayC_out hi
    have hil : s = ws.length := by omega
    simp (implicitDefEqProofs := false) [tblSs, st56, h, hmay, t0, t1, t5, t6]
    refine ends_plan [] [0, 1, 2] ?_ ?_ ?_ <;> simp [hil]
def st27 : CStep GD := fun args H => match args with
  | [.pointer (some ⟨k, 0, none⟩), .slice (some ⟨j, 0, none⟩) n tg] => match H.get k with
    | some (.hi (.tab ws c)) => match H.get j with
      | some (.ro cs) => (asInts cs).map fun l => (GoodT ws c ∧ n ≤ l.length ∧ n ≤ 1000, .ret (.slice (some ⟨H.next, 0, none⟩) (stripesL ws l n).length 1), H.add (.arr 3 (ints (stripesL ws l n))))
      | _ => none
    | _ => none
  | _ => none
theorem st27_ok : CStepOk Try.prog cfg 27 st27 := by
  intro args H p r H' h hp
  unfold st27 at h
  split at h
  case h_2 => cases h
  split at h
  case h_2 => cases h
  split at h
  case h_2 => cases h
  simp only [Option.map_eq_some_iff] at h
  obtain ⟨l, hl, h⟩ := h
  rename_i k j n tg x1 ws c hk x2 cs hj
  cases h
  rw [asInts_inv hl] at hj
  have hkj : k ≠ j := by rintro rfl; rw [hk] at hj; cases hj
  exact (runs27 ws c l n tg hp.1 hp.2.1 hp.2.2).atK (ro_same fun i cs hi => by rcases i with _ | _ | _ | i <;> simp at hi ⊢; exact hi) [k, j] (by simp [hkj]) (by simp) (by simp [hk, hj]) (by simp) (by simp) (by simp [upd_get hk, upd_get hj])
def st28 : CStep GD := fun args H => match args with
  | [.pointer (some ⟨k, 0, none⟩), .slice (some ⟨j, 0, none⟩) n tg] => match H.get k with
    | some (.hi (.rtab ws c)) => match H.get j with
      | some (.ro cs) => (asInts cs).map fun l => (GoodT ws c ∧ n ≤ l.length ∧ n ≤ 1000, .ret (.slice (some ⟨H.next, 0, none⟩) (stripesL ws l n).length 1), H.add (.arr 3 (ints (stripesL ws l n))))
      | _ => none
    | _ => none
  | _ => none
theorem st28_ok : CStepOk Try.prog cfg 28 st28 := by
  intro args H p r H' h hp
  unfold st28 at h
  split at h
  case h_2 => cases h
  split at h
  case h_2 => cases h
  split at h
  case h_2 => cases h
  simp only [Option.map_eq_some_iff] at h
  obtain ⟨l, hl, h⟩ := h
  rename_i k j n tg x1 ws c hk x2 cs hj
  cases h
  rw [asInts_inv hl] at hj
  have hkj : k ≠ j := by rintro rfl; rw [hk] at hj; cases hj
  exact (runs28 ws c l n tg hp.1 hp.2.1 hp.2.2).atK (ro_same fun i cs hi => by rcases i with _ | _ | _ | i <;> simp at hi ⊢; exact hi) [k, j] (by simp [hkj]) (by simp) (by simp [hk, hj]) (by simp) (by simp) (by simp [upd_get hk, upd_get hj])
end Ytaajajcdgaaloaa
end Go.Proofs
/-
  Stripes: the law of those of some variables.
-/
set_option linter.unusedSimpArgs false
set_option linter.unusedVariables false
set_option linter.unnecessarySimpa false
set_option linter.unusedSectionVars false
namespace Go.Proofs
namespace Ytaajajcdgaaloaa
open Go.Abs
set_option linter.unusedSimpArgs false

def tblSo : List (FuncId × CStep GD) := [(8, st8), (9, st9), (24, st24), (25, st25), (27, st27), (28, st28), (26, st26), (10, st10)]
theorem tblSo_ok : ∀ x ∈ tblSo, CStepOk Try.prog cfg x.1 x.2 := by simp [tblSo, st8_ok, st9_ok, st24_ok, st25_ok, st27_ok, st28_ok, st26_ok, st10_ok]
theorem stripesL_le (ws l : List Int) (n : Nat) : (stripesL ws l n).length ≤ n := by
  have h1 := Go.Abs.compact_le (sorted (strN ws l n))
  have h2 := strN_le ws l n
  rw [sorted_length] at h1
  unfold stripesL
  omega
set_option maxHeartbeats 4000000 in
theorem runs7 (n : Int) (hn : 0 ≤ n ∧ n < 256) (t : Int) (l : List Int) (tg : Nat) : Runs Try.prog cfg 7 [.int .u8 n, .int .i64 t, .slice (some ⟨0, 0, none⟩) l.length tg] (AH.of [some (.ro (ints l))])
    fun r H' => r = .ret (.bool true) ∧ H' = AH.of [some (.ro (ints l))] := by
  refine Runs.ends ?_
  refine runs_by (tbl := tblSo) tblSo_ok 0 0 (af := a7) rfl ?_
  rw [a7, b7, run_eq]
  refine ⟨by simp, ?_⟩
  have hk := kOf_le n
  have hg := GoodT.new hk.1 hk.2
  have hof : (0 ≤ t ∧ t < 12) → 0 ≤ ofT (newL (kOf n)) t ∧ ofT (newL (kOf n)) t < (newL (kOf n)).length := fun h => ofT_lt hg h
  by_cases h20 : 20 < l.length
  · have h20' : (20 : Int) < l.length := by omega
    have h20i : (20 : Int) ≤ l.length := by omega
    have hle := stripesL_le (newL (kOf n)) l 20
    have hb : (stripesL (newL (kOf n)) l 20).length ≤ 1000000 := by omega
    have h20n : 20 ≤ l.length := by omega
    by_cases ht : 0 ≤ t ∧ t < 12
    · have e1 : ¬ t < 0 := by omega
      have e2 : ¬ 12 ≤ t := by omega
      have e3 := (hof ht).1
      have e4 := (hof ht).2
      simp (implicitDefEqProofs := false) [tblSo, st8, stPlay1, stPlay0, CStep.or, st9, st24, st25, st27, st28, st26, st10, sl0, getInts, hn, hg, h20, h20', h20i, h20n, hb, e1, e2, e3, e4]
      refine ends_plan [] [0] ?_ ?_ ?_ <;> simp
    by_cases ht1 : t < 0
    · simp (implicitDefEqProofs := false) [tblSo, st8, stPlay1, stPlay0, CStep.or, st9, st24, st25, st27, st28, st26, st10, sl0, getInts, hn, hg, h20, h20', h20i, h20n, hb, ht1]
      refine ends_plan [] [0] ?_ ?_ ?_ <;> simp
    · have e2 : 12 ≤ t := by omega
      simp (implicitDefEqProofs := false) [tblSo, st8, stPlay1, stPlay0, CStep.or, st9, st24, st25, st27, st28, st26, st10, sl0, getInts, hn, hg, h20, h20', h20i, h20n, hb, ht1, e2]
      refine ends_plan [] [0] ?_ ?_ ?_ <;> simp
  · have h20' : ¬ (20 : Int) < l.length := by omega
    have hle := stripesL_le (newL (kOf n)) l l.length
    have hb : (stripesL (newL (kOf n)) l l.length).length ≤ 1000000 := by omega
    have h1k : l.length ≤ 1000 := by omega
    by_cases ht : 0 ≤ t ∧ t < 12
    · have e1 : ¬ t < 0 := by omega
      have e2 : ¬ 12 ≤ t := by omega
      have e3 := (hof ht).1
      have e4 := (hof ht).2
      simp (implicitDefEqProofs := false) [tblSo, st8, stPlay1, stPlay0, CStep.or, st9, st24, st25, st27, st28, st26, st10, sl0, getInts, hn, hg, h20, h20', h1k, hb, e1, e2, e3, e4]
      refine ends_plan [] [0] ?_ ?_ ?_ <;> simp
    by_cases ht1 : t < 0
    · simp (implicitDefEqProofs := false) [tblSo, st8, stPlay1, stPlay0, CStep.or, st9, st24, st25, st27, st28, st26, st10, sl0, getInts, hn, hg, h20, h20', h1k, hb, ht1]
      refine ends_plan [] [0] ?_ ?_ ?_ <;> simp
    · have e2 : 12 ≤ t := by omega
      simp (implicitDefEqProofs := false) [tblSo, st8, stPlay1, stPlay0, CStep.or, st9, st24, st25, st27, st28, st26, st10, sl0, getInts, hn, hg, h20, h20', h1k, hb, ht1, e2]
      refine ends_plan [] [0] ?_ ?_ ?_ <;> simp
end Ytaajajcdgaaloaa
end Go.Proofs
