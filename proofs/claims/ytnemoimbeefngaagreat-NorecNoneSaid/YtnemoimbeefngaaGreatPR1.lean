/-
  THE DATA, and how each lies.
-/
import Derived.Test.YtnemoimbeefngaaGreatPF
import Derived.Test.YtnemoimbeefngaaGreatPA3
import Derived.Test.YtnemoimbeefngaaGreatRows
set_option linter.unusedSimpArgs false
set_option linter.unusedVariables false
set_option linter.unnecessarySimpa false
set_option linter.unusedSectionVars false
namespace Go.Proofs
namespace YtnemoimbeefngaaGreat
open Go.Abs

structure Ent where
  t : Int
  v : Int
  n : Int
  deriving DecidableEq

/-- A variable and a value. -/
structure Pr where
  t : Int
  v : Int
  deriving DecidableEq
/-- An event. -/
structure Ev where
  k : Int
  a : Int
  t : Int
  v : Int
  deriving DecidableEq
/-- What is asked for. -/
structure Ak where
  k : Int
  t : Int
  v : Int
  deriving DecidableEq
/-- An attempt of norec: its number, snapshot, reads, frames (the uppermost first), what is asked for, and how far it is. -/
structure Att where
  n : Nat
  snap : Int
  es : List Ent
  fs : List (List Pr)
  asked : Bool
  ra : Ak
  at_ : Nat
  back : Nat
  nx : Nat
  seen : Int
  val : Int
  dec : Bool
  deriving DecidableEq
/-- norec: who has the lock, what it counts, the heap, the threads, events, keys, reasons. -/
structure NS where
  o : Option Int
  c : Int
  hp : List Int
  ts : Nat → Option Att
  ev : List Ev
  ky : List Int
  wy : List Int

inductive GD where
  | lk (o : Option Int) (c : Int)
  | rlk (o : Option Int) (c : Int)
  | stk (fs : List (List Pr))
  | log (fs : List (List Pr))
  | rlog (fs : List (List Pr))
  | att (a : Att)
  | ratt (a : Att)
  | eng (s : NS)
  | reng (s : NS)
  | set (c : Nat) (l : List Ent)
  | rset (l : List Ent)
  | tab (ws : List Int) (c : Int)
  | rtab (ws : List Int) (c : Int)
  | vints (l : List Int)

def Ent.cells (e : Ent) : List Value := [.int .i64 e.t, .int .u64 e.v, .int .u64 e.n]
def Ent.val (e : Ent) : Value := .agg e.cells.toArray
def epairs (l : List Ent) : List (Value × Value) := l.map fun e => (.int .i64 e.t, e.val)
def tvars (l : List Ent) : List Value := l.map fun e => .int .i64 e.t
def rows (l : List Ent) : List Value := l.flatMap Ent.cells
def us (h : List Int) : List Value := h.map fun v => .int .u64 v

def Pr.cells (p : Pr) : List Value := [.int .i64 p.t, .int .u64 p.v]
def prs (l : List Pr) : List Value := l.flatMap Pr.cells
def Ev.cells (e : Ev) : List Value := [.int .u8 e.k, .int .i64 e.a, .int .i64 e.t, .int .u64 e.v]
def evs (l : List Ev) : List Value := l.flatMap Ev.cells
def u8s (l : List Int) : List Value := l.map fun v => .int .u8 v
/-- What the program keeps of it. -/
def Att.ask (a : Att) : Ak := if a.asked then a.ra else ⟨0, 0, 0⟩
def nextP : List (List Pr) → Value
  | [] => .pointer none
  | _ :: _ => .pointer (some ⟨2, 0, none⟩)
def nextO : List (List Pr) → List (AObj GD)
  | [] => []
  | f :: fs => [.hi (.stk (f :: fs))]
def stkO : List (List Pr) → List (AObj GD)
  | [] => [.arr 220 []]
  | f :: fs => .arr 220 [.slice (some ⟨1, 0, none⟩) f.length 1, nextP fs] :: .arr 157 (prs f) :: nextO fs
def lkO : Option Int → Int → List (AObj GD)
  | none, c => [.arr 152 [.pointer none, .int .u64 c]]
  | some x, c => [.arr 152 [.pointer (some ⟨1, 0, none⟩), .int .u64 c], .arr 3 [.int .i64 x]]
/-- A frame's value of a variable. -/
def getP (f : List Pr) (t : Int) : Option Int := (f.find? fun p => p.t == t).map (·.v)
def tv12 : List Int := [0, 1, 2, 3, 4, 5, 6, 7, 8, 9, 10, 11]
def frameC (f : List Pr) : List Value := (tv12.map fun t => .bool (getP f t).isSome) ++ tv12.map fun t => .int .u64 ((getP f t).getD 0)
def slotO : Option Att → AObj GD
  | some a => .hi (.att a)
  | none => .arr 100 []
def rslotO : Option Att → AObj GD
  | some a => .hi (.ratt a)
  | none => .arr 123 []
def tp1 (i : Int) (k : Nat) : Option Att → List (Value × Value)
  | some _ => [(.int .i64 i, .pointer (some ⟨k, 0, none⟩))]
  | none => []
/-- The threads' map. -/
def tpK (k0 k1 k2 k3 : Nat) (ts : Nat → Option Att) : List (Value × Value) := tp1 0 k0 (ts 0) ++ (tp1 1 k1 (ts 1) ++ (tp1 2 k2 (ts 2) ++ tp1 3 k3 (ts 3)))
def rptr (k : Nat) : Option Att → Value
  | some _ => .pointer (some ⟨k, 0, none⟩)
  | none => .pointer none
/-- A key and a reason, as the reference keeps them. -/
def keyC (ky wy : List Int) : List Value := (ky.zip wy).flatMap fun x => [.int .u64 x.1, .int .u8 x.2]

def frag : GD → List (AObj GD)
  | .lk o c => lkO o c
  | .rlk o c => [.arr 168 [.int .u64 c, .bool o.isSome, .int .i64 (o.getD 0)]]
  | .stk fs => stkO fs
  | .log fs => [.arr 166 [.pointer (some ⟨1, 0, none⟩), .int .i64 ((fs.length : Int) - 1)], .hi (.stk fs)]
  | .rlog fs => [.arr 173 [.slice (some ⟨1, 0, none⟩) fs.length 1], .arr 214 (fs.reverse.flatMap frameC)]
  | .att a => [.arr 100 [.pointer (some ⟨1, 0, none⟩), .pointer (some ⟨2, 0, none⟩), .int .i64 a.n, .int .u64 a.snap, .int .u8 a.ask.k, .int .i64 a.ask.t, .int .u64 a.ask.v, .int .i64 a.at_, .int .i64 a.back, .int .i64 a.nx, .int .u64 a.seen, .int .u64 a.val, .bool a.dec],
      .hi (.set 0 a.es), .hi (.log a.fs)]
  | .ratt a => [.arr 123 [.int .i64 a.n, .int .u64 a.snap, .pointer (some ⟨1, 0, none⟩), .pointer (some ⟨2, 0, none⟩), .bool a.asked, .int .u8 a.ra.k, .int .i64 a.ra.t, .int .u64 a.ra.v, .int .i64 (if a.at_ < 4 then a.at_ else a.at_ + 6), .int .i64 a.back, .int .i64 a.nx, .int .u64 a.seen, .int .u64 a.val, .bool a.dec],
      .hi (.rset a.es), .hi (.rlog a.fs)]
  | .eng s => [.arr 90 [.pointer (some ⟨1, 0, none⟩), .slice (some ⟨2, 0, none⟩) s.hp.length 1, .map (some 3), .slice (some ⟨4, 0, none⟩) s.ev.length 1, .slice (some ⟨5, 0, none⟩) s.ky.length 1, .slice (some ⟨6, 0, none⟩) s.wy.length 1],
      .hi (.lk s.o s.c), .arr 49 (us s.hp), .mapq (tpK 7 8 9 10 s.ts), .arr 84 (evs s.ev), .arr 38 (us s.ky), .arr 61 (u8s s.wy), slotO (s.ts 0), slotO (s.ts 1), slotO (s.ts 2), slotO (s.ts 3)]
  | .reng s => [.arr 118 [.slice (some ⟨1, 0, none⟩) s.hp.length 1, .pointer (some ⟨2, 0, none⟩), rptr 5 (s.ts 0), rptr 6 (s.ts 1), rptr 7 (s.ts 2), rptr 8 (s.ts 3), .slice (some ⟨3, 0, none⟩) s.ev.length 1, .slice (some ⟨4, 0, none⟩) s.ky.length 1],
      .arr 49 (us s.hp), .hi (.rlk s.o s.c), .arr 84 (evs s.ev), .arr 159 (keyC s.ky s.wy), rslotO (s.ts 0), rslotO (s.ts 1), rslotO (s.ts 2), rslotO (s.ts 3)]
  | .set c l => [.arr 163 [.slice (some ⟨1, 0, none⟩) l.length 1, .map (some 2)], .arr 3 (tvars l), .mapq (epairs l)]
  | .rset l => [.arr 170 [.slice (some ⟨1, 0, none⟩) l.length 1], .arr 155 (rows l)]
  | .tab ws c => [.arr 0 [.int .u64 c, .slice (some ⟨1, 0, none⟩) ws.length 1], .arr 38 (us ws)]
  | .rtab ws c => [.arr 0 [.slice (some ⟨1, 0, none⟩) ws.length 1, .int .u64 c], .arr 38 (us ws)]
  | .vints l => [.arr 33 [.slice (some ⟨1, 0, none⟩) l.length 1], .arr 3 (ints l)]

theorem frag_lk0 (c : Int) : frag (.lk none c) = [.arr 152 [.pointer none, .int .u64 c]] := rfl
theorem frag_lk1 (x c : Int) : frag (.lk (some x) c) = [.arr 152 [.pointer (some ⟨1, 0, none⟩), .int .u64 c], .arr 3 [.int .i64 x]] := rfl
theorem frag_rlk (o : Option Int) (c : Int) : frag (.rlk o c) = [.arr 168 [.int .u64 c, .bool o.isSome, .int .i64 (o.getD 0)]] := rfl
theorem frag_stk1 (f : List Pr) : frag (.stk [f]) = [.arr 220 [.slice (some ⟨1, 0, none⟩) f.length 1, .pointer none], .arr 157 (prs f)] := rfl
theorem frag_stk2 (f g : List Pr) (fs : List (List Pr)) : frag (.stk (f :: g :: fs)) = [.arr 220 [.slice (some ⟨1, 0, none⟩) f.length 1, .pointer (some ⟨2, 0, none⟩)], .arr 157 (prs f), .hi (.stk (g :: fs))] := rfl
theorem frag_stk (f : List Pr) (fs : List (List Pr)) : frag (.stk (f :: fs)) = .arr 220 [.slice (some ⟨1, 0, none⟩) f.length 1, nextP fs] :: .arr 157 (prs f) :: nextO fs := rfl
theorem frag_log (fs : List (List Pr)) : frag (.log fs) = [.arr 166 [.pointer (some ⟨1, 0, none⟩), .int .i64 ((fs.length : Int) - 1)], .hi (.stk fs)] := rfl
theorem frag_rlog (fs : List (List Pr)) : frag (.rlog fs) = [.arr 173 [.slice (some ⟨1, 0, none⟩) fs.length 1], .arr 214 (fs.reverse.flatMap frameC)] := rfl
theorem frag_att (a : Att) : frag (.att a) = [.arr 100 [.pointer (some ⟨1, 0, none⟩), .pointer (some ⟨2, 0, none⟩), .int .i64 a.n, .int .u64 a.snap, .int .u8 a.ask.k, .int .i64 a.ask.t, .int .u64 a.ask.v, .int .i64 a.at_, .int .i64 a.back, .int .i64 a.nx, .int .u64 a.seen, .int .u64 a.val, .bool a.dec],
      .hi (.set 0 a.es), .hi (.log a.fs)] := rfl
theorem frag_ratt (a : Att) : frag (.ratt a) = [.arr 123 [.int .i64 a.n, .int .u64 a.snap, .pointer (some ⟨1, 0, none⟩), .pointer (some ⟨2, 0, none⟩), .bool a.asked, .int .u8 a.ra.k, .int .i64 a.ra.t, .int .u64 a.ra.v, .int .i64 (if a.at_ < 4 then a.at_ else a.at_ + 6), .int .i64 a.back, .int .i64 a.nx, .int .u64 a.seen, .int .u64 a.val, .bool a.dec],
      .hi (.rset a.es), .hi (.rlog a.fs)] := rfl
theorem frag_eng (s : NS) : frag (.eng s) = [.arr 90 [.pointer (some ⟨1, 0, none⟩), .slice (some ⟨2, 0, none⟩) s.hp.length 1, .map (some 3), .slice (some ⟨4, 0, none⟩) s.ev.length 1, .slice (some ⟨5, 0, none⟩) s.ky.length 1, .slice (some ⟨6, 0, none⟩) s.wy.length 1],
      .hi (.lk s.o s.c), .arr 49 (us s.hp), .mapq (tpK 7 8 9 10 s.ts), .arr 84 (evs s.ev), .arr 38 (us s.ky), .arr 61 (u8s s.wy), slotO (s.ts 0), slotO (s.ts 1), slotO (s.ts 2), slotO (s.ts 3)] := rfl
theorem frag_reng (s : NS) : frag (.reng s) = [.arr 118 [.slice (some ⟨1, 0, none⟩) s.hp.length 1, .pointer (some ⟨2, 0, none⟩), rptr 5 (s.ts 0), rptr 6 (s.ts 1), rptr 7 (s.ts 2), rptr 8 (s.ts 3), .slice (some ⟨3, 0, none⟩) s.ev.length 1, .slice (some ⟨4, 0, none⟩) s.ky.length 1],
      .arr 49 (us s.hp), .hi (.rlk s.o s.c), .arr 84 (evs s.ev), .arr 159 (keyC s.ky s.wy), rslotO (s.ts 0), rslotO (s.ts 1), rslotO (s.ts 2), rslotO (s.ts 3)] := rfl
theorem frag_set (c : Nat) (l : List Ent) : frag (.set c l) = [.arr 163 [.slice (some ⟨1, 0, none⟩) l.length 1, .map (some 2)], .arr 3 (tvars l), .mapq (epairs l)] := rfl
theorem frag_rset (l : List Ent) : frag (.rset l) = [.arr 170 [.slice (some ⟨1, 0, none⟩) l.length 1], .arr 155 (rows l)] := rfl
theorem frag_tab (ws : List Int) (c : Int) : frag (.tab ws c) = [.arr 0 [.int .u64 c, .slice (some ⟨1, 0, none⟩) ws.length 1], .arr 38 (us ws)] := rfl
theorem frag_rtab (ws : List Int) (c : Int) : frag (.rtab ws c) = [.arr 0 [.slice (some ⟨1, 0, none⟩) ws.length 1, .int .u64 c], .arr 38 (us ws)] := rfl
theorem frag_vints (l : List Int) : frag (.vints l) = [.arr 33 [.slice (some ⟨1, 0, none⟩) l.length 1], .arr 3 (ints l)] := rfl

abbrev cfg := cfgOf Tryz.prog frag
abbrev G := gX Tryz.prog frag

/-- The rule, over this seat's forms. -/
theorem runs_by {tbl : List (FuncId × CStep GD)} (h : ∀ x ∈ tbl, CStepOk Tryz.prog cfg x.1 x.2) (F d : Nat) {f : FuncId} {af : AF} (hf : forms f = some af) {args : List Value} {H : AH GD} {K : AEnd → AH GD → Prop}
    (hr : af.run (G (callX G (tabS (SeesG Tryz.prog cfg) tbl) forms F d noY) (callX G (tabS (SeesG Tryz.prog cfg) tbl) forms F d)) F args H K) : Runs Tryz.prog cfg f args H K :=
  runs_of gX_ok hmix hext (tabS_ok h) forms_ok F d hf hr
end YtnemoimbeefngaaGreat
end Go.Proofs
/-
  WHAT IS READ off arguments and heaps.
-/
set_option linter.unusedSimpArgs false
set_option linter.unusedVariables false
set_option linter.unnecessarySimpa false
set_option linter.unusedSectionVars false
namespace Go.Proofs
namespace YtnemoimbeefngaaGreat
open Go.Abs
set_option linter.unusedSimpArgs false

def ptr0 : Value → Option Nat
  | .pointer (some ⟨k, 0, none⟩) => some k
  | _ => none
theorem ptr0_eq (k : Nat) : ptr0 (.pointer (some ⟨k, 0, none⟩)) = some k := rfl
theorem ptr0_inv {v : Value} {k : Nat} (h : ptr0 v = some k) : v = .pointer (some ⟨k, 0, none⟩) := by
  unfold ptr0 at h
  split at h
  · cases h; rfl
  · cases h
def asU : Value → Option Int
  | .int .u64 v => some v
  | _ => none
def asI : Value → Option Int
  | .int .i64 v => some v
  | _ => none
theorem asU_eq (v : Int) : asU (.int .u64 v) = some v := rfl
theorem asI_eq (v : Int) : asI (.int .i64 v) = some v := rfl
theorem asU_inv {x : Value} {v : Int} (h : asU x = some v) : x = .int .u64 v := by
  unfold asU at h
  split at h
  · cases h; rfl
  · cases h
theorem asI_inv {x : Value} {v : Int} (h : asI x = some v) : x = .int .i64 v := by
  unfold asI at h
  split at h
  · cases h; rfl
  · cases h
theorem upd_get {H : AH GD} {k : Nat} {o : AObj GD} (h : H.get k = some o) : H.upd k o = H := by
  refine AH.ext' rfl fun j => ?_
  rw [AH.get_upd]
  split
  · rename_i e; subst e; exact h.symm
  · rfl
theorem us_set (h : List Int) (i : Nat) (v : Int) : (us h).set i (.int .u64 v) = us (h.set i v) := by simp [us, List.map_set]
theorem take_us (l : List Int) : (us l).take l.length = us l := List.take_of_length_le (by simp [us])
theorem us_length (h : List Int) : (us h).length = h.length := by simp [us]
theorem us_ground (h : List Int) : grounds (us h) = true := by
  induction h with
  | nil => rfl
  | cons v h ih => simp [us, grounds, ground] at ih ⊢; exact ih
theorem ren_us (θ : Nat → Nat) (h : List Int) : rens θ (us h) = us h := rens_ground θ _ (us_ground h)
theorem us_at {h : List Int} {i : Nat} {v : Int} (hv : h[i]? = some v) : (us h)[i]? = some (.int .u64 v) := by simp [us, hv]
def sl0 : Value → Option (Nat × Nat × Nat)
  | .slice (some ⟨k, 0, none⟩) n c => some (k, n, c)
  | _ => none
theorem sl0_eq (k n c : Nat) : sl0 (.slice (some ⟨k, 0, none⟩) n c) = some (k, n, c) := rfl
theorem sl0_inv {v : Value} {q : Nat × Nat × Nat} (h : sl0 v = some q) : v = .slice (some ⟨q.1, 0, none⟩) q.2.1 q.2.2 := by
  unfold sl0 at h
  split at h
  · cases h; rfl
  · cases h
def asUs : List Value → Option (List Int)
  | [] => some []
  | .int .u64 v :: l => (asUs l).map (v :: ·)
  | _ => none
theorem asUs_us : ∀ h : List Int, asUs (us h) = some h
  | [] => rfl
  | v :: h => by
    show (asUs (us h)).map (v :: ·) = _
    rw [asUs_us h]; rfl
theorem asUs_inv : ∀ {cs : List Value} {h : List Int}, asUs cs = some h → cs = us h
  | [], h, e => by cases e; rfl
  | v :: cs, h, e => by
    unfold asUs at e
    split at e
    · simp_all
    · rename_i v' l heq
      cases heq
      simp only [Option.map_eq_some_iff] at e
      obtain ⟨h', e1, rfl⟩ := e
      rw [asUs_inv e1]; rfl
    · cases e
/-- A row of words that nobody writes. -/
def getRo (H : AH GD) (k : Nat) : Option (List Int) :=
  match H.get k with
  | some (.ro cs) => asUs cs
  | _ => none
theorem getRo_inv {H : AH GD} {k : Nat} {h : List Int} (hg : getRo H k = some h) : H.get k = some (.ro (us h)) := by
  unfold getRo at hg
  split at hg
  · rename_i cs e; rw [e, asUs_inv hg]
  · cases hg
def getArr (H : AH GD) (k : Nat) : Option (TypeId × List Int) :=
  match H.get k with
  | some (.arr e cs) => (asUs cs).map fun h => (e, h)
  | _ => none
theorem getArr_inv {H : AH GD} {k : Nat} {x : TypeId × List Int} (hg : getArr H k = some x) : H.get k = some (.arr x.1 (us x.2)) := by
  unfold getArr at hg
  split at hg
  · rename_i e cs he
    simp only [Option.map_eq_some_iff] at hg
    obtain ⟨h, h1, rfl⟩ := hg
    rw [he, asUs_inv h1]
  · cases hg
theorem upd_upd (H : AH GD) (k : Nat) (o o' : AObj GD) : (H.upd k o).upd k o' = H.upd k o' := by
  refine AH.ext' rfl fun j => ?_
  simp only [AH.get_upd]
  split <;> rfl
theorem us_one (v : Int) : us [v] = [.int .u64 v] := rfl
theorem us_nil : us [] = [] := rfl
theorem us_append (a b : List Int) : us (a ++ b) = us a ++ us b := by simp [us]
def asInts : List Value → Option (List Int)
  | [] => some []
  | .int .i64 v :: l => (asInts l).map (v :: ·)
  | _ => none
theorem asInts_ints : ∀ h : List Int, asInts (ints h) = some h
  | [] => rfl
  | v :: h => by
    show (asInts (ints h)).map (v :: ·) = _
    rw [asInts_ints h]; rfl
theorem asInts_inv : ∀ {cs : List Value} {h : List Int}, asInts cs = some h → cs = ints h
  | [], h, e => by cases e; rfl
  | v :: cs, h, e => by
    unfold asInts at e
    split at e
    · simp_all
    · rename_i v' l heq
      cases heq
      simp only [Option.map_eq_some_iff] at e
      obtain ⟨h', e1, rfl⟩ := e
      rw [asInts_inv e1]; rfl
    · cases e
theorem ints_at {h : List Int} {i : Nat} {v : Int} (hv : h[i]? = some v) : (ints h)[i]? = some (.int .i64 v) := by simp [ints, hv]
theorem ints_get {h : List Int} {i : Nat} {v : Int} (hv : h[i]? = some v) (p : i < (ints h).length) : (ints h)[i]'p = .int .i64 v := by
  have := ints_at hv
  rw [List.getElem?_eq_getElem p] at this
  exact Option.some.inj this
theorem ints_append (a b : List Int) : ints (a ++ b) = ints a ++ ints b := by simp [ints]
theorem take_ints (l : List Int) : (ints l).take l.length = ints l := List.take_of_length_le (by simp)
/-- A row of whole numbers. -/
def getInts (H : AH GD) (k : Nat) : Option (TypeId × List Int) :=
  match H.get k with
  | some (.arr e cs) => (asInts cs).map fun h => (e, h)
  | _ => none
theorem getInts_inv {H : AH GD} {k : Nat} {x : TypeId × List Int} (hg : getInts H k = some x) : H.get k = some (.arr x.1 (ints x.2)) := by
  unfold getInts at hg
  split at hg
  · rename_i e cs he
    simp only [Option.map_eq_some_iff] at hg
    obtain ⟨h, h1, rfl⟩ := hg
    rw [he, asInts_inv h1]
  · cases hg
theorem inc_i64 {i n : Nat} (hi : i < n) (hn : n ≤ 1000000) : IntKind.i64.wrap ((i : Int) + 1) = ((i + 1 : Nat) : Int) := by rw [wrap_i64 (by omega) (by omega)]; omega
theorem same_none {α : Type} {a b : List α} (hl : a.length = b.length) (h : ∀ j, j < a.length → a[j]? = b[j]?) : a = b := by
  refine List.ext_getElem? fun j => ?_
  rcases Nat.lt_or_ge j a.length with hj | hj
  · exact h j hj
  · rw [List.getElem?_eq_none hj, List.getElem?_eq_none (by omega)]
theorem ints_single (v : Int) : ints [v] = [.int .i64 v] := rfl
theorem ptr0_nil : ptr0 (.pointer none) = none := rfl
def isNil : Value → Option Unit
  | .pointer none => some ()
  | _ => none
theorem isNil_eq : isNil (.pointer none) = some () := rfl
theorem isNil_ptr (k o : Nat) : isNil (.pointer (some ⟨k, o, none⟩)) = none := rfl
theorem isNil_inv {v : Value} {u : Unit} (h : isNil v = some u) : v = .pointer none := by
  unfold isNil at h
  split at h
  · rfl
  · cases h
/-! What numbers and texts alone come to: in any heap. -/
abbrev PStep := List Value → Option (Prop × Value)
def pureStep (f : PStep) : CStep GD := fun args H => (f args).map fun x => (x.1, .ret x.2, H)
theorem pure_ok {fid : FuncId} {f : PStep} (h : ∀ args p v, f args = some (p, v) → p → grounds args = true ∧ ground v = true ∧ Runs Tryz.prog cfg fid args (AH.of []) fun r H' => r = .ret v ∧ H' = AH.of []) : CStepOk Tryz.prog cfg fid (pureStep f) := by
  intro args H p r H' he hp
  simp only [pureStep, Option.map_eq_some_iff] at he
  obtain ⟨⟨p', v⟩, h1, h2⟩ := he
  cases h2
  obtain ⟨g1, g2, hr⟩ := h args p' v h1 hp
  exact hr.atK (ro_none rfl) [] (by simp) (by simp) trivial (by rw [rens_ground _ _ g1]) (by rw [renE_ret, ren_ground _ _ g2]) (by simp)
/-! What is done to one datum, with numbers and truth values alone. -/
abbrev DStep := GD → List Value → Option (Prop × Value × GD)
def dataSt (g : DStep) : CStep GD := fun args H => match args with
  | .pointer (some ⟨k, 0, none⟩) :: rest => match H.get k with
    | some (.hi d) => (g d rest).map fun x => (x.1, .ret x.2.1, H.upd k (.hi x.2.2))
    | _ => none
  | _ => none
theorem data_ok {fid : FuncId} {g : DStep} (h : ∀ d rest p v d', g d rest = some (p, v, d') → p → grounds rest = true ∧ ground v = true ∧ Runs Tryz.prog cfg fid (.pointer (some ⟨0, 0, none⟩) :: rest) (AH.of [some (.hi d)]) fun r H' => r = .ret v ∧ H' = AH.of [some (.hi d')]) : CStepOk Tryz.prog cfg fid (dataSt g) := by
  intro args H p r H' he hp
  unfold dataSt at he
  split at he
  case h_2 => cases he
  split at he
  case h_2 => cases he
  simp only [Option.map_eq_some_iff] at he
  obtain ⟨⟨p', v, d'⟩, h1, h2⟩ := he
  rename_i k rest x d hk
  cases h2
  obtain ⟨g1, g2, hr⟩ := h d rest p' v d' h1 hp
  exact hr.atK (ro_none rfl) [k] (by simp) (by simp) (by simp [hk]) (by rw [rens, rens_ground _ _ g1]; simp) (by rw [renE_ret, ren_ground _ _ g2]) (by simp)
attribute [simp] ren_us ptr0_eq ptr0_nil asU_eq asI_eq sl0_eq asUs_us asUs asInts_ints isNil_eq isNil_ptr
end YtnemoimbeefngaaGreat
end Go.Proofs
/-
  What the arguments of laws read as: numbers, truth values.
-/
set_option linter.unusedSimpArgs false
set_option linter.unusedVariables false
set_option linter.unnecessarySimpa false
set_option linter.unusedSectionVars false
namespace Go.Proofs
namespace YtnemoimbeefngaaGreat
open Go.Abs Go.ChangeShapes Go.WideShapes Go.ChangeAt Go.RowKit
set_option linter.unusedSimpArgs false
set_option linter.unusedVariables false
set_option maxRecDepth 100000

theorem own : ownKnob Tryz.prog.godebug = none := by kernel_rfl
section
variable {H : Type} {enc : TypeId × Value → H} {w : World}
theorem wf_i64 {n : Int} (h : (Lit.int .i64 n).wf = true) : -9223372036854775808 ≤ n ∧ n ≤ 9223372036854775807 := by
  simpa [Lit.wf, IntKind.min, IntKind.max, IntKind.signed, IntKind.bits] using h
theorem wf_u64 {n : Int} (h : (Lit.int .u64 n).wf = true) : 0 ≤ n ∧ n < 18446744073709551616 := by
  have : 0 ≤ n ∧ n ≤ 18446744073709551615 := by simpa [Lit.wf, IntKind.min, IntKind.max, IntKind.signed, IntKind.bits] using h
  omega
theorem wf_u8 {n : Int} (h : (Lit.int .u8 n).wf = true) : 0 ≤ n ∧ n < 256 := by
  have : 0 ≤ n ∧ n ≤ 255 := by simpa [Lit.wf, IntKind.min, IntKind.max, IntKind.signed, IntKind.bits] using h
  omega
theorem wf_u16 {n : Int} (h : (Lit.int .u16 n).wf = true) : 0 ≤ n ∧ n < 65536 := by
  have : 0 ≤ n ∧ n ≤ 65535 := by simpa [Lit.wf, IntKind.min, IntKind.max, IntKind.signed, IntKind.bits] using h
  omega
theorem wf_u32 {n : Int} (h : (Lit.int .u32 n).wf = true) : 0 ≤ n ∧ n < 4294967296 := by
  have : 0 ≤ n ∧ n ≤ 4294967295 := by simpa [Lit.wf, IntKind.min, IntKind.max, IntKind.signed, IntKind.bits] using h
  omega
theorem us_oneC (l : List Int) : (us l).all (·.oneCell') = true := by simp [us, Value.oneCell']
theorem ints_oneC (l : List Int) : (ints l).all (·.oneCell') = true := by simp [ints, Value.oneCell']
theorem us_flat (h : List Int) : h.flatMap (fun v => [Value.int .u64 v]) = us h := by
  induction h with
  | nil => rfl
  | cons v h ih => rw [List.flatMap_cons, ih]; rfl
theorem ints_flat (h : List Int) : h.flatMap (fun v => [Value.int .i64 v]) = ints h := by
  induction h with
  | nil => rfl
  | cons v h ih => rw [List.flatMap_cons, ih]; rfl
end
end YtnemoimbeefngaaGreat
end Go.Proofs
/-
  WRITES: frames.
-/
set_option linter.unusedSimpArgs false
set_option linter.unusedVariables false
set_option linter.unnecessarySimpa false
set_option linter.unusedSectionVars false
namespace Go.Proofs
namespace YtnemoimbeefngaaGreat
open Go.Abs
set_option linter.unusedSimpArgs false

def putF : List Pr → Pr → List Pr
  | [], p => [p]
  | q :: f, p => if q.t = p.t then ⟨q.t, p.v⟩ :: f else q :: putF f p
theorem prs_cons (p : Pr) (l : List Pr) : prs (p :: l) = .int .i64 p.t :: .int .u64 p.v :: prs l := rfl
theorem prs_length (l : List Pr) : (prs l).length = l.length * 2 := by
  induction l with
  | nil => rfl
  | cons e l ih => rw [prs_cons, List.length_cons, List.length_cons, ih, List.length_cons]; omega
theorem prs_append (a b : List Pr) : prs (a ++ b) = prs a ++ prs b := by simp [prs]
theorem prs_ground (l : List Pr) : grounds (prs l) = true := by
  induction l with
  | nil => rfl
  | cons e l ih => rw [prs_cons]; simp [grounds, ground, ih]
theorem ren_prs (θ : Nat → Nat) (l : List Pr) : rens θ (prs l) = prs l := rens_ground θ _ (prs_ground l)
theorem take_prs (l : List Pr) : (prs l).take (l.length * 2) = prs l := List.take_of_length_le (by simp [prs_length])
theorem prs_take (l : List Pr) (n : Nat) : (prs l).take (n * 2) = prs (l.take n) := by
  induction n generalizing l with
  | zero => simp [prs]
  | succ n ih =>
    cases l with
    | nil => simp [prs]
    | cons e l =>
      rw [prs_cons, show (n + 1) * 2 = n * 2 + 2 by omega]
      simp only [List.take_succ_cons, ih]
      rfl
theorem many_prs {i : Nat} {x : Pr} : ∀ {l : List Pr}, l[i]? = some x → ((prs l).drop (i * 2)).take 2 = x.cells := by
  induction i with
  | zero =>
    intro l h
    cases l with
    | nil => simp at h
    | cons e l => simp at h; subst h; rfl
  | succ i ih =>
    intro l h
    cases l with
    | nil => simp at h
    | cons e l =>
      rw [prs_cons, show (i + 1) * 2 = i * 2 + 1 + 1 by omega]
      simpa using ih (l := l) (by simpa using h)
theorem prs_at {l : List Pr} {i : Nat} {x : Pr} (h : l[i]? = some x) : (prs l)[i * 2]? = some (.int .i64 x.t) ∧ (prs l)[i * 2 + 1]? = some (.int .u64 x.v) := by
  have h3 := many_prs h
  have g : ∀ j, j < 2 → (prs l)[i * 2 + j]? = x.cells[j]? := fun j hj => by
    rw [← h3, List.getElem?_take, if_pos hj, List.getElem?_drop]
  exact ⟨g 0 (by omega), g 1 (by omega)⟩
theorem prs_single (p : Pr) : prs [p] = [.int .i64 p.t, .int .u64 p.v] := rfl
attribute [simp] ren_prs

/-- A value of a variable, as it is told. -/
def optR (o : Option Int) : Value := .tuple #[.int .u64 (o.getD 0), .bool o.isSome]
theorem getP_nil (t : Int) : getP [] t = none := rfl
theorem getP_first {f : List Pr} {t : Int} {i : Nat} {x : Pr} (hpre : ∀ (j : Nat) (y : Pr), j < i → f[j]? = some y → y.t ≠ t) (hx : f[i]? = some x) (ht : x.t = t) : getP f t = some x.v := by
  induction f generalizing i with
  | nil => simp at hx
  | cons a f ih =>
    cases i with
    | zero => simp at hx; subst hx; simp [getP, ht]
    | succ i =>
      have ha : a.t ≠ t := hpre 0 a (by omega) rfl
      have : getP (a :: f) t = getP f t := by simp [getP, ha]
      rw [this]
      exact ih (i := i) (fun j y hj hy => hpre (j + 1) y (by omega) (by simpa using hy)) (by simpa using hx)
theorem getP_none {f : List Pr} {t : Int} (h : ∀ (j : Nat) (y : Pr), f[j]? = some y → y.t ≠ t) : getP f t = none := by
  have : f.find? (fun p => p.t == t) = none := by
    rw [List.find?_eq_none]
    intro x hx
    obtain ⟨j, hj⟩ := List.mem_iff_getElem?.1 hx
    simpa using h j x hj
  simp [getP, this]
theorem putF_at {f : List Pr} {p : Pr} {i : Nat} {x : Pr} (hpre : ∀ (j : Nat) (y : Pr), j < i → f[j]? = some y → y.t ≠ p.t) (hx : f[i]? = some x) (ht : x.t = p.t) : putF f p = f.set i p := by
  induction f generalizing i with
  | nil => simp at hx
  | cons a f ih =>
    cases i with
    | zero =>
      simp at hx; subst hx
      have : p = ⟨a.t, p.v⟩ := by cases p; simp_all
      simp [putF, ht]
    | succ i =>
      have ha : a.t ≠ p.t := hpre 0 a (by omega) rfl
      simp only [putF, if_neg ha, List.set_cons_succ]
      rw [ih (i := i) (fun j y hj hy => hpre (j + 1) y (by omega) (by simpa using hy)) (by simpa using hx)]
theorem putF_new {f : List Pr} {p : Pr} (h : ∀ (j : Nat) (y : Pr), f[j]? = some y → y.t ≠ p.t) : putF f p = f ++ [p] := by
  induction f with
  | nil => rfl
  | cons a f ih =>
    have ha : a.t ≠ p.t := h 0 a rfl
    simp only [putF, if_neg ha, List.cons_append]
    rw [ih fun j y hj => h (j + 1) y (by simpa using hj)]
theorem putF_length_le (f : List Pr) (p : Pr) : (putF f p).length ≤ f.length + 1 := by
  induction f with
  | nil => simp [putF]
  | cons a f ih =>
    simp only [putF]
    split
    · simp
    · simp; omega
theorem prs_set {f : List Pr} {i : Nat} {x p : Pr} (hx : f[i]? = some x) (ht : x.t = p.t) : (prs f).set (i * 2 + 1) (.int .u64 p.v) = prs (f.set i p) := by
  induction f generalizing i with
  | nil => simp at hx
  | cons a f ih =>
    cases i with
    | zero =>
      simp at hx; subst hx
      simp [prs_cons, ht]
    | succ i =>
      rw [prs_cons, show (i + 1) * 2 + 1 = i * 2 + 1 + 1 + 1 by omega, List.set_cons_succ, List.set_cons_succ, ih (by simpa using hx), List.set_cons_succ, prs_cons]

set_option maxHeartbeats 1000000 in
theorem runs141 (e : TypeId) (f : List Pr) (tg : Nat) (t : Int) (hl : f.length ≤ 1000) : Runs Tryz.prog cfg 141 [.slice (some ⟨0, 0, none⟩) f.length tg, .int .i64 t] (AH.of [some (.arr e (prs f))])
    fun r H' => r = .ret (optR (getP f t)) ∧ H' = AH.of [some (.arr e (prs f))] := by
  refine Runs.ends ?_
  obtain ⟨n, hn⟩ : ∃ n, f.length = n := ⟨_, rfl⟩
  rw [hn]
  refine runs_by (tbl := []) (by simp) 1001 0 (af := a141) rfl ?_
  rw [a141, b141, run_eq]
  refine ⟨by simp, ?_⟩
  simp (implicitDefEqProofs := false)
  refine loop_view (sg_mono gX_ok (tabS_ok (by simp)) _ _ noY noY_mono) (fun m tm H => ∃ i : Nat, m + i = n ∧ (∀ (j : Nat) (y : Pr), j < i → f[j]? = some y → y.t ≠ t) ∧ tm 1 = .int .i64 t ∧ tm 8 = .slice (some ⟨0, 0, none⟩) n tg ∧ tm 9 = .int .i64 n ∧ tm 10 = .int .i64 i ∧ H = AH.of [some (.arr e (prs f))]) (m := n) ?_ (by omega) ?_
  · refine round_plan [] [0] [some (.arr e (prs f))] n (by omega) ?_ ?_ ⟨0, by omega, fun j y hj => by omega, ?_, ?_, ?_, ?_, rfl⟩ <;> simp
  rintro m tm H ⟨i, hm, hpre, t1, t8, t9, t10, rfl⟩
  by_cases hi : i < n
  · obtain ⟨x, hx⟩ : ∃ x, f[i]? = some x := ⟨f[i]'(by omega), List.getElem?_eq_getElem (by omega)⟩
    have hi' : (i : Int) < n := by omega
    have hwr := inc_i64 hi (by omega)
    have rx := many_prs hx
    have lx : i * 2 + 2 ≤ (prs f).length := by rw [prs_length]; omega
    by_cases hxt : x.t = t
    · have hg := getP_first hpre hx hxt
      simp (implicitDefEqProofs := false) [t1, t8, t9, t10, hi, hi', rx, lx, Pr.cells, hxt]
      refine ends_plan [] [0] ?_ ?_ ?_ <;> simp [hg, optR]
    · have hpre2 : ∀ (j : Nat) (y : Pr), j < i + 1 → f[j]? = some y → y.t ≠ t := fun j y hj hy => by
        by_cases e : j = i
        · subst e; rw [hx] at hy; cases hy; exact hxt
        · exact hpre j y (by omega) hy
      simp (implicitDefEqProofs := false) [t1, t8, t9, t10, hi, hi', rx, lx, Pr.cells, hxt, hwr]
      refine round_plan [] [0] [some (.arr e (prs f))] (m - 1) (by omega) ?_ ?_ ⟨i + 1, by omega, hpre2, ?_, ?_, ?_, ?_, rfl⟩ <;> simp [t1, t8, t9]
  · have hie : i = n := by omega
    subst hie
    have hg : getP f t = none := getP_none fun j y hy => hpre j y (by
      have := (List.getElem?_eq_some_iff.1 hy).1; omega) hy
    simp (implicitDefEqProofs := false) [t1, t8, t9, t10]
    refine ends_plan [] [0] ?_ ?_ ?_ <;> simp [hg, optR]
def asPrs : List Value → Option (List Pr)
  | [] => some []
  | .int .i64 t :: .int .u64 v :: l => (asPrs l).map (⟨t, v⟩ :: ·)
  | _ => none
theorem asPrs_prs : ∀ l : List Pr, asPrs (prs l) = some l
  | [] => rfl
  | e :: l => by rw [prs_cons, asPrs, asPrs_prs l]; rfl
theorem asPrs_inv : ∀ {cs : List Value} {l : List Pr}, asPrs cs = some l → cs = prs l
  | cs, l, e => by
    unfold asPrs at e
    split at e
    · cases e; rfl
    · simp only [Option.map_eq_some_iff] at e
      obtain ⟨l', e1, rfl⟩ := e
      rw [asPrs_inv e1]; rfl
    · cases e
/-- A row of pairs. -/
def getPrs (H : AH GD) (k : Nat) : Option (TypeId × List Pr) :=
  match H.get k with
  | some (.arr e cs) => (asPrs cs).map fun h => (e, h)
  | _ => none
theorem getPrs_inv {H : AH GD} {k : Nat} {x : TypeId × List Pr} (hg : getPrs H k = some x) : H.get k = some (.arr x.1 (prs x.2)) := by
  unfold getPrs at hg
  split at hg
  · rename_i e cs he
    simp only [Option.map_eq_some_iff] at hg
    obtain ⟨h, h1, rfl⟩ := hg
    rw [he, asPrs_inv h1]
  · cases hg
attribute [simp] asPrs_prs getPrs
def st141 : CStep GD := fun args H => match args with
  | [.slice (some ⟨k, 0, none⟩) n _, .int .i64 t] => (getPrs H k).map fun x => (n = x.2.length ∧ x.2.length ≤ 1000, .ret (optR (getP x.2 t)), H)
  | _ => none
theorem st141_ok : CStepOk Tryz.prog cfg 141 st141 := by
  intro args H p r H' h hp
  unfold st141 at h
  split at h
  case h_2 => cases h
  simp only [Option.map_eq_some_iff] at h
  obtain ⟨x, hx, h⟩ := h
  rename_i k n tg t
  cases h
  rw [hp.1]
  exact (runs141 x.1 x.2 tg t hp.2).atK (ro_none rfl) [k] (by simp) (by simp) (by simp [getPrs_inv hx]) (by simp) (by simp [optR]) (by simp [upd_get (getPrs_inv hx)])

set_option maxHeartbeats 1000000 in
theorem runs208 (e : TypeId) (l : List Pr) (tg : Nat) (hl : l.length ≤ 1000) : Runs Tryz.prog cfg 208 [.slice (some ⟨0, 0, none⟩) l.length tg] (AH.of [some (.arr e (prs l))])
    fun r H' => r = .ret (.slice (some ⟨1, 0, none⟩) l.length 1) ∧ H' = AH.of [some (.arr e (prs l)), some (.arr 157 (prs l))] := by
  refine Runs.ends ?_
  refine runs_by (tbl := []) (by simp) 0 0 (af := a208) rfl ?_
  rw [a208, b208, run_eq]
  refine ⟨by simp, ?_⟩
  have h1 : l.length * 16 ≤ 140737488355328 ∧ l.length ≤ 9223372036854775807 := by omega
  have h2 := take_prs l
  have h3 : l.length * 2 ≤ (prs l).length := by rw [prs_length]; omega
  simp (implicitDefEqProofs := false) [h1, h2, h3]
  repeat' (first | with_reducible apply And.intro | with_reducible intro _)
  all_goals first
    | (refine ends_plan [] [0, 2] ?_ ?_ ?_ <;> simp; done)
    | (have : l = [] := by assumption
       subst this
       refine ends_wk (r' := .ret (.slice (some ⟨1, 0, none⟩) 0 1)) (leR_ret (by simp)) (ends_plan [.nil 157] [0, 1] ?_ ?_ ?_) <;> simp [prs])
def st208 : CStep GD := fun args H => match args with
  | [.slice (some ⟨k, 0, none⟩) n _] => (getPrs H k).map fun x => (n = x.2.length ∧ x.2.length ≤ 1000, .ret (.slice (some ⟨H.next, 0, none⟩) x.2.length 1), H.add (.arr 157 (prs x.2)))
  | _ => none
theorem st208_ok : CStepOk Tryz.prog cfg 208 st208 := by
  intro args H p r H' h hp
  unfold st208 at h
  split at h
  case h_2 => cases h
  simp only [Option.map_eq_some_iff] at h
  obtain ⟨x, hx, h⟩ := h
  rename_i k n tg
  cases h
  rw [hp.1]
  exact (runs208 x.1 x.2 tg hp.2).atK (ro_none rfl) [k] (by simp) (by simp) (by simp [getPrs_inv hx]) (by simp) (by simp) (by simp [upd_get (getPrs_inv hx)])

def tblPut : List (FuncId × CStep GD) := [(208, st208)]
theorem tblPut_ok : ∀ x ∈ tblPut, CStepOk Tryz.prog cfg x.1 x.2 := by simp [tblPut, st208_ok]
set_option maxHeartbeats 2000000 in
theorem runs191 (e : TypeId) (f : List Pr) (tg : Nat) (p : Pr) (hl : f.length ≤ 1000) : Runs Tryz.prog cfg 191 [.slice (some ⟨0, 0, none⟩) f.length tg, .agg #[.int .i64 p.t, .int .u64 p.v]] (AH.of [some (.arr e (prs f))])
    fun r H' => r = .ret (.slice (some ⟨1, 0, none⟩) (putF f p).length 1) ∧ H' = AH.of [some (.arr e (prs f)), some (.arr 157 (prs (putF f p)))] := by
  refine Runs.ends ?_
  obtain ⟨n, hn⟩ : ∃ n, f.length = n := ⟨_, rfl⟩
  rw [hn]
  have hn2 : n ≤ 1000 := by omega
  refine runs_by (tbl := tblPut) tblPut_ok 1001 0 (af := a191) rfl ?_
  rw [a191, b191, run_eq]
  refine ⟨by simp, ?_⟩
  simp (implicitDefEqProofs := false) [tblPut, st208, hn, hn2]
  refine loop_inv (sg_mono gX_ok (tabS_ok tblPut_ok) _ _ noY noY_mono) (fun m tm H => ∃ i : Nat, m + i = n ∧ (∀ (j : Nat) (y : Pr), j < i → f[j]? = some y → y.t ≠ p.t) ∧ tm 3 = .pointer (some ⟨1, 0, none⟩) ∧ tm 5 = .slice (some ⟨2, 0, none⟩) n 1 ∧ tm 10 = .int .i64 n ∧ tm 11 = .int .i64 i ∧ H = AH.of [some (.arr e (prs f)), some (.arr 157 [.int .i64 p.t, .int .u64 p.v]), some (.arr 157 (prs f))]) (m := n) ⟨0, by simp⟩ (by omega) ?_
  rintro m tm H ⟨i, hm, hpre, t3, t5, t10, t11, rfl⟩
  by_cases hi : i < n
  · obtain ⟨x, hx⟩ : ∃ x, f[i]? = some x := ⟨f[i]'(by omega), List.getElem?_eq_getElem (by omega)⟩
    have hi' : (i : Int) < n := by omega
    have hwr := inc_i64 hi (by omega)
    have rx := (prs_at hx).1
    have lx : i * 2 + 1 < (prs f).length := by rw [prs_length]; omega
    have lx2 : i * 2 + 2 ≤ (prs f).length := by rw [prs_length]; omega
    by_cases hxt : x.t = p.t
    · have hg := putF_at hpre hx hxt
      have hset := prs_set hx hxt
      simp (implicitDefEqProofs := false) [t3, t5, t10, t11, hi, hi', rx, lx, lx2, hxt, hset]
      refine ends_plan [] [0, 2] ?_ ?_ ?_ <;> simp [hg, hn]
    · have hpre2 : ∀ (j : Nat) (y : Pr), j < i + 1 → f[j]? = some y → y.t ≠ p.t := fun j y hj hy => by
        by_cases e : j = i
        · subst e; rw [hx] at hy; cases hy; exact hxt
        · exact hpre j y (by omega) hy
      simp (implicitDefEqProofs := false) [t3, t5, t10, t11, hi, hi', rx, lx, hxt, hwr]
      exact ⟨m - 1, by omega, i + 1, by omega, hpre2, by omega⟩
  · have hie : i = n := by omega
    subst hie
    have hg : putF f p = f ++ [p] := putF_new fun j y hy => hpre j y (by
      have := (List.getElem?_eq_some_iff.1 hy).1; omega) hy
    have h1 : (i + 1) * 16 ≤ 140737488355328 ∧ i ≤ 9223372036854775806 := by omega
    have h2 : (prs f).take (i * 2) = prs f := by rw [← hn]; exact take_prs f
    have h3 : i * 2 ≤ (prs f).length := by rw [prs_length]; omega
    simp (implicitDefEqProofs := false) [t3, t5, t10, t11, h1, h2, h3]
    refine ends_plan [] [0, 4] ?_ ?_ ?_ <;> simp [hg, hn, prs_append, prs_single]
def st191 : CStep GD := fun args H => match args with
  | [.slice (some ⟨k, 0, none⟩) n _, .agg ⟨[.int .i64 t, .int .u64 v]⟩] => (getPrs H k).map fun x => (n = x.2.length ∧ x.2.length ≤ 1000, .ret (.slice (some ⟨H.next, 0, none⟩) (putF x.2 ⟨t, v⟩).length 1), H.add (.arr 157 (prs (putF x.2 ⟨t, v⟩))))
  | _ => none
theorem st191_ok : CStepOk Tryz.prog cfg 191 st191 := by
  intro args H p r H' h hp
  unfold st191 at h
  split at h
  case h_2 => cases h
  simp only [Option.map_eq_some_iff] at h
  obtain ⟨x, hx, h⟩ := h
  rename_i k n tg t v
  cases h
  rw [hp.1]
  exact (runs191 x.1 x.2 tg ⟨t, v⟩ hp.2).atK (ro_none rfl) [k] (by simp) (by simp) (by simp [getPrs_inv hx]) (by simp) (by simp) (by simp [upd_get (getPrs_inv hx)])
end YtnemoimbeefngaaGreat
end Go.Proofs
/-
  WRITES: New, Push, Drop, Depth.
-/
set_option linter.unusedSimpArgs false
set_option linter.unusedVariables false
set_option linter.unnecessarySimpa false
set_option linter.unusedSectionVars false
namespace Go.Proofs
namespace YtnemoimbeefngaaGreat
open Go.Abs
set_option linter.unusedSimpArgs false

theorem runs82 : Runs Tryz.prog cfg 82 [] (AH.of []) fun r H' => r = .ret (.pointer (some ⟨0, 0, none⟩)) ∧ H' = AH.of [some (.hi (.log [[]]))] := by
  refine Runs.ends ?_
  refine runs_by (tbl := []) (by simp) 0 2 (af := a82) rfl ?_
  rw [a82, b82, run_eq]
  refine ⟨by simp, ?_⟩
  simp (implicitDefEqProofs := false) [forms131, a131, b131]
  refine ends_plan [.nil 157, .pack (GD.stk [[]]) 0 [2], .pack (GD.log [[]]) 1 [0]] [1] ?_ ?_ ?_ <;> simp [frag_stk1, frag_log, AObj.mine, prs]
def st82 : CStep GD := fun args H => match args with
  | [] => some (True, .ret (.pointer (some ⟨H.next, 0, none⟩)), H.add (.hi (.log [[]])))
  | _ => none
theorem st82_ok : CStepOk Tryz.prog cfg 82 st82 := by
  intro args H p r H' h hp
  unfold st82 at h
  split at h
  case h_2 => cases h
  cases h
  exact runs82.atK (ro_none rfl) [] (by simp) (by simp) trivial (by simp) (by simp) (by simp)

theorem runs144 (f : List Pr) (fs : List (List Pr)) (hl : fs.length ≤ 100) : Runs Tryz.prog cfg 144 [.pointer (some ⟨0, 0, none⟩)] (AH.of [some (.hi (.log (f :: fs)))])
    fun r H' => r = .ret (.int .i64 (if 4 ≤ fs.length then 4 else 0)) ∧ H' = AH.of [some (.hi (if 4 ≤ fs.length then .log (f :: fs) else .log ([] :: f :: fs)))] := by
  refine Runs.ends ?_
  by_cases h : 4 ≤ fs.length
  · have h' : (4 : Int) ≤ fs.length := by omega
    refine runs_by (tbl := []) (by simp) 0 2 (af := a144) rfl ?_
    rw [a144, b144, run_eq]
    refine ⟨by simp, ?_⟩
    simp (implicitDefEqProofs := false) [forms131, a131, b131, frag_log, h, h']
    refine ends_plan [.pack (GD.log (f :: fs)) 0 [1]] [0] ?_ ?_ ?_ <;> simp [frag_log, AObj.mine, h]
  · have h' : ¬ (4 : Int) ≤ fs.length := by omega
    have hw : IntKind.i64.wrap ((fs.length : Int) + 1) = (fs.length : Int) + 1 := wrap_i64 (by omega) (by omega)
    refine runs_by (tbl := []) (by simp) 0 2 (af := a144) rfl ?_
    rw [a144, b144, run_eq]
    refine ⟨by simp, ?_⟩
    simp (implicitDefEqProofs := false) [forms131, a131, b131, frag_log, h, h', hw]
    refine ends_plan [.nil 157, .pack (GD.stk ([] :: f :: fs)) 2 [3, 1], .pack (GD.log ([] :: f :: fs)) 0 [2]] [0] ?_ ?_ ?_ <;> simp [frag_log, frag_stk2, AObj.mine, prs, h]
def d144 : DStep
  | .log (f :: fs), [] => some (fs.length ≤ 100, .int .i64 (if 4 ≤ fs.length then 4 else 0), if 4 ≤ fs.length then .log (f :: fs) else .log ([] :: f :: fs))
  | _, _ => none
theorem st144_ok : CStepOk Tryz.prog cfg 144 (dataSt d144) := data_ok fun d rest p v d' h hp => by
  unfold d144 at h
  split at h
  · cases h; exact ⟨rfl, rfl, runs144 _ _ hp⟩
  · cases h

theorem runs145 (f : List Pr) (fs : List (List Pr)) (hl : fs.length ≤ 100) : Runs Tryz.prog cfg 145 [.pointer (some ⟨0, 0, none⟩)] (AH.of [some (.hi (.log (f :: fs)))])
    fun r H' => r = .ret (.int .i64 (if fs = [] then 8 else 0)) ∧ H' = AH.of [some (.hi (if fs = [] then .log (f :: fs) else .log fs))] := by
  refine Runs.ends ?_
  cases fs with
  | nil =>
    refine runs_by (tbl := []) (by simp) 0 2 (af := a145) rfl ?_
    rw [a145, b145, run_eq]
    refine ⟨by simp, ?_⟩
    simp (implicitDefEqProofs := false) [forms190, a190, b190, frag_log]
    refine ends_plan [.pack (GD.log [f]) 0 [1]] [0] ?_ ?_ ?_ <;> simp [frag_log, AObj.mine]
  | cons g fs =>
    have hne : ¬ ((fs.length : Int) + 1 = 0) := by omega
    have hl' : fs.length + 1 ≤ 100 := hl
    have hw : IntKind.i64.wrap (fs.length : Int) = fs.length := wrap_i64 (by omega) (by omega)
    refine runs_by (tbl := []) (by simp) 0 2 (af := a145) rfl ?_
    rw [a145, b145, run_eq]
    refine ⟨by simp, ?_⟩
    simp (implicitDefEqProofs := false) [forms190, a190, b190, frag_log, frag_stk2, hne, hw]
    refine ends_plan [.pack (GD.log (g :: fs)) 0 [3]] [0] ?_ ?_ ?_ <;> simp [frag_log, AObj.mine]
def d145 : DStep
  | .log (f :: fs), [] => some (fs.length ≤ 100, .int .i64 (if fs = [] then 8 else 0), if fs = [] then .log (f :: fs) else .log fs)
  | _, _ => none
theorem st145_ok : CStepOk Tryz.prog cfg 145 (dataSt d145) := data_ok fun d rest p v d' h hp => by
  unfold d145 at h
  split at h
  · cases h; exact ⟨rfl, rfl, runs145 _ _ hp⟩
  · cases h

theorem runs132 (fs : List (List Pr)) : Runs Tryz.prog cfg 132 [.pointer (some ⟨0, 0, none⟩)] (AH.of [some (.hi (.log fs))])
    fun r H' => r = .ret (.int .i64 ((fs.length : Int) - 1)) ∧ H' = AH.of [some (.hi (.log fs))] := by
  refine Runs.ends ?_
  refine runs_by (tbl := []) (by simp) 0 2 (af := a132) rfl ?_
  rw [a132, b132, run_eq]
  refine ⟨by simp, ?_⟩
  simp (implicitDefEqProofs := false) [frag_log]
  refine ends_plan [.pack (GD.log fs) 0 [1]] [0] ?_ ?_ ?_ <;> simp [frag_log, AObj.mine]
def d132 : DStep
  | .log fs, [] => some (True, .int .i64 ((fs.length : Int) - 1), .log fs)
  | _, _ => none
theorem st132_ok : CStepOk Tryz.prog cfg 132 (dataSt d132) := data_ok fun d rest p v d' h hp => by
  unfold d132 at h
  split at h
  · cases h; exact ⟨rfl, rfl, runs132 _⟩
  · cases h
end YtnemoimbeefngaaGreat
end Go.Proofs
/-
  WRITES: Get, down the frames.
-/
set_option linter.unusedSimpArgs false
set_option linter.unusedVariables false
set_option linter.unnecessarySimpa false
set_option linter.unusedSectionVars false
namespace Go.Proofs
namespace YtnemoimbeefngaaGreat
open Go.Abs
set_option linter.unusedSimpArgs false

/-- What was written last to a variable. -/
def getLog (fs : List (List Pr)) (t : Int) : Option Int := fs.findSome? fun f => getP f t
theorem getLog_nil (t : Int) : getLog [] t = none := rfl
theorem getLog_some {f : List Pr} {fs : List (List Pr)} {t v : Int} (h : getP f t = some v) : getLog (f :: fs) t = some v := by simp [getLog, h]
theorem getLog_none {f : List Pr} {fs : List (List Pr)} {t : Int} (h : getP f t = none) : getLog (f :: fs) t = getLog fs t := by simp [getLog, h]
/-- How many entries all have. -/
def lenLog (fs : List (List Pr)) : Int := ((fs.map List.length).sum : Nat)
theorem lenLog_nil : lenLog [] = 0 := rfl
theorem lenLog_cons (f : List Pr) (fs : List (List Pr)) : lenLog (f :: fs) = f.length + lenLog fs := by simp [lenLog]
theorem lenLog_nonneg (fs : List (List Pr)) : 0 ≤ lenLog fs := by simp [lenLog]
theorem lenLog_mem {f : List Pr} : ∀ {fs : List (List Pr)}, f ∈ fs → (f.length : Int) ≤ lenLog fs
  | g :: fs, h => by
    rw [lenLog_cons]
    rcases List.mem_cons.1 h with rfl | h
    · have := lenLog_nonneg fs; omega
    · have := lenLog_mem h; omega
/-- One frame at least, five at most, at most sixteen writes. -/
def GoodLog (fs : List (List Pr)) : Prop := fs ≠ [] ∧ fs.length ≤ 5 ∧ lenLog fs ≤ 16
theorem GoodLog.le {fs : List (List Pr)} (h : GoodLog fs) : ∀ f ∈ fs, f.length ≤ 1000 := fun f hf => by
  have := lenLog_mem hf
  have := h.2.2
  omega

inductive GW (fs : List (List Pr)) (t dd : Int) (r : Loop) : Nat → AH GD → Prop
  | c0 (f : List Pr) (rs : List (List Pr)) (h : fs = f :: rs) : GW fs t dd r 5 (AH.of [some (.arr 166 [.pointer (some ⟨4, 0, none⟩), .int .i64 dd]), some (.arr 3 [.int .i64 t]), some (.arr 49 [.int .u64 0]), some (.arr 4 [.bool false]), some (.hi (.stk (f :: rs))), some (.arr 164 [.pointer (some ⟨4, 0, none⟩)]), some (.loopr r 0 none)])
  | c1 (g1 f : List Pr) (rs : List (List Pr)) (h : fs = g1 :: f :: rs) (n1 : getP g1 t = none) : GW fs t dd r 4 (AH.of [some (.arr 166 [.pointer (some ⟨4, 0, none⟩), .int .i64 dd]), some (.arr 3 [.int .i64 t]), some (.arr 49 [.int .u64 0]), some (.arr 4 [.bool false]), some (.arr 220 [.slice (some ⟨7, 0, none⟩) g1.length 1, .pointer (some ⟨8, 0, none⟩)]), some (.arr 164 [.pointer (some ⟨8, 0, none⟩)]), some (.loopr r 0 none), some (.arr 157 (prs g1)), some (.hi (.stk (f :: rs)))])
  | n1 (g1 : List Pr) (h : fs = [g1]) (n1 : getP g1 t = none) : GW fs t dd r 4 (AH.of [some (.arr 166 [.pointer (some ⟨4, 0, none⟩), .int .i64 dd]), some (.arr 3 [.int .i64 t]), some (.arr 49 [.int .u64 0]), some (.arr 4 [.bool false]), some (.arr 220 [.slice (some ⟨7, 0, none⟩) g1.length 1, .pointer none]), some (.arr 164 [.pointer none]), some (.loopr r 0 none), some (.arr 157 (prs g1))])
  | c2 (g1 g2 f : List Pr) (rs : List (List Pr)) (h : fs = g1 :: g2 :: f :: rs) (n1 : getP g1 t = none) (n2 : getP g2 t = none) : GW fs t dd r 3 (AH.of [some (.arr 166 [.pointer (some ⟨4, 0, none⟩), .int .i64 dd]), some (.arr 3 [.int .i64 t]), some (.arr 49 [.int .u64 0]), some (.arr 4 [.bool false]), some (.arr 220 [.slice (some ⟨7, 0, none⟩) g1.length 1, .pointer (some ⟨8, 0, none⟩)]), some (.arr 164 [.pointer (some ⟨10, 0, none⟩)]), some (.loopr r 0 none), some (.arr 157 (prs g1)), some (.arr 220 [.slice (some ⟨9, 0, none⟩) g2.length 1, .pointer (some ⟨10, 0, none⟩)]), some (.arr 157 (prs g2)), some (.hi (.stk (f :: rs)))])
  | n2 (g1 g2 : List Pr) (h : fs = [g1, g2]) (n1 : getP g1 t = none) (n2 : getP g2 t = none) : GW fs t dd r 3 (AH.of [some (.arr 166 [.pointer (some ⟨4, 0, none⟩), .int .i64 dd]), some (.arr 3 [.int .i64 t]), some (.arr 49 [.int .u64 0]), some (.arr 4 [.bool false]), some (.arr 220 [.slice (some ⟨7, 0, none⟩) g1.length 1, .pointer (some ⟨8, 0, none⟩)]), some (.arr 164 [.pointer none]), some (.loopr r 0 none), some (.arr 157 (prs g1)), some (.arr 220 [.slice (some ⟨9, 0, none⟩) g2.length 1, .pointer none]), some (.arr 157 (prs g2))])
  | c3 (g1 g2 g3 f : List Pr) (rs : List (List Pr)) (h : fs = g1 :: g2 :: g3 :: f :: rs) (n1 : getP g1 t = none) (n2 : getP g2 t = none) (n3 : getP g3 t = none) : GW fs t dd r 2 (AH.of [some (.arr 166 [.pointer (some ⟨4, 0, none⟩), .int .i64 dd]), some (.arr 3 [.int .i64 t]), some (.arr 49 [.int .u64 0]), some (.arr 4 [.bool false]), some (.arr 220 [.slice (some ⟨7, 0, none⟩) g1.length 1, .pointer (some ⟨8, 0, none⟩)]), some (.arr 164 [.pointer (some ⟨12, 0, none⟩)]), some (.loopr r 0 none), some (.arr 157 (prs g1)), some (.arr 220 [.slice (some ⟨9, 0, none⟩) g2.length 1, .pointer (some ⟨10, 0, none⟩)]), some (.arr 157 (prs g2)), some (.arr 220 [.slice (some ⟨11, 0, none⟩) g3.length 1, .pointer (some ⟨12, 0, none⟩)]), some (.arr 157 (prs g3)), some (.hi (.stk (f :: rs)))])
  | n3 (g1 g2 g3 : List Pr) (h : fs = [g1, g2, g3]) (n1 : getP g1 t = none) (n2 : getP g2 t = none) (n3 : getP g3 t = none) : GW fs t dd r 2 (AH.of [some (.arr 166 [.pointer (some ⟨4, 0, none⟩), .int .i64 dd]), some (.arr 3 [.int .i64 t]), some (.arr 49 [.int .u64 0]), some (.arr 4 [.bool false]), some (.arr 220 [.slice (some ⟨7, 0, none⟩) g1.length 1, .pointer (some ⟨8, 0, none⟩)]), some (.arr 164 [.pointer none]), some (.loopr r 0 none), some (.arr 157 (prs g1)), some (.arr 220 [.slice (some ⟨9, 0, none⟩) g2.length 1, .pointer (some ⟨10, 0, none⟩)]), some (.arr 157 (prs g2)), some (.arr 220 [.slice (some ⟨11, 0, none⟩) g3.length 1, .pointer none]), some (.arr 157 (prs g3))])
  | c4 (g1 g2 g3 g4 f : List Pr) (rs : List (List Pr)) (h : fs = g1 :: g2 :: g3 :: g4 :: f :: rs) (n1 : getP g1 t = none) (n2 : getP g2 t = none) (n3 : getP g3 t = none) (n4 : getP g4 t = none) : GW fs t dd r 1 (AH.of [some (.arr 166 [.pointer (some ⟨4, 0, none⟩), .int .i64 dd]), some (.arr 3 [.int .i64 t]), some (.arr 49 [.int .u64 0]), some (.arr 4 [.bool false]), some (.arr 220 [.slice (some ⟨7, 0, none⟩) g1.length 1, .pointer (some ⟨8, 0, none⟩)]), some (.arr 164 [.pointer (some ⟨14, 0, none⟩)]), some (.loopr r 0 none), some (.arr 157 (prs g1)), some (.arr 220 [.slice (some ⟨9, 0, none⟩) g2.length 1, .pointer (some ⟨10, 0, none⟩)]), some (.arr 157 (prs g2)), some (.arr 220 [.slice (some ⟨11, 0, none⟩) g3.length 1, .pointer (some ⟨12, 0, none⟩)]), some (.arr 157 (prs g3)), some (.arr 220 [.slice (some ⟨13, 0, none⟩) g4.length 1, .pointer (some ⟨14, 0, none⟩)]), some (.arr 157 (prs g4)), some (.hi (.stk (f :: rs)))])
  | n4 (g1 g2 g3 g4 : List Pr) (h : fs = [g1, g2, g3, g4]) (n1 : getP g1 t = none) (n2 : getP g2 t = none) (n3 : getP g3 t = none) (n4 : getP g4 t = none) : GW fs t dd r 1 (AH.of [some (.arr 166 [.pointer (some ⟨4, 0, none⟩), .int .i64 dd]), some (.arr 3 [.int .i64 t]), some (.arr 49 [.int .u64 0]), some (.arr 4 [.bool false]), some (.arr 220 [.slice (some ⟨7, 0, none⟩) g1.length 1, .pointer (some ⟨8, 0, none⟩)]), some (.arr 164 [.pointer none]), some (.loopr r 0 none), some (.arr 157 (prs g1)), some (.arr 220 [.slice (some ⟨9, 0, none⟩) g2.length 1, .pointer (some ⟨10, 0, none⟩)]), some (.arr 157 (prs g2)), some (.arr 220 [.slice (some ⟨11, 0, none⟩) g3.length 1, .pointer (some ⟨12, 0, none⟩)]), some (.arr 157 (prs g3)), some (.arr 220 [.slice (some ⟨13, 0, none⟩) g4.length 1, .pointer none]), some (.arr 157 (prs g4))])
  | n5 (g1 g2 g3 g4 g5 : List Pr) (h : fs = [g1, g2, g3, g4, g5]) (n1 : getP g1 t = none) (n2 : getP g2 t = none) (n3 : getP g3 t = none) (n4 : getP g4 t = none) (n5 : getP g5 t = none) : GW fs t dd r 0 (AH.of [some (.arr 166 [.pointer (some ⟨4, 0, none⟩), .int .i64 dd]), some (.arr 3 [.int .i64 t]), some (.arr 49 [.int .u64 0]), some (.arr 4 [.bool false]), some (.arr 220 [.slice (some ⟨7, 0, none⟩) g1.length 1, .pointer (some ⟨8, 0, none⟩)]), some (.arr 164 [.pointer none]), some (.loopr r 0 none), some (.arr 157 (prs g1)), some (.arr 220 [.slice (some ⟨9, 0, none⟩) g2.length 1, .pointer (some ⟨10, 0, none⟩)]), some (.arr 157 (prs g2)), some (.arr 220 [.slice (some ⟨11, 0, none⟩) g3.length 1, .pointer (some ⟨12, 0, none⟩)]), some (.arr 157 (prs g3)), some (.arr 220 [.slice (some ⟨13, 0, none⟩) g4.length 1, .pointer (some ⟨14, 0, none⟩)]), some (.arr 157 (prs g4)), some (.arr 220 [.slice (some ⟨15, 0, none⟩) g5.length 1, .pointer none]), some (.arr 157 (prs g5))])

def tblG : List (FuncId × CStep GD) := [(141, st141)]
theorem tblG_ok : ∀ x ∈ tblG, CStepOk Tryz.prog cfg x.1 x.2 := by simp [tblG, st141_ok]
set_option maxHeartbeats 8000000 in
theorem runs88 (fs : List (List Pr)) (t : Int) (hne : fs ≠ []) (hl : fs.length ≤ 5) (hf : ∀ f ∈ fs, f.length ≤ 1000) : Runs Tryz.prog cfg 88 [.pointer (some ⟨0, 0, none⟩), .int .i64 t] (AH.of [some (.hi (.log fs))])
    fun r H' => r = .ret (optR (getLog fs t)) ∧ H' = AH.of [some (.hi (.log fs))] := by
  refine Runs.ends ?_
  obtain ⟨dd, hdd⟩ : ∃ dd, (fs.length : Int) - 1 = dd := ⟨_, rfl⟩
  refine runs_by (tbl := tblG) tblG_ok 6 4 (af := a88) rfl ?_
  rw [a88, b88, run_eq]
  refine ⟨by simp, ?_⟩
  simp (implicitDefEqProofs := false) [tblG, forms140, a140, b140, forms189, a189, b189, frag_log, hdd]
  intro r
  refine loop_inv (sg_mono gX_ok (tabS_ok tblG_ok) _ _ _ (yldX_mono (sg_mono gX_ok (tabS_ok tblG_ok) _ _ noY noY_mono))) (fun m tm H => tm 0 = .func (.yield 6) #[] #[] ∧ tm 1 = .pointer (some ⟨5, 0, none⟩) ∧ GW fs t dd r m H) (m := 5) ?_ (by omega) ?_
  · cases fs with
    | nil => exact (hne rfl).elim
    | cons f rs => exact ⟨by simp, by simp, .c0 f rs rfl⟩
  rintro m tm H ⟨t0, t1, hw⟩
  cases hw with
  | c0 f rs h =>
    subst h
    have hfl : f.length ≤ 1000 := hf f (by simp)
    cases hv : getP f t with
    | some v =>
      cases rs with
      | nil =>
        simp (implicitDefEqProofs := false) [tblG, st141, t0, t1, hv, hfl, frag_stk1, optR]
        refine ends_plan [.pack (GD.stk [f]) 4 [7], .pack (GD.log (f :: [])) 0 [4]] [0] ?_ ?_ ?_ <;> simp [frag_stk1, frag_stk2, frag_log, AObj.mine, getLog_none, getLog_some, hv, optR, ← hdd]
      | cons q rs =>
        simp (implicitDefEqProofs := false) [tblG, st141, t0, t1, hv, hfl, frag_stk2, optR]
        refine ends_plan [.pack (GD.stk (f :: q :: rs)) 4 [7, 8], .pack (GD.log (f :: q :: rs)) 0 [4]] [0] ?_ ?_ ?_ <;> simp [frag_stk1, frag_stk2, frag_log, AObj.mine, getLog_none, getLog_some, hv, optR, ← hdd]
    | none =>
      cases rs with
      | nil =>
        simp (implicitDefEqProofs := false) [tblG, st141, t0, t1, hv, hfl, frag_stk1, optR]
        exact ⟨4, by omega, .n1 f rfl  hv⟩
      | cons q rs =>
        simp (implicitDefEqProofs := false) [tblG, st141, t0, t1, hv, hfl, frag_stk2, optR]
        exact ⟨4, by omega, .c1 f q rs rfl  hv⟩
  | c1 g1 f rs h n1 =>
    subst h
    have hfl : f.length ≤ 1000 := hf f (by simp)
    cases hv : getP f t with
    | some v =>
      cases rs with
      | nil =>
        simp (implicitDefEqProofs := false) [tblG, st141, t0, t1, hv, hfl, frag_stk1, optR]
        refine ends_plan [.pack (GD.stk [f]) 8 [9], .pack (GD.stk (g1 :: f :: [])) 4 [7, 8], .pack (GD.log (g1 :: f :: [])) 0 [4]] [0] ?_ ?_ ?_ <;> simp [frag_stk1, frag_stk2, frag_log, AObj.mine, getLog_none, getLog_some, n1, hv, optR, ← hdd]
      | cons q rs =>
        simp (implicitDefEqProofs := false) [tblG, st141, t0, t1, hv, hfl, frag_stk2, optR]
        refine ends_plan [.pack (GD.stk (f :: q :: rs)) 8 [9, 10], .pack (GD.stk (g1 :: f :: q :: rs)) 4 [7, 8], .pack (GD.log (g1 :: f :: q :: rs)) 0 [4]] [0] ?_ ?_ ?_ <;> simp [frag_stk1, frag_stk2, frag_log, AObj.mine, getLog_none, getLog_some, n1, hv, optR, ← hdd]
    | none =>
      cases rs with
      | nil =>
        simp (implicitDefEqProofs := false) [tblG, st141, t0, t1, hv, hfl, frag_stk1, optR]
        exact ⟨3, by omega, .n2 g1 f rfl n1 hv⟩
      | cons q rs =>
        simp (implicitDefEqProofs := false) [tblG, st141, t0, t1, hv, hfl, frag_stk2, optR]
        exact ⟨3, by omega, .c2 g1 f q rs rfl n1 hv⟩
  | n1 g1 h n1 =>
    subst h
    simp (implicitDefEqProofs := false) [t0, t1]
    refine ends_plan [.pack (GD.stk [g1]) 4 [7], .pack (GD.log (g1 :: [])) 0 [4]] [0] ?_ ?_ ?_ <;> simp [frag_stk1, frag_stk2, frag_log, AObj.mine, getLog_none, getLog_nil, optR, n1, ← hdd]
  | c2 g1 g2 f rs h n1 n2 =>
    subst h
    have hfl : f.length ≤ 1000 := hf f (by simp)
    cases hv : getP f t with
    | some v =>
      cases rs with
      | nil =>
        simp (implicitDefEqProofs := false) [tblG, st141, t0, t1, hv, hfl, frag_stk1, optR]
        refine ends_plan [.pack (GD.stk [f]) 10 [11], .pack (GD.stk (g2 :: f :: [])) 8 [9, 10], .pack (GD.stk (g1 :: g2 :: f :: [])) 4 [7, 8], .pack (GD.log (g1 :: g2 :: f :: [])) 0 [4]] [0] ?_ ?_ ?_ <;> simp [frag_stk1, frag_stk2, frag_log, AObj.mine, getLog_none, getLog_some, n1, n2, hv, optR, ← hdd]
      | cons q rs =>
        simp (implicitDefEqProofs := false) [tblG, st141, t0, t1, hv, hfl, frag_stk2, optR]
        refine ends_plan [.pack (GD.stk (f :: q :: rs)) 10 [11, 12], .pack (GD.stk (g2 :: f :: q :: rs)) 8 [9, 10], .pack (GD.stk (g1 :: g2 :: f :: q :: rs)) 4 [7, 8], .pack (GD.log (g1 :: g2 :: f :: q :: rs)) 0 [4]] [0] ?_ ?_ ?_ <;> simp [frag_stk1, frag_stk2, frag_log, AObj.mine, getLog_none, getLog_some, n1, n2, hv, optR, ← hdd]
    | none =>
      cases rs with
      | nil =>
        simp (implicitDefEqProofs := false) [tblG, st141, t0, t1, hv, hfl, frag_stk1, optR]
        exact ⟨2, by omega, .n3 g1 g2 f rfl n1 n2 hv⟩
      | cons q rs =>
        simp (implicitDefEqProofs := false) [tblG, st141, t0, t1, hv, hfl, frag_stk2, optR]
        exact ⟨2, by omega, .c3 g1 g2 f q rs rfl n1 n2 hv⟩
  | n2 g1 g2 h n1 n2 =>
    subst h
    simp (implicitDefEqProofs := false) [t0, t1]
    refine ends_plan [.pack (GD.stk [g2]) 8 [9], .pack (GD.stk (g1 :: g2 :: [])) 4 [7, 8], .pack (GD.log (g1 :: g2 :: [])) 0 [4]] [0] ?_ ?_ ?_ <;> simp [frag_stk1, frag_stk2, frag_log, AObj.mine, getLog_none, getLog_nil, optR, n1, n2, ← hdd]
  | c3 g1 g2 g3 f rs h n1 n2 n3 =>
    subst h
    have hfl : f.length ≤ 1000 := hf f (by simp)
    cases hv : getP f t with
    | some v =>
      cases rs with
      | nil =>
        simp (implicitDefEqProofs := false) [tblG, st141, t0, t1, hv, hfl, frag_stk1, optR]
        refine ends_plan [.pack (GD.stk [f]) 12 [13], .pack (GD.stk (g3 :: f :: [])) 10 [11, 12], .pack (GD.stk (g2 :: g3 :: f :: [])) 8 [9, 10], .pack (GD.stk (g1 :: g2 :: g3 :: f :: [])) 4 [7, 8], .pack (GD.log (g1 :: g2 :: g3 :: f :: [])) 0 [4]] [0] ?_ ?_ ?_ <;> simp [frag_stk1, frag_stk2, frag_log, AObj.mine, getLog_none, getLog_some, n1, n2, n3, hv, optR, ← hdd]
      | cons q rs =>
        simp (implicitDefEqProofs := false) [tblG, st141, t0, t1, hv, hfl, frag_stk2, optR]
        refine ends_plan [.pack (GD.stk (f :: q :: rs)) 12 [13, 14], .pack (GD.stk (g3 :: f :: q :: rs)) 10 [11, 12], .pack (GD.stk (g2 :: g3 :: f :: q :: rs)) 8 [9, 10], .pack (GD.stk (g1 :: g2 :: g3 :: f :: q :: rs)) 4 [7, 8], .pack (GD.log (g1 :: g2 :: g3 :: f :: q :: rs)) 0 [4]] [0] ?_ ?_ ?_ <;> simp [frag_stk1, frag_stk2, frag_log, AObj.mine, getLog_none, getLog_some, n1, n2, n3, hv, optR, ← hdd]
    | none =>
      cases rs with
      | nil =>
        simp (implicitDefEqProofs := false) [tblG, st141, t0, t1, hv, hfl, frag_stk1, optR]
        exact ⟨1, by omega, .n4 g1 g2 g3 f rfl n1 n2 n3 hv⟩
      | cons q rs =>
        simp (implicitDefEqProofs := false) [tblG, st141, t0, t1, hv, hfl, frag_stk2, optR]
        exact ⟨1, by omega, .c4 g1 g2 g3 f q rs rfl n1 n2 n3 hv⟩
  | n3 g1 g2 g3 h n1 n2 n3 =>
    subst h
    simp (implicitDefEqProofs := false) [t0, t1]
    refine ends_plan [.pack (GD.stk [g3]) 10 [11], .pack (GD.stk (g2 :: g3 :: [])) 8 [9, 10], .pack (GD.stk (g1 :: g2 :: g3 :: [])) 4 [7, 8], .pack (GD.log (g1 :: g2 :: g3 :: [])) 0 [4]] [0] ?_ ?_ ?_ <;> simp [frag_stk1, frag_stk2, frag_log, AObj.mine, getLog_none, getLog_nil, optR, n1, n2, n3, ← hdd]
  | c4 g1 g2 g3 g4 f rs h n1 n2 n3 n4 =>
    subst h
    have hfl : f.length ≤ 1000 := hf f (by simp)
    cases hv : getP f t with
    | some v =>
      cases rs with
      | nil =>
        simp (implicitDefEqProofs := false) [tblG, st141, t0, t1, hv, hfl, frag_stk1, optR]
        refine ends_plan [.pack (GD.stk [f]) 14 [15], .pack (GD.stk (g4 :: f :: [])) 12 [13, 14], .pack (GD.stk (g3 :: g4 :: f :: [])) 10 [11, 12], .pack (GD.stk (g2 :: g3 :: g4 :: f :: [])) 8 [9, 10], .pack (GD.stk (g1 :: g2 :: g3 :: g4 :: f :: [])) 4 [7, 8], .pack (GD.log (g1 :: g2 :: g3 :: g4 :: f :: [])) 0 [4]] [0] ?_ ?_ ?_ <;> simp [frag_stk1, frag_stk2, frag_log, AObj.mine, getLog_none, getLog_some, n1, n2, n3, n4, hv, optR, ← hdd]
      | cons q rs =>
        simp at hl
    | none =>
      cases rs with
      | nil =>
        simp (implicitDefEqProofs := false) [tblG, st141, t0, t1, hv, hfl, frag_stk1, optR]
        exact .n5 g1 g2 g3 g4 f rfl n1 n2 n3 n4 hv
      | cons q rs =>
        simp at hl
  | n4 g1 g2 g3 g4 h n1 n2 n3 n4 =>
    subst h
    simp (implicitDefEqProofs := false) [t0, t1]
    refine ends_plan [.pack (GD.stk [g4]) 12 [13], .pack (GD.stk (g3 :: g4 :: [])) 10 [11, 12], .pack (GD.stk (g2 :: g3 :: g4 :: [])) 8 [9, 10], .pack (GD.stk (g1 :: g2 :: g3 :: g4 :: [])) 4 [7, 8], .pack (GD.log (g1 :: g2 :: g3 :: g4 :: [])) 0 [4]] [0] ?_ ?_ ?_ <;> simp [frag_stk1, frag_stk2, frag_log, AObj.mine, getLog_none, getLog_nil, optR, n1, n2, n3, n4, ← hdd]
  | n5 g1 g2 g3 g4 g5 h n1 n2 n3 n4 n5 =>
    subst h
    simp (implicitDefEqProofs := false) [t0, t1]
    refine ends_plan [.pack (GD.stk [g5]) 14 [15], .pack (GD.stk (g4 :: g5 :: [])) 12 [13, 14], .pack (GD.stk (g3 :: g4 :: g5 :: [])) 10 [11, 12], .pack (GD.stk (g2 :: g3 :: g4 :: g5 :: [])) 8 [9, 10], .pack (GD.stk (g1 :: g2 :: g3 :: g4 :: g5 :: [])) 4 [7, 8], .pack (GD.log (g1 :: g2 :: g3 :: g4 :: g5 :: [])) 0 [4]] [0] ?_ ?_ ?_ <;> simp [frag_stk1, frag_stk2, frag_log, AObj.mine, getLog_none, getLog_nil, optR, n1, n2, n3, n4, n5, ← hdd]
def d88 : DStep
  | .log fs, [.int .i64 t] => some (GoodLog fs, optR (getLog fs t), .log fs)
  | _, _ => none
theorem st88_ok : CStepOk Tryz.prog cfg 88 (dataSt d88) := data_ok fun d rest p v d' h hp => by
  unfold d88 at h
  split at h
  · cases h; exact ⟨rfl, rfl, runs88 _ _ hp.1 hp.2.1 hp.le⟩
  · cases h
end YtnemoimbeefngaaGreat
end Go.Proofs
/-
  WRITES: Len, down the frames.
-/
set_option linter.unusedSimpArgs false
set_option linter.unusedVariables false
set_option linter.unnecessarySimpa false
set_option linter.unusedSectionVars false
namespace Go.Proofs
namespace YtnemoimbeefngaaGreat
open Go.Abs
set_option linter.unusedSimpArgs false

inductive LW (fs : List (List Pr)) (dd : Int) (r : Loop) : Nat → AH GD → Prop
  | c0 (f : List Pr) (rs : List (List Pr)) (h : fs = f :: rs) (s : Int) (hs : s = 0) : LW fs dd r 5 (AH.of [some (.arr 166 [.pointer (some ⟨2, 0, none⟩), .int .i64 dd]), some (.arr 3 [.int .i64 s]), some (.hi (.stk (f :: rs))), some (.arr 164 [.pointer (some ⟨2, 0, none⟩)]), some (.loopr r 0 none)])
  | c1 (g1 f : List Pr) (rs : List (List Pr)) (h : fs = g1 :: f :: rs) (s : Int) (hs : s = (g1.length : Int)) : LW fs dd r 4 (AH.of [some (.arr 166 [.pointer (some ⟨2, 0, none⟩), .int .i64 dd]), some (.arr 3 [.int .i64 s]), some (.arr 220 [.slice (some ⟨5, 0, none⟩) g1.length 1, .pointer (some ⟨6, 0, none⟩)]), some (.arr 164 [.pointer (some ⟨6, 0, none⟩)]), some (.loopr r 0 none), some (.arr 157 (prs g1)), some (.hi (.stk (f :: rs)))])
  | n1 (g1 : List Pr) (h : fs = [g1]) (s : Int) (hs : s = (g1.length : Int)) : LW fs dd r 4 (AH.of [some (.arr 166 [.pointer (some ⟨2, 0, none⟩), .int .i64 dd]), some (.arr 3 [.int .i64 s]), some (.arr 220 [.slice (some ⟨5, 0, none⟩) g1.length 1, .pointer none]), some (.arr 164 [.pointer none]), some (.loopr r 0 none), some (.arr 157 (prs g1))])
  | c2 (g1 g2 f : List Pr) (rs : List (List Pr)) (h : fs = g1 :: g2 :: f :: rs) (s : Int) (hs : s = (g1.length : Int) + (g2.length : Int)) : LW fs dd r 3 (AH.of [some (.arr 166 [.pointer (some ⟨2, 0, none⟩), .int .i64 dd]), some (.arr 3 [.int .i64 s]), some (.arr 220 [.slice (some ⟨5, 0, none⟩) g1.length 1, .pointer (some ⟨6, 0, none⟩)]), some (.arr 164 [.pointer (some ⟨8, 0, none⟩)]), some (.loopr r 0 none), some (.arr 157 (prs g1)), some (.arr 220 [.slice (some ⟨7, 0, none⟩) g2.length 1, .pointer (some ⟨8, 0, none⟩)]), some (.arr 157 (prs g2)), some (.hi (.stk (f :: rs)))])
  | n2 (g1 g2 : List Pr) (h : fs = [g1, g2]) (s : Int) (hs : s = (g1.length : Int) + (g2.length : Int)) : LW fs dd r 3 (AH.of [some (.arr 166 [.pointer (some ⟨2, 0, none⟩), .int .i64 dd]), some (.arr 3 [.int .i64 s]), some (.arr 220 [.slice (some ⟨5, 0, none⟩) g1.length 1, .pointer (some ⟨6, 0, none⟩)]), some (.arr 164 [.pointer none]), some (.loopr r 0 none), some (.arr 157 (prs g1)), some (.arr 220 [.slice (some ⟨7, 0, none⟩) g2.length 1, .pointer none]), some (.arr 157 (prs g2))])
  | c3 (g1 g2 g3 f : List Pr) (rs : List (List Pr)) (h : fs = g1 :: g2 :: g3 :: f :: rs) (s : Int) (hs : s = (g1.length : Int) + (g2.length : Int) + (g3.length : Int)) : LW fs dd r 2 (AH.of [some (.arr 166 [.pointer (some ⟨2, 0, none⟩), .int .i64 dd]), some (.arr 3 [.int .i64 s]), some (.arr 220 [.slice (some ⟨5, 0, none⟩) g1.length 1, .pointer (some ⟨6, 0, none⟩)]), some (.arr 164 [.pointer (some ⟨10, 0, none⟩)]), some (.loopr r 0 none), some (.arr 157 (prs g1)), some (.arr 220 [.slice (some ⟨7, 0, none⟩) g2.length 1, .pointer (some ⟨8, 0, none⟩)]), some (.arr 157 (prs g2)), some (.arr 220 [.slice (some ⟨9, 0, none⟩) g3.length 1, .pointer (some ⟨10, 0, none⟩)]), some (.arr 157 (prs g3)), some (.hi (.stk (f :: rs)))])
  | n3 (g1 g2 g3 : List Pr) (h : fs = [g1, g2, g3]) (s : Int) (hs : s = (g1.length : Int) + (g2.length : Int) + (g3.length : Int)) : LW fs dd r 2 (AH.of [some (.arr 166 [.pointer (some ⟨2, 0, none⟩), .int .i64 dd]), some (.arr 3 [.int .i64 s]), some (.arr 220 [.slice (some ⟨5, 0, none⟩) g1.length 1, .pointer (some ⟨6, 0, none⟩)]), some (.arr 164 [.pointer none]), some (.loopr r 0 none), some (.arr 157 (prs g1)), some (.arr 220 [.slice (some ⟨7, 0, none⟩) g2.length 1, .pointer (some ⟨8, 0, none⟩)]), some (.arr 157 (prs g2)), some (.arr 220 [.slice (some ⟨9, 0, none⟩) g3.length 1, .pointer none]), some (.arr 157 (prs g3))])
  | c4 (g1 g2 g3 g4 f : List Pr) (rs : List (List Pr)) (h : fs = g1 :: g2 :: g3 :: g4 :: f :: rs) (s : Int) (hs : s = (g1.length : Int) + (g2.length : Int) + (g3.length : Int) + (g4.length : Int)) : LW fs dd r 1 (AH.of [some (.arr 166 [.pointer (some ⟨2, 0, none⟩), .int .i64 dd]), some (.arr 3 [.int .i64 s]), some (.arr 220 [.slice (some ⟨5, 0, none⟩) g1.length 1, .pointer (some ⟨6, 0, none⟩)]), some (.arr 164 [.pointer (some ⟨12, 0, none⟩)]), some (.loopr r 0 none), some (.arr 157 (prs g1)), some (.arr 220 [.slice (some ⟨7, 0, none⟩) g2.length 1, .pointer (some ⟨8, 0, none⟩)]), some (.arr 157 (prs g2)), some (.arr 220 [.slice (some ⟨9, 0, none⟩) g3.length 1, .pointer (some ⟨10, 0, none⟩)]), some (.arr 157 (prs g3)), some (.arr 220 [.slice (some ⟨11, 0, none⟩) g4.length 1, .pointer (some ⟨12, 0, none⟩)]), some (.arr 157 (prs g4)), some (.hi (.stk (f :: rs)))])
  | n4 (g1 g2 g3 g4 : List Pr) (h : fs = [g1, g2, g3, g4]) (s : Int) (hs : s = (g1.length : Int) + (g2.length : Int) + (g3.length : Int) + (g4.length : Int)) : LW fs dd r 1 (AH.of [some (.arr 166 [.pointer (some ⟨2, 0, none⟩), .int .i64 dd]), some (.arr 3 [.int .i64 s]), some (.arr 220 [.slice (some ⟨5, 0, none⟩) g1.length 1, .pointer (some ⟨6, 0, none⟩)]), some (.arr 164 [.pointer none]), some (.loopr r 0 none), some (.arr 157 (prs g1)), some (.arr 220 [.slice (some ⟨7, 0, none⟩) g2.length 1, .pointer (some ⟨8, 0, none⟩)]), some (.arr 157 (prs g2)), some (.arr 220 [.slice (some ⟨9, 0, none⟩) g3.length 1, .pointer (some ⟨10, 0, none⟩)]), some (.arr 157 (prs g3)), some (.arr 220 [.slice (some ⟨11, 0, none⟩) g4.length 1, .pointer none]), some (.arr 157 (prs g4))])
  | n5 (g1 g2 g3 g4 g5 : List Pr) (h : fs = [g1, g2, g3, g4, g5]) (s : Int) (hs : s = (g1.length : Int) + (g2.length : Int) + (g3.length : Int) + (g4.length : Int) + (g5.length : Int)) : LW fs dd r 0 (AH.of [some (.arr 166 [.pointer (some ⟨2, 0, none⟩), .int .i64 dd]), some (.arr 3 [.int .i64 s]), some (.arr 220 [.slice (some ⟨5, 0, none⟩) g1.length 1, .pointer (some ⟨6, 0, none⟩)]), some (.arr 164 [.pointer none]), some (.loopr r 0 none), some (.arr 157 (prs g1)), some (.arr 220 [.slice (some ⟨7, 0, none⟩) g2.length 1, .pointer (some ⟨8, 0, none⟩)]), some (.arr 157 (prs g2)), some (.arr 220 [.slice (some ⟨9, 0, none⟩) g3.length 1, .pointer (some ⟨10, 0, none⟩)]), some (.arr 157 (prs g3)), some (.arr 220 [.slice (some ⟨11, 0, none⟩) g4.length 1, .pointer (some ⟨12, 0, none⟩)]), some (.arr 157 (prs g4)), some (.arr 220 [.slice (some ⟨13, 0, none⟩) g5.length 1, .pointer none]), some (.arr 157 (prs g5))])


set_option maxHeartbeats 8000000 in
theorem runs192 (fs : List (List Pr)) (hne : fs ≠ []) (hl : fs.length ≤ 5) (hf : ∀ f ∈ fs, f.length ≤ 1000) : Runs Tryz.prog cfg 192 [.pointer (some ⟨0, 0, none⟩)] (AH.of [some (.hi (.log fs))])
    fun r H' => r = .ret (.int .i64 (lenLog fs)) ∧ H' = AH.of [some (.hi (.log fs))] := by
  refine Runs.ends ?_
  obtain ⟨dd, hdd⟩ : ∃ dd, (fs.length : Int) - 1 = dd := ⟨_, rfl⟩
  refine runs_by (tbl := []) (by simp) 6 4 (af := a192) rfl ?_
  rw [a192, b192, run_eq]
  refine ⟨by simp, ?_⟩
  simp (implicitDefEqProofs := false) [forms140, a140, b140, forms189, a189, b189, frag_log, hdd]
  intro r
  refine loop_inv (sg_mono gX_ok (tabS_ok (by simp)) _ _ _ (yldX_mono (sg_mono gX_ok (tabS_ok (by simp)) _ _ noY noY_mono))) (fun m tm H => tm 0 = .func (.yield 4) #[] #[] ∧ tm 1 = .pointer (some ⟨3, 0, none⟩) ∧ LW fs dd r m H) (m := 5) ?_ (by omega) ?_
  · cases fs with
    | nil => exact (hne rfl).elim
    | cons f rs => exact ⟨by simp, by simp, .c0 f rs rfl 0 rfl⟩
  rintro m tm H ⟨t0, t1, hw⟩
  cases hw with
  | c0 f rs h s hs =>
    subst h
    have hfl : f.length ≤ 1000 := hf f (by simp)
    have hs0 : ∀ x ∈ (f :: rs : List (List Pr)), x.length ≤ 1000 := hf
    have hwr : IntKind.i64.wrap (s + f.length) = s + f.length := wrap_i64 (by omega) (by omega)
    cases rs with
    | nil =>
      simp (implicitDefEqProofs := false) [t0, t1, hwr, frag_stk1]
      exact ⟨4, by omega, .n1 f rfl (s + f.length) (by omega)⟩
    | cons q rs =>
      simp (implicitDefEqProofs := false) [t0, t1, hwr, frag_stk2]
      exact ⟨4, by omega, .c1 f q rs rfl (s + f.length) (by omega)⟩
  | c1 g1 f rs h s hs =>
    subst h
    have hfl : f.length ≤ 1000 := hf f (by simp)
    have hs0 : ∀ x ∈ (g1 :: f :: rs : List (List Pr)), x.length ≤ 1000 := hf
    have hg1 : g1.length ≤ 1000 := hf g1 (by simp)
    have hwr : IntKind.i64.wrap (s + f.length) = s + f.length := wrap_i64 (by omega) (by omega)
    cases rs with
    | nil =>
      simp (implicitDefEqProofs := false) [t0, t1, hwr, frag_stk1]
      exact ⟨3, by omega, .n2 g1 f rfl (s + f.length) (by omega)⟩
    | cons q rs =>
      simp (implicitDefEqProofs := false) [t0, t1, hwr, frag_stk2]
      exact ⟨3, by omega, .c2 g1 f q rs rfl (s + f.length) (by omega)⟩
  | n1 g1 h s hs =>
    subst h
    simp (implicitDefEqProofs := false) [t0, t1]
    refine ends_plan [.pack (GD.stk [g1]) 2 [5], .pack (GD.log (g1 :: [])) 0 [2]] [0] ?_ ?_ ?_ <;> simp [frag_stk1, frag_stk2, frag_log, AObj.mine, lenLog_cons, lenLog_nil, ← hdd] <;> omega
  | c2 g1 g2 f rs h s hs =>
    subst h
    have hfl : f.length ≤ 1000 := hf f (by simp)
    have hs0 : ∀ x ∈ (g1 :: g2 :: f :: rs : List (List Pr)), x.length ≤ 1000 := hf
    have hg1 : g1.length ≤ 1000 := hf g1 (by simp)
    have hg2 : g2.length ≤ 1000 := hf g2 (by simp)
    have hwr : IntKind.i64.wrap (s + f.length) = s + f.length := wrap_i64 (by omega) (by omega)
    cases rs with
    | nil =>
      simp (implicitDefEqProofs := false) [t0, t1, hwr, frag_stk1]
      exact ⟨2, by omega, .n3 g1 g2 f rfl (s + f.length) (by omega)⟩
    | cons q rs =>
      simp (implicitDefEqProofs := false) [t0, t1, hwr, frag_stk2]
      exact ⟨2, by omega, .c3 g1 g2 f q rs rfl (s + f.length) (by omega)⟩
  | n2 g1 g2 h s hs =>
    subst h
    simp (implicitDefEqProofs := false) [t0, t1]
    refine ends_plan [.pack (GD.stk [g2]) 6 [7], .pack (GD.stk (g1 :: g2 :: [])) 2 [5, 6], .pack (GD.log (g1 :: g2 :: [])) 0 [2]] [0] ?_ ?_ ?_ <;> simp [frag_stk1, frag_stk2, frag_log, AObj.mine, lenLog_cons, lenLog_nil, ← hdd] <;> omega
  | c3 g1 g2 g3 f rs h s hs =>
    subst h
    have hfl : f.length ≤ 1000 := hf f (by simp)
    have hs0 : ∀ x ∈ (g1 :: g2 :: g3 :: f :: rs : List (List Pr)), x.length ≤ 1000 := hf
    have hg1 : g1.length ≤ 1000 := hf g1 (by simp)
    have hg2 : g2.length ≤ 1000 := hf g2 (by simp)
    have hg3 : g3.length ≤ 1000 := hf g3 (by simp)
    have hwr : IntKind.i64.wrap (s + f.length) = s + f.length := wrap_i64 (by omega) (by omega)
    cases rs with
    | nil =>
      simp (implicitDefEqProofs := false) [t0, t1, hwr, frag_stk1]
      exact ⟨1, by omega, .n4 g1 g2 g3 f rfl (s + f.length) (by omega)⟩
    | cons q rs =>
      simp (implicitDefEqProofs := false) [t0, t1, hwr, frag_stk2]
      exact ⟨1, by omega, .c4 g1 g2 g3 f q rs rfl (s + f.length) (by omega)⟩
  | n3 g1 g2 g3 h s hs =>
    subst h
    simp (implicitDefEqProofs := false) [t0, t1]
    refine ends_plan [.pack (GD.stk [g3]) 8 [9], .pack (GD.stk (g2 :: g3 :: [])) 6 [7, 8], .pack (GD.stk (g1 :: g2 :: g3 :: [])) 2 [5, 6], .pack (GD.log (g1 :: g2 :: g3 :: [])) 0 [2]] [0] ?_ ?_ ?_ <;> simp [frag_stk1, frag_stk2, frag_log, AObj.mine, lenLog_cons, lenLog_nil, ← hdd] <;> omega
  | c4 g1 g2 g3 g4 f rs h s hs =>
    subst h
    have hfl : f.length ≤ 1000 := hf f (by simp)
    have hs0 : ∀ x ∈ (g1 :: g2 :: g3 :: g4 :: f :: rs : List (List Pr)), x.length ≤ 1000 := hf
    have hg1 : g1.length ≤ 1000 := hf g1 (by simp)
    have hg2 : g2.length ≤ 1000 := hf g2 (by simp)
    have hg3 : g3.length ≤ 1000 := hf g3 (by simp)
    have hg4 : g4.length ≤ 1000 := hf g4 (by simp)
    have hwr : IntKind.i64.wrap (s + f.length) = s + f.length := wrap_i64 (by omega) (by omega)
    cases rs with
    | nil =>
      simp (implicitDefEqProofs := false) [t0, t1, hwr, frag_stk1]
      exact .n5 g1 g2 g3 g4 f rfl (s + f.length) (by omega)
    | cons q rs =>
      simp at hl
  | n4 g1 g2 g3 g4 h s hs =>
    subst h
    simp (implicitDefEqProofs := false) [t0, t1]
    refine ends_plan [.pack (GD.stk [g4]) 10 [11], .pack (GD.stk (g3 :: g4 :: [])) 8 [9, 10], .pack (GD.stk (g2 :: g3 :: g4 :: [])) 6 [7, 8], .pack (GD.stk (g1 :: g2 :: g3 :: g4 :: [])) 2 [5, 6], .pack (GD.log (g1 :: g2 :: g3 :: g4 :: [])) 0 [2]] [0] ?_ ?_ ?_ <;> simp [frag_stk1, frag_stk2, frag_log, AObj.mine, lenLog_cons, lenLog_nil, ← hdd] <;> omega
  | n5 g1 g2 g3 g4 g5 h s hs =>
    subst h
    simp (implicitDefEqProofs := false) [t0, t1]
    refine ends_plan [.pack (GD.stk [g5]) 12 [13], .pack (GD.stk (g4 :: g5 :: [])) 10 [11, 12], .pack (GD.stk (g3 :: g4 :: g5 :: [])) 8 [9, 10], .pack (GD.stk (g2 :: g3 :: g4 :: g5 :: [])) 6 [7, 8], .pack (GD.stk (g1 :: g2 :: g3 :: g4 :: g5 :: [])) 2 [5, 6], .pack (GD.log (g1 :: g2 :: g3 :: g4 :: g5 :: [])) 0 [2]] [0] ?_ ?_ ?_ <;> simp [frag_stk1, frag_stk2, frag_log, AObj.mine, lenLog_cons, lenLog_nil, ← hdd] <;> omega
def d192 : DStep
  | .log fs, [] => some (GoodLog fs, .int .i64 (lenLog fs), .log fs)
  | _, _ => none
theorem st192_ok : CStepOk Tryz.prog cfg 192 (dataSt d192) := data_ok fun d rest p v d' h hp => by
  unfold d192 at h
  split at h
  · cases h; exact ⟨rfl, rfl, runs192 _ hp.1 hp.2.1 hp.le⟩
  · cases h
end YtnemoimbeefngaaGreat
end Go.Proofs
/-
  VALUES: which are right; which are the same.
-/
set_option linter.unusedSimpArgs false
set_option linter.unusedVariables false
set_option linter.unnecessarySimpa false
set_option linter.unusedSectionVars false
namespace Go.Proofs
namespace YtnemoimbeefngaaGreat
open Go.Abs
set_option linter.unusedSimpArgs false

def rightB (v : Int) : Bool := decide (bAndNot .u64 v 9223372036854775808 ≤ 9218868437227405312) || decide (v = 9221120237041090560)
theorem runs96 (v : Int) (H : AH GD) : Runs Tryz.prog cfg 96 [.int .u64 v] H fun r H' => r = .ret (.bool (rightB v)) ∧ H' = H := by
  refine runs_by (tbl := []) (by simp) 0 0 (af := a96) rfl ?_
  rw [a96, b96, run_eq]
  refine ⟨by simp, ?_⟩
  simp (implicitDefEqProofs := false)
  repeat' (first | with_reducible apply And.intro | with_reducible intro _)
  all_goals (simp [rightB, *] <;> omega)
def st96 : CStep GD := fun args H => match args with
  | [x] => (asU x).map fun v => (True, .ret (.bool (rightB v)), H)
  | _ => none
theorem st96_ok : CStepOk Tryz.prog cfg 96 st96 := by
  intro args H p r H' h hp
  unfold st96 at h
  split at h
  case h_2 => cases h
  simp only [Option.map_eq_some_iff] at h
  obtain ⟨v, hv, h⟩ := h
  cases h
  rw [asU_inv hv]
  exact runs96 v H
theorem runs98 (v : Int) (h0 : 0 ≤ v) (h1 : v < 18446744073709551616) (H : AH GD) : Runs Tryz.prog cfg 98 [.int .u64 v] H fun r H' => r = .ret (.bool (rightB v)) ∧ H' = H := by
  refine runs_by (tbl := []) (by simp) 0 0 (af := a98) rfl ?_
  rw [a98, b98, run_eq]
  refine ⟨by simp, ?_⟩
  have e : abin .eql (.float .f64 v.toNat) (.float .f64 v.toNat) = some (.bool (decide (bAndNot .u64 v 9223372036854775808 ≤ 9218868437227405312))) := by
    simp only [abin, order_self, bAndNot_sign h0 h1]
    simp
    omega
  simp (implicitDefEqProofs := false) [e]
  repeat' (first | with_reducible apply And.intro | with_reducible intro _)
  all_goals (simp [rightB, *] <;> omega)
def st98 : CStep GD := fun args H => match args with
  | [x] => (asU x).map fun v => (0 ≤ v ∧ v < 18446744073709551616, .ret (.bool (rightB v)), H)
  | _ => none
theorem st98_ok : CStepOk Tryz.prog cfg 98 st98 := by
  intro args H p r H' h hp
  unfold st98 at h
  split at h
  case h_2 => cases h
  simp only [Option.map_eq_some_iff] at h
  obtain ⟨v, hv, h⟩ := h
  cases h
  rw [asU_inv hv]
  exact runs98 v hp.1 hp.2 H
end YtnemoimbeefngaaGreat
end Go.Proofs
/-
  WRITES: Put.
-/
set_option linter.unusedSimpArgs false
set_option linter.unusedVariables false
set_option linter.unnecessarySimpa false
set_option linter.unusedSectionVars false
namespace Go.Proofs
namespace YtnemoimbeefngaaGreat
open Go.Abs
set_option linter.unusedSimpArgs false

def putCode (f : List Pr) (fs : List (List Pr)) (t v : Int) : Int :=
  if t < 0 ∨ 12 ≤ t then 2 else if rightB v = false then 3 else if (getP f t).isNone = true ∧ 16 ≤ lenLog (f :: fs) then 4 else 0
def tblP : List (FuncId × CStep GD) := [(141, st141), (191, st191), (192, dataSt d192), (96, st96)]
theorem tblP_ok : ∀ x ∈ tblP, CStepOk Tryz.prog cfg x.1 x.2 := by simp [tblP, st141_ok, st191_ok, st192_ok, st96_ok]
set_option maxHeartbeats 4000000 in
theorem runs147 (f : List Pr) (fs : List (List Pr)) (t v : Int) (hg : GoodLog (f :: fs)) (hv : 0 ≤ v ∧ v < 18446744073709551616) : Runs Tryz.prog cfg 147 [.pointer (some ⟨0, 0, none⟩), .int .i64 t, .int .u64 v] (AH.of [some (.hi (.log (f :: fs)))])
    fun r H' => r = .ret (.int .i64 (putCode f fs t v)) ∧ H' = AH.of [some (.hi (if putCode f fs t v = 0 then .log (putF f ⟨t, v⟩ :: fs) else .log (f :: fs)))] := by
  refine Runs.ends ?_
  have hfl : f.length ≤ 1000 := hg.le f (by simp)
  have hgg : GoodLog (f :: fs) := hg
  by_cases h1 : t < 0
  · refine runs_by (tbl := tblP) tblP_ok 0 2 (af := a147) rfl ?_
    rw [a147, b147, run_eq]
    refine ⟨by simp, ?_⟩
    simp (implicitDefEqProofs := false) [h1]
    refine ends_plan [] [0] ?_ ?_ ?_ <;> simp [putCode, h1]
  by_cases h2 : 12 ≤ t
  · refine runs_by (tbl := tblP) tblP_ok 0 2 (af := a147) rfl ?_
    rw [a147, b147, run_eq]
    refine ⟨by simp, ?_⟩
    simp (implicitDefEqProofs := false) [h1, h2]
    refine ends_plan [] [0] ?_ ?_ ?_ <;> simp [putCode, h1, h2]
  cases h3 : rightB v with
  | false =>
    refine runs_by (tbl := tblP) tblP_ok 0 2 (af := a147) rfl ?_
    rw [a147, b147, run_eq]
    refine ⟨by simp, ?_⟩
    simp (implicitDefEqProofs := false) [h1, h2, h3, tblP, st96, hv.1, hv.2]
    refine ends_plan [] [0] ?_ ?_ ?_ <;> simp [putCode, h1, h2, h3]
  | true =>
    have done : ∀ (hc : putCode f fs t v = 0), (GD.log (putF f ⟨t, v⟩ :: fs)) = if putCode f fs t v = 0 then .log (putF f ⟨t, v⟩ :: fs) else .log (f :: fs) := fun hc => by rw [if_pos hc]
    cases h4 : getP f t with
    | some w =>
      have hc : putCode f fs t v = 0 := by simp [putCode, h1, h2, h3, h4]
      cases fs with
      | nil =>
        refine runs_by (tbl := tblP) tblP_ok 0 2 (af := a147) rfl ?_
        rw [a147, b147, run_eq]
        refine ⟨by simp, ?_⟩
        simp (implicitDefEqProofs := false) [h1, h2, h3, h4, tblP, st96, hv.1, hv.2, st141, st191, hfl, optR, forms131, a131, b131, frag_log, frag_stk1]
        refine ends_plan [.pack (GD.stk [putF f ⟨t, v⟩]) 4 [3], .pack (GD.log [putF f ⟨t, v⟩]) 0 [4]] [0] ?_ ?_ ?_ <;> simp [hc, frag_stk1, frag_log, AObj.mine]
      | cons q rs =>
        refine runs_by (tbl := tblP) tblP_ok 0 2 (af := a147) rfl ?_
        rw [a147, b147, run_eq]
        refine ⟨by simp, ?_⟩
        simp (implicitDefEqProofs := false) [h1, h2, h3, h4, tblP, st96, hv.1, hv.2, st141, st191, hfl, optR, forms131, a131, b131, frag_log, frag_stk2]
        refine ends_plan [.pack (GD.stk (putF f ⟨t, v⟩ :: q :: rs)) 5 [4, 3], .pack (GD.log (putF f ⟨t, v⟩ :: q :: rs)) 0 [5]] [0] ?_ ?_ ?_ <;> simp [hc, frag_stk2, frag_log, AObj.mine]
    | none =>
      by_cases h5 : 16 ≤ lenLog (f :: fs)
      · have hc : putCode f fs t v = 4 := by simp [putCode, h1, h2, h3, h4, h5]
        cases fs with
        | nil =>
          refine runs_by (tbl := tblP) tblP_ok 0 2 (af := a147) rfl ?_
          rw [a147, b147, run_eq]
          refine ⟨by simp, ?_⟩
          simp (implicitDefEqProofs := false) [h1, h2, h3, h4, tblP, st96, hv.1, hv.2, st141, st191, hfl, optR, forms131, a131, b131, frag_log, frag_stk1]
          refine pack_first [.pack (GD.stk [f]) 1 [2], .pack (GD.log [f]) 0 [1]] ?_ ?_
          · simp [frag_stk1, frag_log, AObj.mine]
          simp (implicitDefEqProofs := false) [tblP, dataSt, d192, hgg, h5]
          refine ends_plan [] [0] ?_ ?_ ?_ <;> simp [hc]
        | cons q rs =>
          refine runs_by (tbl := tblP) tblP_ok 0 2 (af := a147) rfl ?_
          rw [a147, b147, run_eq]
          refine ⟨by simp, ?_⟩
          simp (implicitDefEqProofs := false) [h1, h2, h3, h4, tblP, st96, hv.1, hv.2, st141, st191, hfl, optR, forms131, a131, b131, frag_log, frag_stk2]
          refine pack_first [.pack (GD.stk (f :: q :: rs)) 1 [2, 3], .pack (GD.log (f :: q :: rs)) 0 [1]] ?_ ?_
          · simp [frag_stk2, frag_log, AObj.mine]
          simp (implicitDefEqProofs := false) [tblP, dataSt, d192, hgg, h5]
          refine ends_plan [] [0] ?_ ?_ ?_ <;> simp [hc]
      · have hc : putCode f fs t v = 0 := by simp [putCode, h1, h2, h3, h4, h5]
        cases fs with
        | nil =>
          refine runs_by (tbl := tblP) tblP_ok 0 2 (af := a147) rfl ?_
          rw [a147, b147, run_eq]
          refine ⟨by simp, ?_⟩
          simp (implicitDefEqProofs := false) [h1, h2, h3, h4, tblP, st96, hv.1, hv.2, st141, st191, hfl, optR, forms131, a131, b131, frag_log, frag_stk1]
          refine pack_first [.pack (GD.stk [f]) 1 [2], .pack (GD.log [f]) 0 [1]] ?_ ?_
          · simp [frag_stk1, frag_log, AObj.mine]
          simp (implicitDefEqProofs := false) [tblP, dataSt, d192, hgg, h5, st191, hfl, forms131, a131, b131, frag_log, frag_stk1]
          refine ends_plan [.pack (GD.stk [putF f ⟨t, v⟩]) 6 [5], .pack (GD.log [putF f ⟨t, v⟩]) 0 [6]] [0] ?_ ?_ ?_ <;> simp [hc, frag_stk1, frag_log, AObj.mine]
        | cons q rs =>
          refine runs_by (tbl := tblP) tblP_ok 0 2 (af := a147) rfl ?_
          rw [a147, b147, run_eq]
          refine ⟨by simp, ?_⟩
          simp (implicitDefEqProofs := false) [h1, h2, h3, h4, tblP, st96, hv.1, hv.2, st141, st191, hfl, optR, forms131, a131, b131, frag_log, frag_stk2]
          refine pack_first [.pack (GD.stk (f :: q :: rs)) 1 [2, 3], .pack (GD.log (f :: q :: rs)) 0 [1]] ?_ ?_
          · simp [frag_stk2, frag_log, AObj.mine]
          simp (implicitDefEqProofs := false) [tblP, dataSt, d192, hgg, h5, st191, hfl, forms131, a131, b131, frag_log, frag_stk2]
          refine ends_plan [.pack (GD.stk (putF f ⟨t, v⟩ :: q :: rs)) 8 [7, 6], .pack (GD.log (putF f ⟨t, v⟩ :: q :: rs)) 0 [8]] [0] ?_ ?_ ?_ <;> simp [hc, frag_stk2, frag_log, AObj.mine]
def d147 : DStep
  | .log (f :: fs), [.int .i64 t, .int .u64 v] => some (GoodLog (f :: fs) ∧ 0 ≤ v ∧ v < 18446744073709551616, .int .i64 (putCode f fs t v), if putCode f fs t v = 0 then .log (putF f ⟨t, v⟩ :: fs) else .log (f :: fs))
  | _, _ => none
theorem st147_ok : CStepOk Tryz.prog cfg 147 (dataSt d147) := data_ok fun d rest p v d' h hp => by
  unfold d147 at h
  split at h
  · cases h; exact ⟨rfl, rfl, runs147 _ _ _ _ hp.1 hp.2⟩
  · cases h
end YtnemoimbeefngaaGreat
end Go.Proofs
/-
  WRITES: Merge, All.
-/
set_option linter.unusedSimpArgs false
set_option linter.unusedVariables false
set_option linter.unnecessarySimpa false
set_option linter.unusedSectionVars false
namespace Go.Proofs
namespace YtnemoimbeefngaaGreat
open Go.Abs
set_option linter.unusedSimpArgs false

def mergeF (g f : List Pr) : List Pr := f.foldl putF g
theorem mergeF_succ {g f : List Pr} {i : Nat} {x : Pr} (h : f[i]? = some x) : mergeF g (f.take (i + 1)) = putF (mergeF g (f.take i)) x := by
  unfold mergeF
  rw [List.take_add_one, h, List.foldl_append]
  rfl
theorem mergeF_le (g f : List Pr) : (mergeF g f).length ≤ g.length + f.length := by
  unfold mergeF
  induction f generalizing g with
  | nil => simp
  | cons a f ih =>
    have h1 := ih (putF g a)
    have h2 := putF_length_le g a
    simp only [List.foldl_cons, List.length_cons]
    omega
def tblM : List (FuncId × CStep GD) := [(191, st191)]
theorem tblM_ok : ∀ x ∈ tblM, CStepOk Tryz.prog cfg x.1 x.2 := by simp [tblM, st191_ok]
theorem runs146_1 (f : List Pr) : Runs Tryz.prog cfg 146 [.pointer (some ⟨0, 0, none⟩)] (AH.of [some (.hi (.log [f]))])
    fun r H' => r = .ret (.int .i64 8) ∧ H' = AH.of [some (.hi (.log [f]))] := by
  refine Runs.ends ?_
  refine runs_by (tbl := []) (by simp) 0 2 (af := a146) rfl ?_
  rw [a146, b146, run_eq]
  refine ⟨by simp, ?_⟩
  simp (implicitDefEqProofs := false) [forms190, a190, b190, frag_log]
  refine ends_plan [.pack (GD.log [f]) 0 [1]] [0] ?_ ?_ ?_ <;> simp [frag_log, AObj.mine]
set_option maxHeartbeats 4000000 in
theorem runs146_2 (f g : List Pr) (rs : List (List Pr)) (hl : rs.length ≤ 100) (hfg : f.length + g.length ≤ 1000) : Runs Tryz.prog cfg 146 [.pointer (some ⟨0, 0, none⟩)] (AH.of [some (.hi (.log (f :: g :: rs)))])
    fun r H' => r = .ret (.int .i64 0) ∧ H' = AH.of [some (.hi (.log (mergeF g f :: rs)))] := by
  refine Runs.ends ?_
  have hne : ¬ ((rs.length : Int) + 1 = 0) := by omega
  have hw : IntKind.i64.wrap (rs.length : Int) = rs.length := wrap_i64 (by omega) (by omega)
  obtain ⟨n, hn⟩ : ∃ n, f.length = n := ⟨_, rfl⟩
  cases rs with
  | nil =>
    refine runs_by (tbl := tblM) tblM_ok 1001 2 (af := a146) rfl ?_
    rw [a146, b146, run_eq]
    refine ⟨by simp, ?_⟩
    have hw0 : IntKind.i64.wrap 0 = 0 := by decide
    simp (implicitDefEqProofs := false) [forms190, a190, b190, frag_log, frag_stk2, frag_stk1, hn, hw0]
    refine loop_view (sg_mono gX_ok (tabS_ok tblM_ok) _ _ noY noY_mono) (fun m tm H => ∃ i : Nat, m + i = n ∧ tm 0 = .pointer (some ⟨0, 0, none⟩) ∧ tm 23 = .slice (some ⟨2, 0, none⟩) n 1 ∧ tm 24 = .int .i64 n ∧ tm 25 = .int .i64 i ∧ ∃ q : Nat, tm 5 = .slice (some ⟨q, 0, none⟩) (mergeF g (f.take i)).length 1 ∧
      ((q = 4 ∧ mergeF g (f.take i) = g ∧ H = AH.of [some (.arr 166 [.pointer (some ⟨3, 0, none⟩), .int .i64 0]), none, some (.arr 157 (prs f)), some (.arr 220 [.slice (some ⟨4, 0, none⟩) g.length 1, .pointer none]), some (.arr 157 (prs g))]) ∨
       (q = 5 ∧ H = AH.of [some (.arr 166 [.pointer (some ⟨3, 0, none⟩), .int .i64 0]), none, some (.arr 157 (prs f)), some (.arr 220 [.slice (some ⟨4, 0, none⟩) g.length 1, .pointer none]), some (.arr 157 (prs g)), some (.arr 157 (prs (mergeF g (f.take i))))]))) (m := n) ?_ (by omega) ?_
    · refine round_plan [] [0, 1, 2, 3, 4] [some (.arr 166 [.pointer (some ⟨3, 0, none⟩), .int .i64 0]), none, some (.arr 157 (prs f)), some (.arr 220 [.slice (some ⟨4, 0, none⟩) g.length 1, .pointer none]), some (.arr 157 (prs g))] n (by omega) ?_ ?_ ⟨0, by omega, ?_, ?_, ?_, ?_, 4, ?_, .inl ⟨rfl, rfl, rfl⟩⟩ <;> simp [mergeF]
    rintro m tm H ⟨i, hm, t0, t23, t24, t25, q, t5, hH⟩
    have hml : (mergeF g (f.take i)).length ≤ 1000 := by
      have := mergeF_le g (f.take i)
      rw [List.length_take] at this
      omega
    by_cases hi : i < n
    · obtain ⟨x, hx⟩ : ∃ x, f[i]? = some x := ⟨f[i]'(by omega), List.getElem?_eq_getElem (by omega)⟩
      have hi' : (i : Int) < n := by omega
      have hwr := inc_i64 hi (by omega)
      have rx := many_prs hx
      have lx : i * 2 + 2 ≤ (prs f).length := by rw [prs_length]; omega
      have hsuc := mergeF_succ (g := g) hx
      rcases hH with ⟨rfl, hg, rfl⟩ | ⟨rfl, rfl⟩
      · rw [hg] at t5 hsuc hml
        simp (implicitDefEqProofs := false) [tblM, st191, t0, t5, t23, t24, t25, hi, hi', rx, lx, Pr.cells, hwr, hml]
        refine round_plan [] [0, 1, 2, 3, 4, 6] [some (.arr 166 [.pointer (some ⟨3, 0, none⟩), .int .i64 0]), none, some (.arr 157 (prs f)), some (.arr 220 [.slice (some ⟨4, 0, none⟩) g.length 1, .pointer none]), some (.arr 157 (prs g)), some (.arr 157 (prs (mergeF g (f.take (i + 1)))))] (m - 1) (by omega) ?_ ?_ ⟨i + 1, by omega, ?_, ?_, ?_, ?_, 5, ?_, .inr ⟨rfl, rfl⟩⟩ <;> simp [t0, t23, t24, hsuc]
      · simp (implicitDefEqProofs := false) [tblM, st191, t0, t5, t23, t24, t25, hi, hi', rx, lx, Pr.cells, hwr, hml]
        refine round_plan [] [0, 1, 2, 3, 4, 7] [some (.arr 166 [.pointer (some ⟨3, 0, none⟩), .int .i64 0]), none, some (.arr 157 (prs f)), some (.arr 220 [.slice (some ⟨4, 0, none⟩) g.length 1, .pointer none]), some (.arr 157 (prs g)), some (.arr 157 (prs (mergeF g (f.take (i + 1)))))] (m - 1) (by omega) ?_ ?_ ⟨i + 1, by omega, ?_, ?_, ?_, ?_, 5, ?_, .inr ⟨rfl, rfl⟩⟩ <;> simp [t0, t23, t24, hsuc]
    · have hie : i = n := by omega
      subst hie
      have hf : f.take i = f := List.take_of_length_le (by omega)
      rw [hf] at t5 hH
      rcases hH with ⟨rfl, hg, rfl⟩ | ⟨rfl, rfl⟩
      · rw [hg] at t5
        simp (implicitDefEqProofs := false) [t0, t5, t23, t24, t25, forms131, a131, b131]
        refine ends_plan [.pack (GD.stk [g]) 5 [4], .pack (GD.log [g]) 0 [5]] [0] ?_ ?_ ?_ <;> simp [frag_stk1, frag_log, AObj.mine, hg]
      · simp (implicitDefEqProofs := false) [t0, t5, t23, t24, t25, forms131, a131, b131]
        refine ends_plan [.pack (GD.stk [mergeF g f]) 6 [5], .pack (GD.log [mergeF g f]) 0 [6]] [0] ?_ ?_ ?_ <;> simp [frag_stk1, frag_log, AObj.mine]
  | cons p rs =>
    obtain ⟨dd, hdd⟩ : ∃ dd, (rs.length : Int) + 1 = dd := ⟨_, rfl⟩
    have hw2 : IntKind.i64.wrap ((rs.length : Int) + 1) = (rs.length : Int) + 1 := wrap_i64 (by omega) (by simp at hl; omega)
    have hne2 : ¬ (dd + 1 = 0) := by omega
    rw [hdd] at hw2
    refine runs_by (tbl := tblM) tblM_ok 1001 2 (af := a146) rfl ?_
    rw [a146, b146, run_eq]
    refine ⟨by simp, ?_⟩
    simp (implicitDefEqProofs := false) [forms190, a190, b190, frag_log, frag_stk2, hn, hdd, hw2, hne2]
    refine loop_view (sg_mono gX_ok (tabS_ok tblM_ok) _ _ noY noY_mono) (fun m tm H => ∃ i : Nat, m + i = n ∧ tm 0 = .pointer (some ⟨0, 0, none⟩) ∧ tm 23 = .slice (some ⟨2, 0, none⟩) n 1 ∧ tm 24 = .int .i64 n ∧ tm 25 = .int .i64 i ∧ ∃ q : Nat, tm 5 = .slice (some ⟨q, 0, none⟩) (mergeF g (f.take i)).length 1 ∧
      ((q = 4 ∧ mergeF g (f.take i) = g ∧ H = AH.of [some (.arr 166 [.pointer (some ⟨3, 0, none⟩), .int .i64 dd]), none, some (.arr 157 (prs f)), some (.arr 220 [.slice (some ⟨4, 0, none⟩) g.length 1, .pointer (some ⟨5, 0, none⟩)]), some (.arr 157 (prs g)), some (.hi (.stk (p :: rs)))]) ∨
       (q = 6 ∧ H = AH.of [some (.arr 166 [.pointer (some ⟨3, 0, none⟩), .int .i64 dd]), none, some (.arr 157 (prs f)), some (.arr 220 [.slice (some ⟨4, 0, none⟩) g.length 1, .pointer (some ⟨5, 0, none⟩)]), some (.arr 157 (prs g)), some (.hi (.stk (p :: rs))), some (.arr 157 (prs (mergeF g (f.take i))))]))) (m := n) ?_ (by omega) ?_
    · refine round_plan [] [0, 1, 2, 3, 4, 5] [some (.arr 166 [.pointer (some ⟨3, 0, none⟩), .int .i64 dd]), none, some (.arr 157 (prs f)), some (.arr 220 [.slice (some ⟨4, 0, none⟩) g.length 1, .pointer (some ⟨5, 0, none⟩)]), some (.arr 157 (prs g)), some (.hi (.stk (p :: rs)))] n (by omega) ?_ ?_ ⟨0, by omega, ?_, ?_, ?_, ?_, 4, ?_, .inl ⟨rfl, rfl, rfl⟩⟩ <;> simp [mergeF]
    rintro m tm H ⟨i, hm, t0, t23, t24, t25, q, t5, hH⟩
    have hml : (mergeF g (f.take i)).length ≤ 1000 := by
      have := mergeF_le g (f.take i)
      rw [List.length_take] at this
      omega
    by_cases hi : i < n
    · obtain ⟨x, hx⟩ : ∃ x, f[i]? = some x := ⟨f[i]'(by omega), List.getElem?_eq_getElem (by omega)⟩
      have hi' : (i : Int) < n := by omega
      have hwr := inc_i64 hi (by omega)
      have rx := many_prs hx
      have lx : i * 2 + 2 ≤ (prs f).length := by rw [prs_length]; omega
      have hsuc := mergeF_succ (g := g) hx
      rcases hH with ⟨rfl, hg, rfl⟩ | ⟨rfl, rfl⟩
      · rw [hg] at t5 hsuc hml
        simp (implicitDefEqProofs := false) [tblM, st191, t0, t5, t23, t24, t25, hi, hi', rx, lx, Pr.cells, hwr, hml]
        refine round_plan [] [0, 1, 2, 3, 4, 5, 7] [some (.arr 166 [.pointer (some ⟨3, 0, none⟩), .int .i64 dd]), none, some (.arr 157 (prs f)), some (.arr 220 [.slice (some ⟨4, 0, none⟩) g.length 1, .pointer (some ⟨5, 0, none⟩)]), some (.arr 157 (prs g)), some (.hi (.stk (p :: rs))), some (.arr 157 (prs (mergeF g (f.take (i + 1)))))] (m - 1) (by omega) ?_ ?_ ⟨i + 1, by omega, ?_, ?_, ?_, ?_, 6, ?_, .inr ⟨rfl, rfl⟩⟩ <;> simp [t0, t23, t24, hsuc]
      · simp (implicitDefEqProofs := false) [tblM, st191, t0, t5, t23, t24, t25, hi, hi', rx, lx, Pr.cells, hwr, hml]
        refine round_plan [] [0, 1, 2, 3, 4, 5, 8] [some (.arr 166 [.pointer (some ⟨3, 0, none⟩), .int .i64 dd]), none, some (.arr 157 (prs f)), some (.arr 220 [.slice (some ⟨4, 0, none⟩) g.length 1, .pointer (some ⟨5, 0, none⟩)]), some (.arr 157 (prs g)), some (.hi (.stk (p :: rs))), some (.arr 157 (prs (mergeF g (f.take (i + 1)))))] (m - 1) (by omega) ?_ ?_ ⟨i + 1, by omega, ?_, ?_, ?_, ?_, 6, ?_, .inr ⟨rfl, rfl⟩⟩ <;> simp [t0, t23, t24, hsuc]
    · have hie : i = n := by omega
      subst hie
      have hf : f.take i = f := List.take_of_length_le (by omega)
      rw [hf] at t5 hH
      rcases hH with ⟨rfl, hg, rfl⟩ | ⟨rfl, rfl⟩
      · rw [hg] at t5
        simp (implicitDefEqProofs := false) [t0, t5, t23, t24, t25, forms131, a131, b131]
        refine ends_plan [.pack (GD.stk (g :: p :: rs)) 6 [4, 5], .pack (GD.log (g :: p :: rs)) 0 [6]] [0] ?_ ?_ ?_ <;> simp [frag_stk2, frag_log, AObj.mine, hg, hdd]
      · simp (implicitDefEqProofs := false) [t0, t5, t23, t24, t25, forms131, a131, b131]
        refine ends_plan [.pack (GD.stk (mergeF g f :: p :: rs)) 7 [6, 5], .pack (GD.log (mergeF g f :: p :: rs)) 0 [7]] [0] ?_ ?_ ?_ <;> simp [frag_stk2, frag_log, AObj.mine, hdd]
/-- Merge: the error, and the frames behind it. -/
def d146 : DStep
  | .log [f], [] => some (True, .int .i64 8, .log [f])
  | .log (f :: g :: rs), [] => some (GoodLog (f :: g :: rs), .int .i64 0, .log (mergeF g f :: rs))
  | _, _ => none
theorem st146_ok : CStepOk Tryz.prog cfg 146 (dataSt d146) := data_ok fun d rest p v d' h hp => by
  unfold d146 at h
  split at h
  · cases h; exact ⟨rfl, rfl, runs146_1 _⟩
  · cases h
    refine ⟨rfl, rfl, runs146_2 _ _ _ ?_ ?_⟩
    · have := hp.2.1; simp at this; omega
    · have := hp.2.2; rw [lenLog_cons, lenLog_cons] at this
      have := lenLog_nonneg ‹List (List Pr)›
      omega
  · cases h

/-! All -/
def allN (fs : List (List Pr)) (n : Nat) : List Pr := (List.range n).filterMap fun t : Nat => (getLog fs t).map fun v => (⟨t, v⟩ : Pr)
def allL (fs : List (List Pr)) : List Pr := allN fs 12
theorem allN_succ (fs : List (List Pr)) (n : Nat) : allN fs (n + 1) = allN fs n ++ (match getLog fs n with | some v => [⟨n, v⟩] | none => []) := by
  unfold allN
  rw [List.range_succ, List.filterMap_append]
  cases h : getLog fs n <;> simp [h]
theorem allN_le (fs : List (List Pr)) (n : Nat) : (allN fs n).length ≤ n := by
  unfold allN
  have := List.length_filterMap_le (fun t : Nat => (getLog fs t).map fun v => (⟨t, v⟩ : Pr)) (List.range n)
  simpa using this
def tblA : List (FuncId × CStep GD) := [(88, dataSt d88)]
theorem tblA_ok : ∀ x ∈ tblA, CStepOk Tryz.prog cfg x.1 x.2 := by simp [tblA, st88_ok]
set_option maxHeartbeats 4000000 in
theorem runs93 (fs : List (List Pr)) (hg : GoodLog fs) : Runs Tryz.prog cfg 93 [.pointer (some ⟨0, 0, none⟩)] (AH.of [some (.hi (.log fs))])
    fun r H' => r = .ret (.slice (some ⟨1, 0, none⟩) (allL fs).length 1) ∧ H' = AH.of [some (.hi (.log fs)), some (.arr 157 (prs (allL fs)))] := by
  refine Runs.ends ?_
  refine runs_by (tbl := tblA) tblA_ok 13 0 (af := a93) rfl ?_
  rw [a93, b93, run_eq]
  refine ⟨by simp, ?_⟩
  simp (implicitDefEqProofs := false)
  refine loop_view (sg_mono gX_ok (tabS_ok tblA_ok) _ _ noY noY_mono) (fun m tm H => ∃ i : Nat, m + i = 12 ∧ tm 0 = .pointer (some ⟨0, 0, none⟩) ∧ tm 3 = .slice (some ⟨1, 0, none⟩) (allN fs i).length 1 ∧ tm 7 = .int .i64 i ∧ H = AH.of [some (.hi (.log fs)), some (.arr 157 (prs (allN fs i)))]) (m := 12) ?_ (by omega) ?_
  · refine round_wk [.nil 157] [0, 1] [some (.hi (.log fs)), some (.arr 157 (prs []))] [(3, .slice (some ⟨1, 0, none⟩) 0 1)] 12 (by omega) ?_ ?_ ?_ ⟨0, by omega, ?_, ?_, ?_, rfl⟩ <;> simp [allN, prs]
    done
  rintro m tm H ⟨i, hm, t0, t3, t7, rfl⟩
  have hle := allN_le fs i
  by_cases hi : i < 12
  · have hi' : (i : Int) < 12 := by omega
    have hwr := inc_i64 hi (by omega)
    have hsuc := allN_succ fs i
    have hr3 : ((allN fs i).length + 1) * 16 ≤ 140737488355328 ∧ (allN fs i).length ≤ 9223372036854775806 := by omega
    have htk := take_prs (allN fs i)
    have hll : (allN fs i).length * 2 ≤ (prs (allN fs i)).length := by rw [prs_length]; omega
    cases hv : getLog fs i with
    | none =>
      simp only [hv, List.append_nil] at hsuc
      simp (implicitDefEqProofs := false) [tblA, dataSt, d88, hg, t0, t3, t7, hi, hi', hwr, hv, optR]
      refine round_plan [] [0, 1] [some (.hi (.log fs)), some (.arr 157 (prs (allN fs (i + 1))))] (m - 1) (by omega) ?_ ?_ ⟨i + 1, by omega, ?_, ?_, ?_, rfl⟩ <;> simp [t0, t3, hsuc]
    | some v =>
      simp only [hv] at hsuc
      simp (implicitDefEqProofs := false) [tblA, dataSt, d88, hg, t0, t3, t7, hi, hi', hwr, hv, optR, hr3, htk, hll]
      refine round_plan [] [0, 3] [some (.hi (.log fs)), some (.arr 157 (prs (allN fs (i + 1))))] (m - 1) (by omega) ?_ ?_ ⟨i + 1, by omega, ?_, ?_, ?_, rfl⟩ <;> simp [t0, hsuc, prs_append, prs_single]
  · have hie : i = 12 := by omega
    subst hie
    simp (implicitDefEqProofs := false) [t0, t3, t7]
    refine ends_plan [] [0, 1] ?_ ?_ ?_ <;> simp [allL]
def st93 : CStep GD := fun args H => match args with
  | [.pointer (some ⟨k, 0, none⟩)] => match H.get k with
    | some (.hi (.log fs)) => some (GoodLog fs, .ret (.slice (some ⟨H.next, 0, none⟩) (allL fs).length 1), H.add (.arr 157 (prs (allL fs))))
    | _ => none
  | _ => none
theorem st93_ok : CStepOk Tryz.prog cfg 93 st93 := by
  intro args H p r H' h hp
  unfold st93 at h
  split at h
  case h_2 => cases h
  split at h
  case h_2 => cases h
  rename_i k x fs hk
  cases h
  exact (runs93 fs hp).atK (ro_none rfl) [k] (by simp) (by simp) (by simp [hk]) (by simp) (by simp) (by simp [upd_get hk])
end YtnemoimbeefngaaGreat
end Go.Proofs
/-
  VALUES: which are the same.
-/
set_option linter.unusedSimpArgs false
set_option linter.unusedVariables false
set_option linter.unnecessarySimpa false
set_option linter.unusedSectionVars false
namespace Go.Proofs
namespace YtnemoimbeefngaaGreat
open Go.Abs
set_option linter.unusedSimpArgs false

def canonV (v : Int) : Int := if rightB v then v else 9221120237041090560
theorem runs184 (v : Int) (H : AH GD) : Runs Tryz.prog cfg 184 [.int .u64 v] H fun r H' => r = .ret (.int .u64 (canonV v)) ∧ H' = H := by
  refine runs_by (tbl := [(96, st96)]) (by simp [st96_ok]) 0 0 (af := a184) rfl ?_
  rw [a184, b184, run_eq]
  refine ⟨by simp, ?_⟩
  simp (implicitDefEqProofs := false) [st96]
  repeat' (first | with_reducible apply And.intro | with_reducible intro _)
  all_goals simp [canonV, *]
def st184 : CStep GD := fun args H => match args with
  | [x] => (asU x).map fun v => (True, .ret (.int .u64 (canonV v)), H)
  | _ => none
theorem st184_ok : CStepOk Tryz.prog cfg 184 st184 := by
  intro args H p r H' h hp
  unfold st184 at h
  split at h
  case h_2 => cases h
  simp only [Option.map_eq_some_iff] at h
  obtain ⟨v, hv, h⟩ := h
  cases h
  rw [asU_inv hv]
  exact runs184 v H
def sameB (a b : Int) : Bool := decide (canonV a = canonV b)
theorem runs133 (a b : Int) (H : AH GD) : Runs Tryz.prog cfg 133 [.int .u64 a, .int .u64 b] H fun r H' => r = .ret (.bool (sameB a b)) ∧ H' = H := by
  refine runs_by (tbl := [(184, st184)]) (by simp [st184_ok]) 0 0 (af := a133) rfl ?_
  rw [a133, b133, run_eq]
  refine ⟨by simp, ?_⟩
  simp (implicitDefEqProofs := false) [st184]
  simp [sameB]
def st133 : CStep GD := fun args H => match args with
  | [x, y] => (asU x).bind fun a => (asU y).map fun b => (True, .ret (.bool (sameB a b)), H)
  | _ => none
theorem st133_ok : CStepOk Tryz.prog cfg 133 st133 := by
  intro args H p r H' h hp
  unfold st133 at h
  split at h
  case h_2 => cases h
  simp only [Option.map_eq_some_iff, Option.bind_eq_some_iff] at h
  obtain ⟨a, ha, b, hb, h⟩ := h
  cases h
  rw [asU_inv ha, asU_inv hb]
  exact runs133 a b H
end YtnemoimbeefngaaGreat
end Go.Proofs
/-
  What was read, as data.
-/
set_option linter.unusedSimpArgs false
set_option linter.unusedVariables false
set_option linter.unnecessarySimpa false
set_option linter.unusedSectionVars false
namespace Go.Proofs
namespace YtnemoimbeefngaaGreat
open Go.Abs

/-! ### What the functions answer -/
def getE (l : List Ent) (t : Int) : Option Ent := l.find? fun e => e.t == t
def addCode (l : List Ent) (e : Ent) : Int :=
  if e.t < 0 ∨ 12 ≤ e.t ∨ 1099511627776 < e.n then 2
  else if !rightB e.v then 3
  else if (getE l e.t).isSome then 0
  else if (8 : Int) ≤ l.length then 4
  else 0
def addL (l : List Ent) (e : Ent) : List Ent :=
  if addCode l e = 0 ∧ (getE l e.t).isNone then l ++ [e] else l

/-! ### Plain facts of the rows -/
theorem tvars_length (l : List Ent) : (tvars l).length = l.length := by simp [tvars]
theorem tvars_ground (l : List Ent) : grounds (tvars l) = true := by
  induction l with
  | nil => rfl
  | cons e l ih => simp [tvars, grounds, ground] at ih ⊢; exact ih
theorem rows_cons (e : Ent) (l : List Ent) : rows (e :: l) = .int .i64 e.t :: .int .u64 e.v :: .int .u64 e.n :: rows l := rfl
theorem rows_length (l : List Ent) : (rows l).length = l.length * 3 := by
  induction l with
  | nil => rfl
  | cons e l ih => rw [rows_cons, List.length_cons, List.length_cons, List.length_cons, ih, List.length_cons]; omega
theorem rows_ground (l : List Ent) : grounds (rows l) = true := by
  induction l with
  | nil => rfl
  | cons e l ih => rw [rows_cons]; simp [grounds, ground, ih]
theorem ren_tvars (θ : Nat → Nat) (l : List Ent) : rens θ (tvars l) = tvars l := rens_ground θ _ (tvars_ground l)
theorem ren_rows (θ : Nat → Nat) (l : List Ent) : rens θ (rows l) = rows l := rens_ground θ _ (rows_ground l)
theorem ren_epairs (θ : Nat → Nat) (l : List Ent) : renP θ (epairs l) = epairs l := by
  simp only [renP, epairs, List.map_map]
  refine List.map_congr_left fun e _ => ?_
  simp only [Function.comp]
  rw [ren_ground θ (.int .i64 e.t) rfl, ren_ground θ e.val rfl]
theorem tvars_add (l : List Ent) (e : Ent) : tvars (l ++ [e]) = tvars l ++ [.int .i64 e.t] := by simp [tvars]
theorem rows_add (l : List Ent) (e : Ent) : rows (l ++ [e]) = rows l ++ [.int .i64 e.t, .int .u64 e.v, .int .u64 e.n] := by simp [rows, Ent.cells]
theorem take_tvars (l : List Ent) : (tvars l).take l.length = tvars l := List.take_of_length_le (by simp [tvars_length])
theorem take_rows (l : List Ent) : (rows l).take (l.length * 3) = rows l := List.take_of_length_le (by simp [rows_length])
theorem many_rows {i : Nat} {x : Ent} : ∀ {l : List Ent}, l[i]? = some x → ((rows l).drop (i * 3)).take 3 = x.cells := by
  induction i with
  | zero =>
    intro l h
    cases l with
    | nil => simp at h
    | cons e l => simp at h; subst h; rfl
  | succ i ih =>
    intro l h
    cases l with
    | nil => simp at h
    | cons e l =>
      rw [rows_cons, show (i + 1) * 3 = i * 3 + 1 + 1 + 1 by omega]
      simpa using ih (l := l) (by simpa using h)

/-- Unlike variables. -/
def Uniq (l : List Ent) : Prop := (l.map (·.t)).Nodup
theorem Uniq.get {l : List Ent} (h : Uniq l) : ∀ (i : Nat) (x : Ent), l[i]? = some x → getE l x.t = some x := by
  induction l with
  | nil => intro i x hx; simp at hx
  | cons a l ih =>
    intro i x hx
    simp only [Uniq, List.map_cons, List.nodup_cons] at h
    cases i with
    | zero => simp at hx; subst hx; simp [getE]
    | succ i =>
      have hx' : l[i]? = some x := by simpa using hx
      have hne : (a.t == x.t) = false := by
        simp only [beq_eq_false_iff_ne, ne_eq]
        intro e
        exact h.1 (List.mem_map.2 ⟨x, List.mem_of_getElem? hx', e.symm⟩)
      simp only [getE, List.find?_cons, hne]
      exact ih h.2 i x hx'
theorem epairs_length (l : List Ent) : (epairs l).length = l.length := by simp [epairs]
theorem epairs_add (l : List Ent) (e : Ent) : epairs (l ++ [e]) = epairs l ++ [(.int .i64 e.t, e.val)] := by simp [epairs]
theorem getE_none' {l : List Ent} {t : Int} (h : ∀ x ∈ l, x.t ≠ t) : getE l t = none := by
  simp only [getE, List.find?_eq_none]
  intro x hx
  simpa using h x hx
theorem find_alike {l : List Ent} {es : List MapEntry} {c : Nat} (h : AlikeM (epairs l) es c) (hu : Uniq l) (t : Int) : findIn false (.int .i64 t) es = some ((getE l t).map Ent.val) := by
  have key : ∀ es' : List MapEntry, (∀ e ∈ es', ∃ x ∈ l, e.key = .int .i64 x.t ∧ e.val = x.val) →
      (findIn false (.int .i64 t) es' = some none ∧ ∀ e ∈ es', e.key ≠ .int .i64 t) ∨ ∃ x ∈ l, x.t = t ∧ findIn false (.int .i64 t) es' = some (some x.val) := by
    intro es'
    induction es' with
    | nil => intro _; exact .inl ⟨rfl, fun e he => by simp at he⟩
    | cons e es' ih =>
      intro hm
      obtain ⟨x, hx, hk, hv⟩ := hm e (by simp)
      rw [findIn, hk, sameK]
      simp only [Bool.false_eq_true, if_false, if_true]
      by_cases ht : t = x.t
      · right
        refine ⟨x, hx, ht.symm, ?_⟩
        simp [ht, hv]
      · have h1 : (t == x.t) = false := by simpa using ht
        rw [h1]
        rcases ih (fun e he => hm e (by simp [he])) with ⟨h2, h3⟩ | h2
        · refine .inl ⟨h2, fun e' he' => ?_⟩
          rcases List.mem_cons.1 he' with rfl | he'
          · rw [hk]; intro h4; injection h4 with _ h5; exact ht h5.symm
          · exact h3 e' he'
        · exact .inr h2
  have hmem : ∀ e ∈ es, ∃ x ∈ l, e.key = .int .i64 x.t ∧ e.val = x.val := by
    intro e he
    have : (e.key, e.val) ∈ epairs l := h.1.mem_iff.1 (List.mem_map.2 ⟨e, he, rfl⟩)
    obtain ⟨x, hx, hp⟩ := List.mem_map.1 this
    simp only [Prod.mk.injEq] at hp
    exact ⟨x, hx, hp.1.symm, hp.2.symm⟩
  rcases key es hmem with ⟨h1, h2⟩ | ⟨x, hx, ht, h1⟩
  · rw [h1, getE_none' fun x hx ht => ?_]; rfl
    have : ((Value.int .i64 x.t, x.val) : Value × Value) ∈ pairs es := h.1.mem_iff.2 (List.mem_map.2 ⟨x, hx, rfl⟩)
    obtain ⟨e, he, hp⟩ := List.mem_map.1 this
    simp only [Prod.mk.injEq] at hp
    exact h2 e he (by rw [hp.1, ht])
  · obtain ⟨i, hi⟩ := List.mem_iff_getElem?.1 hx
    have := hu.get i x hi
    rw [ht] at this
    rw [h1, this]; rfl
theorem put_alike {l : List Ent} {es : List MapEntry} {c : Nat} (h : AlikeM (epairs l) es c) (hu : Uniq l) (x : Ent) (hn : getE l x.t = none) : putIn false (.int .i64 x.t) x.val c es = some (es ++ [⟨.int .i64 x.t, x.val, c⟩], c + 1) :=
  put_new (by rw [find_alike h hu, hn]; rfl)
theorem add_alike {l : List Ent} {es : List MapEntry} {c : Nat} (h : AlikeM (epairs l) es c) (x : Ent) : AlikeM (epairs (l ++ [x])) (es ++ [⟨.int .i64 x.t, x.val, c⟩]) (c + 1) := by
  rw [epairs_add]; exact h.add _ _

structure Good (l : List Ent) : Prop where
  len : l.length ≤ 8
  uniq : Uniq l
  range : ∀ e ∈ l, 0 ≤ e.t ∧ e.t < 12
def goodL (l : List Ent) : Prop := l.length ≤ 8 ∧ Uniq l ∧ ∀ e ∈ l, 0 ≤ e.t
theorem Good.goodL {l : List Ent} (h : Good l) : goodL l := ⟨h.len, h.uniq, fun e he => (h.range e he).1⟩
theorem good_nil : Good [] := ⟨by simp, by simp [Uniq], fun e he => by simp at he⟩

theorem getE_add_self {l : List Ent} {e : Ent} (h : getE l e.t = none) : getE (l ++ [e]) e.t = some e := by
  simp only [getE] at h ⊢
  rw [List.find?_append, h]
  simp
theorem getE_add_old {l : List Ent} {e x : Ent} {t : Int} (h : getE l t = some x) : getE (l ++ [e]) t = some x := by
  simp only [getE] at h ⊢
  rw [List.find?_append, h]
  rfl
theorem add_range {l : List Ent} {e : Ent} (h : addCode l e = 0) : 0 ≤ e.t ∧ e.t < 12 := by
  unfold addCode at h
  split at h
  · cases h
  · omega
theorem add_len {l : List Ent} {e : Ent} (h : addCode l e = 0) (hg : getE l e.t = none) : l.length < 8 := by
  unfold addCode at h
  split at h
  · cases h
  · split at h
    · cases h
    · rw [hg] at h
      simp at h
      omega
theorem addL_none {l : List Ent} {e : Ent} (h : addCode l e = 0) (hg : getE l e.t = none) : addL l e = l ++ [e] := by simp [addL, h, hg]
theorem addL_some {l : List Ent} {e x : Ent} (hg : getE l e.t = some x) : addL l e = l := by simp [addL, hg]
theorem addL_bad {l : List Ent} {e : Ent} (h : addCode l e ≠ 0) : addL l e = l := by simp [addL, h]
theorem add_space {l : List Ent} {e : Ent} (h : addCode l e = 4) : 8 ≤ l.length := by
  unfold addCode at h
  split at h
  · cases h
  · split at h
    · cases h
    · split at h
      · cases h
      · split at h
        · omega
        · cases h
theorem Good.add {l : List Ent} (h : Good l) (e : Ent) : Good (addL l e) := by
  by_cases hc : addCode l e = 0
  · cases hg : getE l e.t with
    | some x => rw [addL_some hg]; exact h
    | none =>
      rw [addL_none hc hg]
      have := add_len hc hg
      refine ⟨by simp; omega, ?_, fun y hy => ?_⟩
      · show ((l ++ [e]).map (·.t)).Nodup
        rw [List.map_append]
        refine List.nodup_append.2 ⟨h.uniq, by simp, ?_⟩
        rintro a ha b hb rfl
        simp only [List.map_cons, List.map_nil, List.mem_singleton] at hb
        subst hb
        obtain ⟨x, hx, hxe⟩ := List.mem_map.1 ha
        simp only [getE, List.find?_eq_none] at hg
        exact absurd hxe (by simpa using hg x hx)
      · rcases List.mem_append.1 hy with hy | hy
        · exact h.range y hy
        · have : y = e := by simpa using hy
          subst this; exact add_range hc
  · rw [addL_bad hc]; exact h
/-! ### What is known, read off arguments and heaps -/
def asEnt : Value → Option Ent
  | .agg ⟨[.int .i64 t, .int .u64 v, .int .u64 n]⟩ => some ⟨t, v, n⟩
  | _ => none
theorem asEnt_eq (t v n : Int) : asEnt (.agg #[.int .i64 t, .int .u64 v, .int .u64 n]) = some ⟨t, v, n⟩ := rfl
theorem asEnt_val (e : Ent) : asEnt e.val = some e := rfl
theorem asEnt_inv {v : Value} {e : Ent} (h : asEnt v = some e) : v = e.val := by
  unfold asEnt at h
  split at h
  · cases h; rfl
  · cases h
def getSet (H : AH GD) (k : Nat) : Option (Nat × List Ent) :=
  match H.get k with
  | some (.hi (.set c l)) => some (c, l)
  | _ => none
def getRset (H : AH GD) (k : Nat) : Option (List Ent) :=
  match H.get k with
  | some (.hi (.rset l)) => some l
  | _ => none
theorem getSet_inv {H : AH GD} {k : Nat} {x : Nat × List Ent} (h : getSet H k = some x) : H.get k = some (.hi (.set x.1 x.2)) := by
  unfold getSet at h
  split at h
  · rename_i h2; cases h; exact h2
  · cases h
theorem getRset_inv {H : AH GD} {k : Nat} {l : List Ent} (h : getRset H k = some l) : H.get k = some (.hi (.rset l)) := by
  unfold getRset at h
  split at h
  · rename_i h2; cases h; exact h2
  · cases h
attribute [simp] asEnt_eq asEnt_val getSet getRset ren_tvars ren_rows ren_epairs
end YtnemoimbeefngaaGreat
end Go.Proofs
/-
  Set.Add: what it comes to.
-/
set_option linter.unusedSimpArgs false
set_option linter.unusedVariables false
set_option linter.unnecessarySimpa false
set_option linter.unusedSectionVars false
namespace Go.Proofs
namespace YtnemoimbeefngaaGreat
open Go.Abs
set_option linter.unusedSimpArgs false

theorem lookV_ent (o : Option Ent) (z : Value) (hz : z = .agg #[.int .i64 0, .int .u64 0, .int .u64 0]) : lookV z true (o.map Ent.val) = .tuple #[.agg #[.int .i64 (o.getD ⟨0, 0, 0⟩).t, .int .u64 (o.getD ⟨0, 0, 0⟩).v, .int .u64 (o.getD ⟨0, 0, 0⟩).n], .bool o.isSome] := by
  subst hz
  cases o <;> rfl

theorem add_room {n : Nat} (h : ¬ (8 : Int) ≤ (n : Int)) : (n + 1) * 8 ≤ 140737488355328 ∧ n + 1 ≤ 9223372036854775807 := by omega

theorem ren_alike {l : List Ent} {es : List MapEntry} {c : Nat} (h : AlikeM (epairs l) es c) (θ : Nat → Nat) : es.map (fun e => (⟨ren θ e.key, ren θ e.val, e.born⟩ : MapEntry)) = es :=
  ren_entries θ fun e he => by
    have : (e.key, e.val) ∈ epairs l := h.1.mem_iff.1 (List.mem_map.2 ⟨e, he, rfl⟩)
    obtain ⟨x, _, hp⟩ := List.mem_map.1 this
    simp only [Prod.mk.injEq] at hp
    rw [← hp.1, ← hp.2]
    exact ⟨rfl, rfl⟩
/-- A set is opened: its entries in some order. -/
theorem Runs.openSet {f : FuncId} {args : List Value} {K : AEnd → AH GD → Prop} {c : Nat} {l : List Ent}
    (h : ∀ es cc, AlikeM (epairs l) es cc → es.length = l.length → (∀ θ, es.map (fun e => (⟨ren θ e.key, ren θ e.val, e.born⟩ : MapEntry)) = es) → Runs Tryz.prog cfg f args (AH.of [some (.arr 163 [.slice (some ⟨1, 0, none⟩) l.length 1, .map (some 2)]), some (.arr 3 (tvars l)), some (.map es cc)]) K) :
    Runs Tryz.prog cfg f args (AH.of [some (.hi (.set c l))]) K := by
  have e : openK frag (AH.of [some (.hi (.set c l))]) 0 = some (AH.of [some (.arr 163 [.slice (some ⟨1, 0, none⟩) l.length 1, .map (some 2)]), some (.arr 3 (tvars l)), some (.mapq (epairs l))]) := by
    simp [frag_set]
  refine Runs.opn 0 e (Runs.expose 2 (ps := epairs l) rfl fun es cc hes => ?_)
  have := h es cc hes (by rw [hes.len, epairs_length]) (ren_alike hes)
  rw [of_upd _ _ _ (by simp)]
  exact this

set_option maxHeartbeats 1000000 in
theorem runs143 (t v n : Int) (c : Nat) (l : List Ent) (hu : Uniq l) : Runs Tryz.prog cfg 143 [.pointer (some ⟨0, 0, none⟩), .agg #[.int .i64 t, .int .u64 v, .int .u64 n]] (AH.of [some (.hi (.set c l))])
    fun r H' => r = .ret (.int .i64 (addCode l ⟨t, v, n⟩)) ∧ H' = AH.of [some (.hi (.set c (addL l ⟨t, v, n⟩)))] := by
  refine Runs.ends ?_
  refine Runs.openSet fun es cc hes hlen hren => ?_
  refine runs_by (tbl := []) (by simp) 0 2 (af := a143) rfl ?_
  rw [a143, b143, run_eq]
  refine ⟨by simp, ?_⟩
  have hf := find_alike hes hu
  have hg : getE l t = none → putIn false (.int .i64 t) (.agg #[.int .i64 t, .int .u64 v, .int .u64 n]) cc es = some (es ++ [⟨.int .i64 t, .agg #[.int .i64 t, .int .u64 v, .int .u64 n], cc⟩], cc + 1) := put_alike hes hu ⟨t, v, n⟩
  have hadd : AlikeM (epairs (l ++ [⟨t, v, n⟩])) (es ++ [⟨.int .i64 t, .agg #[.int .i64 t, .int .u64 v, .int .u64 n], cc⟩]) (cc + 1) := add_alike hes ⟨t, v, n⟩
  cases h5 : getE l t with
  | some e =>
    simp (implicitDefEqProofs := false) [forms96, a96, b96, hf, h5, Ent.val, Ent.cells]
    repeat' (first | with_reducible apply And.intro | with_reducible intro _)
    all_goals (refine ends_plan [.pack (GD.set c l) 0 [1, 2]] [0] ?_ ?_ ?_ <;> simp [frag_set, AObj.mine, addL, addCode, rightB, hes, *] <;> omega)
  | none =>
    simp (implicitDefEqProofs := false) [forms96, a96, b96, hf, h5, hg h5, tvars_length, take_tvars]
    repeat' (first | with_reducible apply And.intro | with_reducible intro _)
    all_goals first
      | omega
      | (refine ends_plan [.pack (GD.set c l) 0 [1, 2]] [0] ?_ ?_ ?_ <;> simp [frag_set, AObj.mine, addL, addCode, rightB, hes, *] <;> omega)
      | (subst_vars; refine ends_plan [.pack (GD.set c (l ++ [⟨t, 9221120237041090560, n⟩])) 0 [6, 2]] [0] ?_ ?_ ?_ <;> simp [frag_set, AObj.mine, addL, addCode, rightB, tvars_add, hadd, *] <;> omega)
      | (refine ends_plan [.pack (GD.set c (l ++ [⟨t, v, n⟩])) 0 [6, 2]] [0] ?_ ?_ ?_ <;> simp [frag_set, AObj.mine, addL, addCode, rightB, tvars_add, hadd, *] <;> omega)
end YtnemoimbeefngaaGreat
end Go.Proofs
/-
  Values; New, Get, Len: what they come to, as steps.
-/
set_option linter.unusedSimpArgs false
set_option linter.unusedVariables false
set_option linter.unnecessarySimpa false
set_option linter.unusedSectionVars false
namespace Go.Proofs
namespace YtnemoimbeefngaaGreat
open Go.Abs
set_option linter.unusedSimpArgs false


/-! ### Right, Canon, Same -/
/-! ### New -/
theorem runs81 : Runs Tryz.prog cfg 81 [] (AH.of []) fun r H' => r = .ret (.pointer (some ⟨0, 0, none⟩)) ∧ H' = AH.of [some (.hi (.set 0 []))] := by
  refine Runs.ends ?_
  refine runs_by (tbl := []) (by simp) 0 0 (af := a81) rfl ?_
  rw [a81, b81, run_eq]
  refine ⟨by simp, ?_⟩
  simp (implicitDefEqProofs := false)
  refine ends_plan [.nil 3, .pack (GD.set 0 []) 1 [2, 0]] [1] ?_ ?_ ?_ <;> simp [frag_set, AObj.mine, tvars, epairs, renP, AlikeM.nil]
theorem runs118 : Runs Tryz.prog cfg 118 [] (AH.of []) fun r H' => r = .ret (.pointer (some ⟨0, 0, none⟩)) ∧ H' = AH.of [some (.hi (.rset []))] := by
  refine Runs.ends ?_
  refine runs_by (tbl := []) (by simp) 0 0 (af := a118) rfl ?_
  rw [a118, b118, run_eq]
  refine ⟨by simp, ?_⟩
  simp (implicitDefEqProofs := false)
  refine ends_plan [.nil 155, .pack (GD.rset []) 0 [1]] [0] ?_ ?_ ?_ <;> simp [frag_rset, AObj.mine, rows]
def st81 : CStep GD := fun args H => match args with
  | [] => some (True, .ret (.pointer (some ⟨H.next, 0, none⟩)), H.add (.hi (.set 0 [])))
  | _ => none
def st118 : CStep GD := fun args H => match args with
  | [] => some (True, .ret (.pointer (some ⟨H.next, 0, none⟩)), H.add (.hi (.rset [])))
  | _ => none
theorem st81_ok : CStepOk Tryz.prog cfg 81 st81 := by
  intro args H p r H' h hp
  unfold st81 at h
  split at h
  case h_2 => cases h
  cases h
  exact runs81.atK (ro_none rfl) [] (by simp) (by simp) trivial (by simp) (by simp) (by simp)
theorem st118_ok : CStepOk Tryz.prog cfg 118 st118 := by
  intro args H p r H' h hp
  unfold st118 at h
  split at h
  case h_2 => cases h
  cases h
  exact runs118.atK (ro_none rfl) [] (by simp) (by simp) trivial (by simp) (by simp) (by simp)

/-! ### Add, Get, Len -/
def st143 : CStep GD := fun args H => match args with
  | [x, y] => (ptr0 x).bind fun k => (asEnt y).bind fun e => (getSet H k).map fun s => (Uniq s.2, .ret (.int .i64 (addCode s.2 e)), H.upd k (.hi (.set s.1 (addL s.2 e))))
  | _ => none
theorem st143_ok : CStepOk Tryz.prog cfg 143 st143 := by
  intro args H p r H' h hp
  unfold st143 at h
  split at h
  case h_2 => cases h
  simp only [Option.map_eq_some_iff, Option.bind_eq_some_iff] at h
  obtain ⟨k, hk, e, he, s, hs, h⟩ := h
  cases h
  rw [ptr0_inv hk, asEnt_inv he]
  exact (runs143 e.t e.v e.n s.1 s.2 hp).atK (ro_none rfl) [k] (by simp) (by simp) (by simp [getSet_inv hs]) (by simp [Ent.val, Ent.cells]) (by simp) (by simp)

def zeroE : Ent := ⟨0, 0, 0⟩
def getT (l : List Ent) (t : Int) : Value := .tuple #[((getE l t).getD zeroE).val, .bool (getE l t).isSome]
end YtnemoimbeefngaaGreat
end Go.Proofs
/-
  The reference: Get, Add.
-/
set_option linter.unusedSimpArgs false
set_option linter.unusedVariables false
set_option linter.unnecessarySimpa false
set_option linter.unusedSectionVars false
namespace Go.Proofs
namespace YtnemoimbeefngaaGreat
open Go.Abs
set_option linter.unusedSimpArgs false

theorem getE_at {l : List Ent} {i : Nat} {e : Ent} {t : Int} (hi : l[i]? = some e) (hno : ∀ (j : Nat) (x : Ent), j < i → l[j]? = some x → x.t ≠ t) (he : e.t = t) : getE l t = some e := by
  induction l generalizing i with
  | nil => simp at hi
  | cons a l ih =>
    cases i with
    | zero => simp at hi; subst hi; simp [getE, he]
    | succ i =>
      have h0 := hno 0 a (by omega) rfl
      have : (a.t == t) = false := by simpa using h0
      simp only [getE, List.find?_cons, this]
      exact ih (i := i) (by simpa using hi) fun j x hj hx => hno (j + 1) x (by omega) (by simpa using hx)
theorem getE_none {l : List Ent} {t : Int} (hno : ∀ (j : Nat) (x : Ent), l[j]? = some x → x.t ≠ t) : getE l t = none := by
  simp only [getE, List.find?_eq_none]
  intro x hx
  obtain ⟨j, hj⟩ := List.mem_iff_getElem?.1 hx
  simpa using hno j x hj

theorem rows_at {l : List Ent} {i : Nat} {x : Ent} (h : l[i]? = some x) : (rows l)[i * 3]? = some (.int .i64 x.t) := by
  have := many_rows h
  have h2 : (((rows l).drop (i * 3)).take 3)[0]? = some (.int .i64 x.t) := by rw [this]; rfl
  simpa using h2

set_option maxRecDepth 20000 in
set_option maxHeartbeats 1000000 in
theorem runs204 (t : Int) (l : List Ent) (hl : l.length < 9223372036854775807) : Runs Tryz.prog cfg 204 [.pointer (some ⟨0, 0, none⟩), .int .i64 t] (AH.of [some (.hi (.rset l))])
    fun r H' => r = .ret (getT l t) ∧ H' = AH.of [some (.hi (.rset l))] := by
  refine Runs.ends ?_
  refine Runs.opn 0 rfl ?_
  refine runs_by (tbl := []) (by simp) (l.length + 1) 0 (af := a204) rfl ?_
  rw [a204, b204, run_eq]
  refine ⟨by simp, ?_⟩
  simp (implicitDefEqProofs := false) [frag_rset]
  refine loop_inv (sg_mono gX_ok (tabS_ok (by simp)) _ _ noY noY_mono) (fun m tm H => ∃ i : Nat, m + i = l.length ∧ (∀ j x, j < i → l[j]? = some x → x.t ≠ t) ∧ tm 0 = .pointer (some ⟨0, 0, none⟩) ∧ tm 1 = .int .i64 t ∧ tm 4 = .pointer (some ⟨2, 0, none⟩) ∧ tm 5 = .bool false ∧ tm 6 = .int .i64 i ∧
    H = AH.of [some (.arr 170 [.slice (some ⟨1, 0, none⟩) l.length 1]), some (.arr 155 (rows l)), some (.arr 155 [.int .i64 0, .int .u64 0, .int .u64 0])]) (m := l.length) ⟨0, by simp⟩ (by omega) ?_
  rintro m tm H ⟨i, hm, hno, t0, t1, t4, t5, t6, rfl⟩
  by_cases hi : i < l.length
  · obtain ⟨x, hx⟩ : ∃ x, l[i]? = some x := ⟨l[i], List.getElem?_eq_getElem hi⟩
    have hi' : (i : Int) < l.length := by omega
    have h3 : i * 3 + 3 ≤ (rows l).length := by rw [rows_length]; omega
    have hw : IntKind.i64.wrap ((i : Int) + 1) = ((i + 1 : Nat) : Int) := by rw [wrap_i64 (by omega) (by omega)]; omega
    simp (implicitDefEqProofs := false) [t0, t1, t4, t5, t6, hi, hi', rows_at hx, many_rows hx, h3, Ent.cells, hw]
    refine ⟨fun he => ?_, fun he => ⟨m - 1, by omega, i + 1, by omega, fun j y hj hy => ?_, by omega⟩⟩
    · have := getE_at hx hno he
      refine ends_plan [.pack (GD.rset l) 0 [1]] [0] ?_ ?_ ?_ <;> simp [frag_rset, AObj.mine, getT, this, Ent.val, Ent.cells]
    · by_cases hji : j = i
      · subst hji; rw [hx] at hy; cases hy; exact he
      · exact hno j y (by omega) hy
  · have hi' : ¬ (i : Int) < l.length := by omega
    have hn : getE l t = none := getE_none fun j x hx => hno j x (by
      rcases Nat.lt_or_ge j l.length with h | h
      · omega
      · rw [List.getElem?_eq_none h] at hx; cases hx) hx
    simp (implicitDefEqProofs := false) [t0, t1, t4, t5, t6, hi']
    refine ends_plan [.pack (GD.rset l) 0 [1]] [0] ?_ ?_ ?_ <;> simp [frag_rset, AObj.mine, getT, hn, zeroE, Ent.val, Ent.cells]
def st204 : CStep GD := fun args H => match args with
  | [x, y] => (ptr0 x).bind fun k => (asI y).bind fun t => (getRset H k).map fun l => (l.length < 9223372036854775807, .ret (getT l t), H)
  | _ => none
theorem st204_ok : CStepOk Tryz.prog cfg 204 st204 := by
  intro args H p r H' h hp
  unfold st204 at h
  split at h
  case h_2 => cases h
  simp only [Option.map_eq_some_iff, Option.bind_eq_some_iff] at h
  obtain ⟨k, hk, t, ht, l, hs, h⟩ := h
  cases h
  rw [ptr0_inv hk, asI_inv ht]
  exact (runs204 t l hp).atK (ro_none rfl) [k] (by simp) (by simp) (by simp [getRset_inv hs]) (by simp) (by simp [getT, Ent.val, Ent.cells]) (by simp [upd_get (getRset_inv hs)])

def tbl4 : List (FuncId × CStep GD) := [(204, st204), (98, st98)]
theorem tbl4_ok : ∀ x ∈ tbl4, CStepOk Tryz.prog cfg x.1 x.2 := by simp [tbl4, st204_ok, st98_ok]

set_option maxRecDepth 20000 in
set_option maxHeartbeats 1000000 in
theorem runs175 (t v n : Int) (l : List Ent) (hl : l.length ≤ 8) (hv0 : 0 ≤ v) (hv1 : v < 18446744073709551616) : Runs Tryz.prog cfg 175 [.pointer (some ⟨0, 0, none⟩), .agg #[.int .i64 t, .int .u64 v, .int .u64 n]] (AH.of [some (.hi (.rset l))])
    fun r H' => r = .ret (.int .i64 (addCode l ⟨t, v, n⟩)) ∧ H' = AH.of [some (.hi (.rset (addL l ⟨t, v, n⟩)))] := by
  refine Runs.ends ?_
  refine runs_by (tbl := tbl4) tbl4_ok 0 2 (af := a175) rfl ?_
  rw [a175, b175, run_eq]
  refine ⟨by simp, ?_⟩
  have hl2 : l.length * 3 ≤ (rows l).length := by rw [rows_length]; omega
  have hl3 : l.length < 9223372036854775807 := by omega
  have hl4 : l.length * 24 ≤ 140737488355328 ∧ l.length ≤ 9223372036854775807 ∧ (l.length + 1) * 24 ≤ 140737488355328 ∧ l.length ≤ 9223372036854775806 := by omega
  cases h5 : getE l t with
  | some e =>
    simp (implicitDefEqProofs := false) [tbl4, st98, st204, getT, h5, Ent.val, Ent.cells, zeroE, frag_rset, hv0, hv1, hl3]
    repeat' (first | with_reducible apply And.intro | with_reducible intro _)
    all_goals (refine ends_plan [] [0] ?_ ?_ ?_ <;> simp [addL, addCode, *] <;> omega)
  | none =>
    simp (implicitDefEqProofs := false) [tbl4, st98, st204, getT, h5, Ent.val, Ent.cells, zeroE, frag_rset, hl2, take_rows, rows_length, hv0, hv1, hl3, hl4]
    repeat' (first | with_reducible apply And.intro | with_reducible intro _)
    all_goals first
      | (refine ends_plan [] [0] ?_ ?_ ?_ <;> simp [addL, addCode, *] <;> omega)
      | (refine ends_plan [.pack (GD.rset l) 0 [3]] [0] ?_ ?_ ?_ <;> simp [frag_rset, AObj.mine, addL, addCode, *] <;> omega)
      | (refine ends_plan [.pack (GD.rset (l ++ [⟨t, v, n⟩])) 0 [7]] [0] ?_ ?_ ?_ <;> simp [frag_rset, AObj.mine, addL, addCode, rows_add, *] <;> omega)
def st175 : CStep GD := fun args H => match args with
  | [x, y] => (ptr0 x).bind fun k => (asEnt y).bind fun e => (getRset H k).map fun l => (l.length ≤ 8 ∧ 0 ≤ e.v ∧ e.v < 18446744073709551616, .ret (.int .i64 (addCode l e)), H.upd k (.hi (.rset (addL l e))))
  | _ => none
theorem st175_ok : CStepOk Tryz.prog cfg 175 st175 := by
  intro args H p r H' h hp
  unfold st175 at h
  split at h
  case h_2 => cases h
  simp only [Option.map_eq_some_iff, Option.bind_eq_some_iff] at h
  obtain ⟨k, hk, e, he, l, hs, h⟩ := h
  cases h
  rw [ptr0_inv hk, asEnt_inv he]
  exact (runs175 e.t e.v e.n l hp.1 hp.2.1 hp.2.2).atK (ro_none rfl) [k] (by simp) (by simp) (by simp [getRset_inv hs]) (by simp [Ent.val, Ent.cells]) (by simp) (by simp)
end YtnemoimbeefngaaGreat
end Go.Proofs
/-
  List, play.
-/
set_option linter.unusedSimpArgs false
set_option linter.unusedVariables false
set_option linter.unnecessarySimpa false
set_option linter.unusedSectionVars false
namespace Go.Proofs
namespace YtnemoimbeefngaaGreat
open Go.Abs
set_option linter.unusedSimpArgs false

theorem rows_take {l : List Ent} {i : Nat} {x : Ent} (h : l[i]? = some x) : rows (l.take (i + 1)) = rows (l.take i) ++ [.int .i64 x.t, .int .u64 x.v, .int .u64 x.n] := by
  rw [List.take_add_one, h]
  simp [rows, Ent.cells]
theorem tvars_at {l : List Ent} {i : Nat} {x : Ent} (h : l[i]? = some x) : (tvars l)[i]? = some (.int .i64 x.t) := by simp [tvars, h]

set_option maxHeartbeats 1000000 in
theorem runs92 (c : Nat) (l : List Ent) (hl : l.length ≤ 8) (hu : Uniq l) : Runs Tryz.prog cfg 92 [.pointer (some ⟨0, 0, none⟩)] (AH.of [some (.hi (.set c l))])
    fun r H' => r = .ret (.slice (some ⟨1, 0, none⟩) l.length 1) ∧ H' = AH.of [some (.hi (.set c l)), some (.arr 155 (rows l))] := by
  refine Runs.ends ?_
  refine Runs.openSet fun es cc hes hlen hren => ?_
  have hf := find_alike hes hu
  refine runs_by (tbl := []) (by simp) (l.length + 1) 0 (af := a92) rfl ?_
  rw [a92, b92, run_eq]
  refine ⟨by simp, ?_⟩
  simp (implicitDefEqProofs := false) [frag_set]
  refine loop_view (sg_mono gX_ok (tabS_ok (by simp)) _ _ noY noY_mono) (fun m tm H => ∃ i : Nat, m + i = l.length ∧ tm 0 = .pointer (some ⟨0, 0, none⟩) ∧ tm 3 = .slice (some ⟨3, 0, none⟩) i 1 ∧ tm 11 = .slice (some ⟨1, 0, none⟩) l.length 1 ∧ tm 12 = .int .i64 l.length ∧ tm 13 = .int .i64 i ∧
    H = AH.of [some (.arr 163 [.slice (some ⟨1, 0, none⟩) l.length 1, .map (some 2)]), some (.arr 3 (tvars l)), some (.map es cc), some (.arr 155 (rows (l.take i)))]) (m := l.length) ?_ (by omega) ?_
  · refine round_wk [.nil 155] [0, 1, 2, 3] [some (.arr 163 [.slice (some ⟨1, 0, none⟩) l.length 1, .map (some 2)]), some (.arr 3 (tvars l)), some (.map es cc), some (.arr 155 [])] [(3, .slice (some ⟨3, 0, none⟩) 0 1)] l.length (by omega) ?_ ?_ ?_ ⟨0, ?_⟩ <;> simp [rows, hren]
    done
  rintro m tm H ⟨i, hm, t0, t3, t11, t12, t13, rfl⟩
  by_cases hi : i < l.length
  · obtain ⟨x, hx⟩ : ∃ x, l[i]? = some x := ⟨l[i], List.getElem?_eq_getElem hi⟩
    have hi' : (i : Int) < l.length := by omega
    have hw : IntKind.i64.wrap ((i : Int) + 1) = ((i + 1 : Nat) : Int) := by rw [wrap_i64 (by omega) (by omega)]; omega
    have hr1 : i * 3 ≤ (rows (l.take i)).length := by rw [rows_length, List.length_take]; omega
    have hr2 : (rows (l.take i)).take (i * 3) = rows (l.take i) := List.take_of_length_le (by rw [rows_length, List.length_take]; omega)
    have hr3 : (i + 1) * 24 ≤ 140737488355328 ∧ i ≤ 9223372036854775806 := by omega
    simp (implicitDefEqProofs := false) [t0, t3, t11, t12, t13, hi, hi', tvars_at hx, hf, hu.get i x hx, Ent.val, Ent.cells, hr1, hr2, hr3, hw]
    refine round_plan [] [0, 1, 2, 5] [some (.arr 163 [.slice (some ⟨1, 0, none⟩) l.length 1, .map (some 2)]), some (.arr 3 (tvars l)), some (.map es cc), some (.arr 155 (rows (l.take (i + 1))))] (m - 1) (by omega) ?_ ?_ ⟨i + 1, by omega, ?_⟩ <;> simp [t0, t3, t11, t12, t13, rows_take hx, hren]
    done
  · have hi' : ¬ (i : Int) < l.length := by omega
    have hil : i = l.length := by omega
    subst hil
    simp (implicitDefEqProofs := false) [t0, t3, t11, t12, t13, hi']
    refine ends_plan [.pack (GD.set c l) 0 [1, 2]] [0, 3] ?_ ?_ ?_ <;> simp [frag_set, AObj.mine, hes]
end YtnemoimbeefngaaGreat
end Go.Proofs
/-
  play.
-/
set_option linter.unusedSimpArgs false
set_option linter.unusedVariables false
set_option linter.unnecessarySimpa false
set_option linter.unusedSectionVars false
namespace Go.Proofs
namespace YtnemoimbeefngaaGreat
open Go.Abs
set_option linter.unusedSimpArgs false

def Ent.Ok (e : Ent) : Prop := 0 ≤ e.v ∧ e.v < 18446744073709551616
def playL (l : List Ent) : List Ent := (l.take 30).foldl addL []
theorem addL_le {l : List Ent} {e : Ent} (h : l.length ≤ 8) : (addL l e).length ≤ 8 := by
  unfold addL
  split
  · rename_i hc
    have : ¬ (8 : Int) ≤ l.length := by
      intro h8
      have hg : getE l e.t = none := by simpa using hc.2
      have := hc.1
      unfold addCode at this
      split at this
      · cases this
      · split at this
        · cases this
        · rw [hg] at this
          simp [h8] at this
    simp; omega
  · exact h

theorem Good.play (l : List Ent) : Good (playL l) := by
  unfold playL
  generalize l.take 30 = m
  have : ∀ (m s : List Ent), Good s → Good (m.foldl addL s) := by
    intro m
    induction m with
    | nil => intro s h; exact h
    | cons e m ih => intro s h; exact ih _ (h.add e)
  exact this m [] good_nil


def tbl6 : List (FuncId × CStep GD) := [(81, st81), (118, st118), (143, st143), (175, st175)]
theorem tbl6_ok : ∀ x ∈ tbl6, CStepOk Tryz.prog cfg x.1 x.2 := by simp [tbl6, st81_ok, st118_ok, st143_ok, st175_ok]

end YtnemoimbeefngaaGreat
end Go.Proofs
/-
  Broken, Valid, Newest; live.
-/
set_option linter.unusedSimpArgs false
set_option linter.unusedVariables false
set_option linter.unnecessarySimpa false
set_option linter.unusedSectionVars false
namespace Go.Proofs
namespace YtnemoimbeefngaaGreat
open Go.Abs
set_option linter.unusedSimpArgs false

/-- Is it not what was read? -/
def badB (h : List Int) (e : Ent) : Bool := decide ((h.length : Int) ≤ e.t) || !sameB ((h[e.t.toNat]?).getD 0) e.v
def brk (l : List Ent) (h : List Int) : Option Ent := l.find? (badB h)

def st92 : CStep GD := fun args H => match args with
  | [x] => (ptr0 x).bind fun k => (getSet H k).map fun s => (s.2.length ≤ 8 ∧ Uniq s.2, .ret (.slice (some ⟨H.next, 0, none⟩) s.2.length 1), H.add (.arr 155 (rows s.2)))
  | _ => none
theorem st92_ok : CStepOk Tryz.prog cfg 92 st92 := by
  intro args H p r H' h hp
  unfold st92 at h
  split at h
  case h_2 => cases h
  simp only [Option.map_eq_some_iff, Option.bind_eq_some_iff] at h
  obtain ⟨k, hk, s, hs, h⟩ := h
  cases h
  rw [ptr0_inv hk]
  exact (runs92 s.1 s.2 hp.1 hp.2).atK (ro_none rfl) [k] (by simp) (by simp) (by simp [getSet_inv hs]) (by simp) (by simp) (by simp [upd_get (getSet_inv hs)])

def tbl7 : List (FuncId × CStep GD) := [(92, st92), (133, st133)]
theorem tbl7_ok : ∀ x ∈ tbl7, CStepOk Tryz.prog cfg x.1 x.2 := by simp [tbl7, st92_ok, st133_ok]

theorem brk_none {l : List Ent} {h : List Int} (hno : ∀ (j : Nat) (x : Ent), l[j]? = some x → badB h x = false) : brk l h = none := by
  simp only [brk, List.find?_eq_none]
  intro x hx
  obtain ⟨j, hj⟩ := List.mem_iff_getElem?.1 hx
  simpa using hno j x hj
theorem brk_at {l : List Ent} {h : List Int} {i : Nat} {e : Ent} (hi : l[i]? = some e) (hno : ∀ (j : Nat) (x : Ent), j < i → l[j]? = some x → badB h x = false) (he : badB h e = true) : brk l h = some e := by
  induction l generalizing i with
  | nil => simp at hi
  | cons a l ih =>
    cases i with
    | zero => simp at hi; subst hi; simp [brk, he]
    | succ i =>
      have h0 := hno 0 a (by omega) rfl
      simp only [brk, List.find?_cons, h0]
      exact ih (i := i) (by simpa using hi) fun j x hj hx => hno (j + 1) x (by omega) (by simpa using hx)

set_option maxHeartbeats 1000000 in
theorem runs148 (c tg : Nat) (l : List Ent) (h : List Int) (hl : l.length ≤ 8) (hu : Uniq l) (h0 : ∀ e ∈ l, 0 ≤ e.t) : Runs Tryz.prog cfg 148 [.pointer (some ⟨0, 0, none⟩), .slice (some ⟨1, 0, none⟩) h.length tg] (AH.of [some (.hi (.set c l)), some (.ro (us h))])
    fun r H' => r = .ret (.tuple #[.int .i64 ((brk l h).getD zeroE).t, .bool (brk l h).isSome]) ∧ H' = AH.of [some (.hi (.set c l)), some (.ro (us h))] := by
  refine Runs.ends ?_
  refine runs_by (tbl := tbl7) tbl7_ok (l.length + 1) 0 (af := a148) rfl ?_
  rw [a148, b148, run_eq]
  refine ⟨by simp, ?_⟩
  simp (implicitDefEqProofs := false) [tbl7, st92, hl, hu]
  refine loop_view (sg_mono gX_ok (tabS_ok tbl7_ok) _ _ noY noY_mono) (fun m tm H => ∃ i : Nat, m + i = l.length ∧ (∀ (j : Nat) (x : Ent), j < i → l[j]? = some x → badB h x = false) ∧ tm 1 = .slice (some ⟨1, 0, none⟩) h.length tg ∧ tm 9 = .slice (some ⟨2, 0, none⟩) l.length 1 ∧ tm 10 = .int .i64 l.length ∧ tm 11 = .int .i64 i ∧
    H = AH.of [some (.hi (.set c l)), some (.ro (us h)), some (.arr 155 (rows l))]) (m := l.length) ?_ (by omega) ?_
  · refine round_plan [] [0, 1, 2] [some (.hi (.set c l)), some (.ro (us h)), some (.arr 155 (rows l))] l.length (by omega) ?_ ?_ ⟨0, ?_⟩ <;> simp [ren_us]
    done
  rintro m tm H ⟨i, hm, hno, t1, t9, t10, t11, rfl⟩
  by_cases hi : i < l.length
  · obtain ⟨x, hx⟩ : ∃ x, l[i]? = some x := ⟨l[i], List.getElem?_eq_getElem hi⟩
    have hi' : (i : Int) < l.length := by omega
    have hw : IntKind.i64.wrap ((i : Int) + 1) = ((i + 1 : Nat) : Int) := by rw [wrap_i64 (by omega) (by omega)]; omega
    have r3 := many_rows hx
    have hle : i * 3 + 3 ≤ (rows l).length := by rw [rows_length]; omega
    have hx0 : 0 ≤ x.t := h0 x (List.mem_of_getElem? hx)
    by_cases hb : (h.length : Int) ≤ x.t
    · have hbad : badB h x = true := by simp [badB, hb]
      simp (implicitDefEqProofs := false) [tbl7, st133, t1, t9, t10, t11, hi, hi', r3, hle, Ent.cells, hw, hb]
      refine ends_plan [] [0, 1] ?_ ?_ ?_ <;> simp [brk_at hx hno hbad, ren_us]
    · obtain ⟨v, hv⟩ : ∃ v, h[x.t.toNat]? = some v := ⟨h[x.t.toNat], List.getElem?_eq_getElem (by omega)⟩
      have hb2 : x.t < h.length := by omega
      have hbad : badB h x = !sameB v x.v := by simp [badB, hb, hv]
      simp (implicitDefEqProofs := false) [tbl7, st133, t1, t9, t10, t11, hi, hi', r3, hle, Ent.cells, hw, hb, hb2, hx0, us_at hv]
      refine ⟨fun hs => ?_, fun hs => ?_⟩
      · refine ends_plan [] [0, 1] ?_ ?_ ?_ <;> simp [brk_at hx hno (by simp [hbad, hs]), ren_us]
      · refine round_plan [] [0, 1, 2] [some (.hi (.set c l)), some (.ro (us h)), some (.arr 155 (rows l))] (m - 1) (by omega) ?_ ?_ ⟨i + 1, by omega, ?_⟩
        · simp
        · simp [ren_us]
        · refine ⟨fun j y hj hy => ?_, ?_⟩
          · by_cases hji : j = i
            · subst hji; rw [hx] at hy; cases hy; simp [hbad, hs]
            · exact hno j y (by omega) hy
          · simp [t1, t9, t10, t11]
  · have hi' : ¬ (i : Int) < l.length := by omega
    have hn : brk l h = none := brk_none fun j x hx => hno j x (by
      rcases Nat.lt_or_ge j l.length with h | h
      · omega
      · rw [List.getElem?_eq_none h] at hx; cases hx) hx
    simp (implicitDefEqProofs := false) [t1, t9, t10, t11, hi']
    refine ends_plan [] [0, 1] ?_ ?_ ?_ <;> simp [hn, zeroE, ren_us]
end YtnemoimbeefngaaGreat
end Go.Proofs
/-
  SEQLOCK: one lock that counts.
-/
set_option linter.unusedSimpArgs false
set_option linter.unusedVariables false
set_option linter.unnecessarySimpa false
set_option linter.unusedSectionVars false
namespace Go.Proofs
namespace YtnemoimbeefngaaGreat
open Go.Abs
set_option linter.unusedSimpArgs false

def getLk (H : AH GD) (k : Nat) : Option (Option Int × Int) :=
  match H.get k with
  | some (.hi (.lk o c)) => some (o, c)
  | _ => none
theorem getLk_inv {H : AH GD} {k : Nat} {x : Option Int × Int} (h : getLk H k = some x) : H.get k = some (.hi (.lk x.1 x.2)) := by
  unfold getLk at h
  split at h
  · rename_i h2; cases h; exact h2
  · cases h
attribute [simp] getLk
/-- Two cases of a lock, free or held. -/
theorem lk_cases {o : Option Int} {p : Option Int → Prop} (h0 : o = none → p none) (h1 : ∀ x, o = some x → p (some x)) : p o := by
  cases o with
  | none => exact h0 rfl
  | some x => exact h1 x rfl

theorem runs97 : Runs Tryz.prog cfg 97 [] (AH.of []) fun r H' => r = .ret (.pointer (some ⟨0, 0, none⟩)) ∧ H' = AH.of [some (.hi (.lk none 0))] := by
  refine Runs.ends ?_
  refine runs_by (tbl := []) (by simp) 0 0 (af := a97) rfl ?_
  rw [a97, b97, run_eq]
  refine ⟨by simp, ?_⟩
  simp (implicitDefEqProofs := false)
  refine ends_plan [.pack (GD.lk none 0) 0 []] [0] ?_ ?_ ?_ <;> simp [frag_lk0, AObj.mine]

def snapR : Option Int → Int → Value
  | none, c => .tuple #[.int .u64 c, .int .i64 0]
  | some _, _ => .tuple #[.int .u64 0, .int .i64 7]
theorem runs80 (o : Option Int) (c : Int) : Runs Tryz.prog cfg 80 [.pointer (some ⟨0, 0, none⟩)] (AH.of [some (.hi (.lk o c))])
    fun r H' => r = .ret (snapR o c) ∧ H' = AH.of [some (.hi (.lk o c))] := by
  refine Runs.ends ?_
  cases o with
  | none =>
    refine runs_by (tbl := []) (by simp) 0 4 (af := a80) rfl ?_
    rw [a80, b80, run_eq]
    refine ⟨by simp, ?_⟩
    simp (implicitDefEqProofs := false) [forms128, a128, b128, forms183, a183, b183, forms129, a129, b129, forms130, a130, b130, frag_lk0]
    refine ends_plan [.pack (GD.lk none c) 0 []] [0] ?_ ?_ ?_ <;> simp [frag_lk0, AObj.mine, snapR]
  | some x =>
    refine runs_by (tbl := []) (by simp) 0 4 (af := a80) rfl ?_
    rw [a80, b80, run_eq]
    refine ⟨by simp, ?_⟩
    simp (implicitDefEqProofs := false) [forms128, a128, b128, forms183, a183, b183, forms129, a129, b129, forms130, a130, b130, frag_lk1]
    refine ends_plan [.pack (GD.lk (some x) c) 0 [4]] [0] ?_ ?_ ?_ <;> simp [frag_lk1, AObj.mine, snapR]

/-- Try: the error, and the lock behind it. -/
def tryE (o : Option Int) (c w at_ : Int) : Int := if w < 0 ∨ 4 ≤ w then 2 else if o.isSome then 7 else if c ≠ at_ then 8 else if 1099511627775 ≤ c then 4 else 0
theorem try_range {o : Option Int} {c w a : Int} (h : w < 0 ∨ 4 ≤ w) : tryE o c w a = 2 := by simp [tryE, h]
theorem runs137 (o : Option Int) (c w a : Int) : Runs Tryz.prog cfg 137 [.pointer (some ⟨0, 0, none⟩), .int .i64 w, .int .u64 a] (AH.of [some (.hi (.lk o c))])
    fun r H' => r = .ret (.int .i64 (tryE o c w a)) ∧ H' = AH.of [some (.hi (if tryE o c w a = 0 then .lk (some w) (IntKind.u64.wrap (c + 1)) else .lk o c))] := by
  refine Runs.ends ?_
  by_cases h1 : w < 0
  · have h1' : ¬ 0 ≤ w := by omega
    refine runs_by (tbl := []) (by simp) 0 4 (af := a137) rfl ?_
    rw [a137, b137, run_eq]
    refine ⟨by simp, ?_⟩
    simp (implicitDefEqProofs := false) [forms128, a128, b128, forms183, a183, b183, forms187, a187, b187, forms130, a130, b130, h1, h1']
    refine ends_plan [] [0] ?_ ?_ ?_ <;> simp [tryE, h1]
  have h1' : 0 ≤ w := by omega
  by_cases h2 : 4 ≤ w
  · have h2' : ¬ w < 4 := by omega
    refine runs_by (tbl := []) (by simp) 0 4 (af := a137) rfl ?_
    rw [a137, b137, run_eq]
    refine ⟨by simp, ?_⟩
    simp (implicitDefEqProofs := false) [forms128, a128, b128, forms183, a183, b183, forms187, a187, b187, forms130, a130, b130, h1, h1', h2, h2']
    refine ends_plan [] [0] ?_ ?_ ?_ <;> simp [tryE, h1, h2]
  have h2' : w < 4 := by omega
  cases o with
  | some x =>
    refine runs_by (tbl := []) (by simp) 0 4 (af := a137) rfl ?_
    rw [a137, b137, run_eq]
    refine ⟨by simp, ?_⟩
    simp (implicitDefEqProofs := false) [forms128, a128, b128, forms183, a183, b183, forms187, a187, b187, forms130, a130, b130, h1, h1', h2, h2', frag_lk1]
    refine ends_plan [.pack (GD.lk (some x) c) 0 [5]] [0] ?_ ?_ ?_ <;> simp [frag_lk1, AObj.mine, tryE, h1, h2]
  | none =>
    by_cases h3 : c = a
    · by_cases h4 : c < 1099511627775
      · have h4' : ¬ 1099511627775 ≤ c := by omega
        subst h3
        refine runs_by (tbl := []) (by simp) 0 4 (af := a137) rfl ?_
        rw [a137, b137, run_eq]
        refine ⟨by simp, ?_⟩
        simp (implicitDefEqProofs := false) [forms128, a128, b128, forms183, a183, b183, forms187, a187, b187, forms130, a130, b130, h1, h1', h2, h2', h4, frag_lk0]
        refine ends_plan [.pack (GD.lk (some w) (IntKind.u64.wrap (c + 1))) 0 [2]] [0] ?_ ?_ ?_ <;> simp [frag_lk1, AObj.mine, tryE, h1, h2, h4']
      · have h4' : 1099511627775 ≤ c := by omega
        subst h3
        refine runs_by (tbl := []) (by simp) 0 4 (af := a137) rfl ?_
        rw [a137, b137, run_eq]
        refine ⟨by simp, ?_⟩
        simp (implicitDefEqProofs := false) [forms128, a128, b128, forms183, a183, b183, forms187, a187, b187, forms130, a130, b130, h1, h1', h2, h2', h4, frag_lk0]
        refine ends_plan [.pack (GD.lk none c) 0 []] [0] ?_ ?_ ?_ <;> simp [frag_lk0, AObj.mine, tryE, h1, h2, h4']
    · refine runs_by (tbl := []) (by simp) 0 4 (af := a137) rfl ?_
      rw [a137, b137, run_eq]
      refine ⟨by simp, ?_⟩
      simp (implicitDefEqProofs := false) [forms128, a128, b128, forms183, a183, b183, forms187, a187, b187, forms130, a130, b130, h1, h1', h2, h2', h3, frag_lk0]
      refine ends_plan [.pack (GD.lk none c) 0 []] [0] ?_ ?_ ?_ <;> simp [frag_lk0, AObj.mine, tryE, h1, h2, h3]

theorem runs139 (o : Option Int) (c w : Int) : Runs Tryz.prog cfg 139 [.pointer (some ⟨0, 0, none⟩), .int .i64 w] (AH.of [some (.hi (.lk o c))])
    fun r H' => r = .ret (.int .i64 (if o = some w then 0 else 8)) ∧ H' = AH.of [some (.hi (if o = some w then .lk none (IntKind.u64.wrap (c + 1)) else .lk o c))] := by
  refine Runs.ends ?_
  cases o with
  | none =>
    refine runs_by (tbl := []) (by simp) 0 5 (af := a139) rfl ?_
    rw [a139, b139, run_eq]
    refine ⟨by simp, ?_⟩
    simp (implicitDefEqProofs := false) [forms128, a128, b128, forms183, a183, b183, forms185, a185, b185, forms207, a207, b207, forms188, a188, b188, forms130, a130, b130, frag_lk0]
    refine ends_plan [.pack (GD.lk none c) 0 []] [0] ?_ ?_ ?_ <;> simp [frag_lk0, AObj.mine]
  | some x =>
    by_cases h : x = w
    · subst h
      refine runs_by (tbl := []) (by simp) 0 5 (af := a139) rfl ?_
      rw [a139, b139, run_eq]
      refine ⟨by simp, ?_⟩
      simp (implicitDefEqProofs := false) [forms128, a128, b128, forms183, a183, b183, forms185, a185, b185, forms207, a207, b207, forms188, a188, b188, forms130, a130, b130, frag_lk1]
      refine ends_plan [.pack (GD.lk none (IntKind.u64.wrap (c + 1))) 0 []] [0] ?_ ?_ ?_ <;> simp [frag_lk0, AObj.mine]
    · refine runs_by (tbl := []) (by simp) 0 5 (af := a139) rfl ?_
      rw [a139, b139, run_eq]
      refine ⟨by simp, ?_⟩
      simp (implicitDefEqProofs := false) [forms128, a128, b128, forms183, a183, b183, forms185, a185, b185, forms207, a207, b207, forms188, a188, b188, forms130, a130, b130, frag_lk1, h]
      refine ends_plan [.pack (GD.lk (some x) c) 0 [5]] [0] ?_ ?_ ?_ <;> simp [frag_lk1, AObj.mine, h]
theorem runs135 (o : Option Int) (c w : Int) : Runs Tryz.prog cfg 135 [.pointer (some ⟨0, 0, none⟩), .int .i64 w] (AH.of [some (.hi (.lk o c))])
    fun r H' => r = .ret (.int .i64 (if o = some w then 0 else 8)) ∧ H' = AH.of [some (.hi (if o = some w then .lk none (IntKind.u64.wrap (c - 1)) else .lk o c))] := by
  refine Runs.ends ?_
  cases o with
  | none =>
    refine runs_by (tbl := []) (by simp) 0 5 (af := a135) rfl ?_
    rw [a135, b135, run_eq]
    refine ⟨by simp, ?_⟩
    simp (implicitDefEqProofs := false) [forms128, a128, b128, forms183, a183, b183, forms185, a185, b185, forms207, a207, b207, forms186, a186, b186, forms130, a130, b130, frag_lk0]
    refine ends_plan [.pack (GD.lk none c) 0 []] [0] ?_ ?_ ?_ <;> simp [frag_lk0, AObj.mine]
  | some x =>
    by_cases h : x = w
    · subst h
      refine runs_by (tbl := []) (by simp) 0 5 (af := a135) rfl ?_
      rw [a135, b135, run_eq]
      refine ⟨by simp, ?_⟩
      simp (implicitDefEqProofs := false) [forms128, a128, b128, forms183, a183, b183, forms185, a185, b185, forms207, a207, b207, forms186, a186, b186, forms130, a130, b130, frag_lk1]
      refine ends_plan [.pack (GD.lk none (IntKind.u64.wrap (c - 1))) 0 []] [0] ?_ ?_ ?_ <;> simp [frag_lk0, AObj.mine]
    · refine runs_by (tbl := []) (by simp) 0 5 (af := a135) rfl ?_
      rw [a135, b135, run_eq]
      refine ⟨by simp, ?_⟩
      simp (implicitDefEqProofs := false) [forms128, a128, b128, forms183, a183, b183, forms185, a185, b185, forms207, a207, b207, forms186, a186, b186, forms130, a130, b130, frag_lk1, h]
      refine ends_plan [.pack (GD.lk (some x) c) 0 [5]] [0] ?_ ?_ ?_ <;> simp [frag_lk1, AObj.mine, h]

def ownR : Option Int → Value
  | none => .tuple #[.int .i64 0, .bool false]
  | some x => .tuple #[.int .i64 x, .bool true]
theorem runs94 (o : Option Int) (c : Int) : Runs Tryz.prog cfg 94 [.pointer (some ⟨0, 0, none⟩)] (AH.of [some (.hi (.lk o c))])
    fun r H' => r = .ret (ownR o) ∧ H' = AH.of [some (.hi (.lk o c))] := by
  refine Runs.ends ?_
  cases o with
  | none =>
    refine runs_by (tbl := []) (by simp) 0 0 (af := a94) rfl ?_
    rw [a94, b94, run_eq]
    refine ⟨by simp, ?_⟩
    simp (implicitDefEqProofs := false) [frag_lk0]
    refine ends_plan [.pack (GD.lk none c) 0 []] [0] ?_ ?_ ?_ <;> simp [frag_lk0, AObj.mine, ownR]
  | some x =>
    refine runs_by (tbl := []) (by simp) 0 0 (af := a94) rfl ?_
    rw [a94, b94, run_eq]
    refine ⟨by simp, ?_⟩
    simp (implicitDefEqProofs := false) [frag_lk1]
    refine ends_plan [.pack (GD.lk (some x) c) 0 [1]] [0] ?_ ?_ ?_ <;> simp [frag_lk1, AObj.mine, ownR]
theorem runs134 (o : Option Int) (c a : Int) : Runs Tryz.prog cfg 134 [.pointer (some ⟨0, 0, none⟩), .int .u64 a] (AH.of [some (.hi (.lk o c))])
    fun r H' => r = .ret (.bool (decide (c = a))) ∧ H' = AH.of [some (.hi (.lk o c))] := by
  refine Runs.ends ?_
  cases o with
  | none =>
    refine runs_by (tbl := []) (by simp) 0 0 (af := a134) rfl ?_
    rw [a134, b134, run_eq]
    refine ⟨by simp, ?_⟩
    simp (implicitDefEqProofs := false) [frag_lk0]
    refine ends_plan [.pack (GD.lk none c) 0 []] [0] ?_ ?_ ?_ <;> simp [frag_lk0, AObj.mine]
  | some x =>
    refine runs_by (tbl := []) (by simp) 0 0 (af := a134) rfl ?_
    rw [a134, b134, run_eq]
    refine ⟨by simp, ?_⟩
    simp (implicitDefEqProofs := false) [frag_lk1]
    refine ends_plan [.pack (GD.lk (some x) c) 0 [1]] [0] ?_ ?_ ?_ <;> simp [frag_lk1, AObj.mine]
theorem runs49 (o : Option Int) (c : Int) : Runs Tryz.prog cfg 49 [.pointer (some ⟨0, 0, none⟩)] (AH.of [some (.hi (.lk o c))])
    fun r H' => r = .ret (.int .u64 c) ∧ H' = AH.of [some (.hi (.lk o c))] := by
  refine Runs.ends ?_
  cases o with
  | none =>
    refine runs_by (tbl := []) (by simp) 0 0 (af := a49) rfl ?_
    rw [a49, b49, run_eq]
    refine ⟨by simp, ?_⟩
    simp (implicitDefEqProofs := false) [frag_lk0]
    refine ends_plan [.pack (GD.lk none c) 0 []] [0] ?_ ?_ ?_ <;> simp [frag_lk0, AObj.mine]
  | some x =>
    refine runs_by (tbl := []) (by simp) 0 0 (af := a49) rfl ?_
    rw [a49, b49, run_eq]
    refine ⟨by simp, ?_⟩
    simp (implicitDefEqProofs := false) [frag_lk1]
    refine ends_plan [.pack (GD.lk (some x) c) 0 [1]] [0] ?_ ?_ ?_ <;> simp [frag_lk1, AObj.mine]
end YtnemoimbeefngaaGreat
end Go.Proofs
/-
  SEQLOCK: its functions as contracts.
-/
set_option linter.unusedSimpArgs false
set_option linter.unusedVariables false
set_option linter.unnecessarySimpa false
set_option linter.unusedSectionVars false
namespace Go.Proofs
namespace YtnemoimbeefngaaGreat
open Go.Abs
set_option linter.unusedSimpArgs false

def st97 : CStep GD := fun args H => match args with
  | [] => some (True, .ret (.pointer (some ⟨H.next, 0, none⟩)), H.add (.hi (.lk none 0)))
  | _ => none
theorem st97_ok : CStepOk Tryz.prog cfg 97 st97 := by
  intro args H p r H' h hp
  unfold st97 at h
  split at h
  case h_2 => cases h
  cases h
  exact runs97.atK (ro_none rfl) [] (by simp) (by simp) trivial (by simp) (by simp) (by simp)
def d80 : DStep
  | .lk o c, [] => some (True, snapR o c, .lk o c)
  | _, _ => none
theorem st80_ok : CStepOk Tryz.prog cfg 80 (dataSt d80) := data_ok fun d rest p v d' h hp => by
  unfold d80 at h
  split at h
  · cases h; exact ⟨rfl, by unfold snapR; split <;> rfl, runs80 _ _⟩
  · cases h
def d137 : DStep
  | .lk o c, [.int .i64 w, .int .u64 a] => some (True, .int .i64 (tryE o c w a), if tryE o c w a = 0 then .lk (some w) (IntKind.u64.wrap (c + 1)) else .lk o c)
  | _, _ => none
theorem st137_ok : CStepOk Tryz.prog cfg 137 (dataSt d137) := data_ok fun d rest p v d' h hp => by
  unfold d137 at h
  split at h
  · cases h; exact ⟨rfl, rfl, runs137 _ _ _ _⟩
  · cases h
def d139 : DStep
  | .lk o c, [.int .i64 w] => some (True, .int .i64 (if o = some w then 0 else 8), if o = some w then .lk none (IntKind.u64.wrap (c + 1)) else .lk o c)
  | _, _ => none
theorem st139_ok : CStepOk Tryz.prog cfg 139 (dataSt d139) := data_ok fun d rest p v d' h hp => by
  unfold d139 at h
  split at h
  · cases h; exact ⟨rfl, rfl, runs139 _ _ _⟩
  · cases h
def d135 : DStep
  | .lk o c, [.int .i64 w] => some (True, .int .i64 (if o = some w then 0 else 8), if o = some w then .lk none (IntKind.u64.wrap (c - 1)) else .lk o c)
  | _, _ => none
theorem st135_ok : CStepOk Tryz.prog cfg 135 (dataSt d135) := data_ok fun d rest p v d' h hp => by
  unfold d135 at h
  split at h
  · cases h; exact ⟨rfl, rfl, runs135 _ _ _⟩
  · cases h
def d94 : DStep
  | .lk o c, [] => some (True, ownR o, .lk o c)
  | _, _ => none
theorem st94_ok : CStepOk Tryz.prog cfg 94 (dataSt d94) := data_ok fun d rest p v d' h hp => by
  unfold d94 at h
  split at h
  · cases h; exact ⟨rfl, by unfold ownR; split <;> rfl, runs94 _ _⟩
  · cases h
def d134 : DStep
  | .lk o c, [.int .u64 a] => some (True, .bool (decide (c = a)), .lk o c)
  | _, _ => none
theorem st134_ok : CStepOk Tryz.prog cfg 134 (dataSt d134) := data_ok fun d rest p v d' h hp => by
  unfold d134 at h
  split at h
  · cases h; exact ⟨rfl, rfl, runs134 _ _ _⟩
  · cases h
def d49 : DStep
  | .lk o c, [] => some (True, .int .u64 c, .lk o c)
  | _, _ => none
theorem st49_ok : CStepOk Tryz.prog cfg 49 (dataSt d49) := data_ok fun d rest p v d' h hp => by
  unfold d49 at h
  split at h
  · cases h; exact ⟨rfl, rfl, runs49 _ _⟩
  · cases h
end YtnemoimbeefngaaGreat
end Go.Proofs
/-
  EVENTS: rows of them, and what is read off one.
-/
set_option linter.unusedSimpArgs false
set_option linter.unusedVariables false
set_option linter.unnecessarySimpa false
set_option linter.unusedSectionVars false
namespace Go.Proofs
namespace YtnemoimbeefngaaGreat
open Go.Abs
set_option linter.unusedSimpArgs false

theorem evs_ground (l : List Ev) : grounds (evs l) = true := by
  induction l with
  | nil => rfl
  | cons e l ih =>
    show grounds (.int .u8 e.k :: .int .i64 e.a :: .int .i64 e.t :: .int .u64 e.v :: evs l) = true
    simp [grounds, ground, ih]
theorem ren_evs (θ : Nat → Nat) (l : List Ev) : rens θ (evs l) = evs l := rens_ground θ _ (evs_ground l)
attribute [simp] ren_evs
theorem evs_length (l : List Ev) : (evs l).length = l.length * 4 := by
  induction l with
  | nil => rfl
  | cons e l ih =>
    show (.int .u8 e.k :: .int .i64 e.a :: .int .i64 e.t :: .int .u64 e.v :: evs l : List Value).length = _
    simp [ih]; omega
theorem evs_append (a b : List Ev) : evs (a ++ b) = evs a ++ evs b := by simp [evs]
theorem evs_single (e : Ev) : evs [e] = [.int .u8 e.k, .int .i64 e.a, .int .i64 e.t, .int .u64 e.v] := rfl
theorem take_evs (l : List Ev) : (evs l).take (l.length * 4) = evs l := List.take_of_length_le (by simp [evs_length])
theorem evs_nil : evs [] = [] := rfl
theorem evs_cons (e : Ev) (l : List Ev) : evs (e :: l) = .int .u8 e.k :: .int .i64 e.a :: .int .i64 e.t :: .int .u64 e.v :: evs l := rfl
def asEvs : List Value → Option (List Ev)
  | [] => some []
  | .int .u8 k :: .int .i64 a :: .int .i64 t :: .int .u64 v :: l => (asEvs l).map (⟨k, a, t, v⟩ :: ·)
  | _ => none
theorem asEvs_evs : ∀ l : List Ev, asEvs (evs l) = some l
  | [] => rfl
  | e :: l => by
    show (asEvs (evs l)).map (_ :: ·) = _
    rw [asEvs_evs l]; rfl
theorem asEvs_inv : ∀ {cs : List Value} {l : List Ev}, asEvs cs = some l → cs = evs l
  | cs, l, e => by
    unfold asEvs at e
    split at e
    · cases e; rfl
    · simp only [Option.map_eq_some_iff] at e
      obtain ⟨l', e1, rfl⟩ := e
      rw [asEvs_inv e1]; rfl
    · cases e
attribute [simp] asEvs_evs
theorem many_evs {i : Nat} {x : Ev} : ∀ {l : List Ev}, l[i]? = some x → ((evs l).drop (i * 4)).take 4 = x.cells := by
  induction i with
  | zero =>
    intro l h
    cases l with
    | nil => simp at h
    | cons e l => simp at h; subst h; rfl
  | succ i ih =>
    intro l h
    cases l with
    | nil => simp at h
    | cons e l =>
      rw [evs_cons, show (i + 1) * 4 = i * 4 + 1 + 1 + 1 + 1 by omega]
      simpa using ih (l := l) (by simpa using h)
theorem many_evs' {i : Nat} {x : Ev} {l : List Ev} (h : l[i]? = some x) : ((evs l).drop (i * 4)).take 4 = [.int .u8 x.k, .int .i64 x.a, .int .i64 x.t, .int .u64 x.v] := many_evs h
theorem evs_at {l : List Ev} {i : Nat} {x : Ev} (h : l[i]? = some x) : (evs l)[i * 4]? = some (.int .u8 x.k) ∧ (evs l)[i * 4 + 1]? = some (.int .i64 x.a) ∧ (evs l)[i * 4 + 2]? = some (.int .i64 x.t) ∧ (evs l)[i * 4 + 3]? = some (.int .u64 x.v) := by
  have h3 := many_evs h
  have g : ∀ j, j < 4 → (evs l)[i * 4 + j]? = x.cells[j]? := fun j hj => by
    rw [← h3, List.getElem?_take, if_pos hj, List.getElem?_drop]
  exact ⟨g 0 (by omega), g 1 (by omega), g 2 (by omega), g 3 (by omega)⟩
theorem evs_room {l : List Ev} {i : Nat} (h : i < l.length) : i * 4 + 4 ≤ (evs l).length := by rw [evs_length]; omega
theorem evs_oneC (l : List Ev) : (evs l).all (·.oneCell') = true := by
  induction l with
  | nil => rfl
  | cons e l ih => rw [evs_cons]; simpa [Value.oneCell'] using ih
/-- A row of events, one's own or one that nobody writes. -/
def getEvs (H : AH GD) (k : Nat) : Option (List Ev) := match H.get k with
  | some (.ro cs) => asEvs cs
  | some (.arr _ cs) => asEvs cs
  | _ => none
theorem getEvs_inv {H : AH GD} {k : Nat} {l : List Ev} (h : getEvs H k = some l) : H.get k = some (.ro (evs l)) ∨ ∃ e, H.get k = some (.arr e (evs l)) := by
  unfold getEvs at h
  split at h
  · rename_i cs hk
    rw [asEvs_inv h] at hk; exact .inl hk
  · rename_i e cs hk
    rw [asEvs_inv h] at hk; exact .inr ⟨e, hk⟩
  · cases h
/-- What is read off a row of events alone, and numbers. -/
abbrev RStep := List Ev → List Value → Option (Prop × Value)
def rdSt (g : RStep) : CStep GD := fun args H => match args with
  | .slice (some ⟨k, 0, none⟩) n _ :: rest => match getEvs H k with
    | some l => if n ≤ l.length then (g (l.take n) rest).map fun x => (x.1, .ret x.2, H) else none
    | none => none
  | _ => none
/-- It is shown over a row that nobody writes. -/
theorem rd_ok {fid : FuncId} {g : RStep} (h : ∀ (l : List Ev) (n c : Nat) (rest : List Value) (p : Prop) (v : Value), n ≤ l.length → g (l.take n) rest = some (p, v) → p → grounds rest = true ∧ ground v = true ∧
    Runs Tryz.prog cfg fid (.slice (some ⟨0, 0, none⟩) n c :: rest) (AH.of [some (.ro (evs l))]) fun r H' => r = .ret v ∧ H' = AH.of [some (.ro (evs l))]) : CStepOk Tryz.prog cfg fid (rdSt g) := by
  intro args H p r H' he hp
  unfold rdSt at he
  split at he
  case h_2 => cases he
  rename_i k n c rest
  split at he
  case h_2 => cases he
  rename_i l hl
  split at he
  case isFalse => cases he
  rename_i hn
  simp only [Option.map_eq_some_iff] at he
  obtain ⟨⟨p', v⟩, h1, h2⟩ := he
  cases h2
  obtain ⟨g1, g2, hr⟩ := h l n c rest p' v hn h1 hp
  rcases getEvs_inv hl with hk | ⟨e, hk⟩
  · exact hr.atK (ro_same fun i cs hi => by rcases i with _ | _ | i <;> simp at hi ⊢; exact hi) [k] (by simp) (by simp) (by simp [hk]) (by rw [rens, rens_ground _ _ g1]; simp) (by rw [renE_ret, ren_ground _ _ g2]) (by simp [upd_get hk])
  · refine Runs.borrow k hk ?_
    have hk2 : (H.upd k (.ro (evs l))).get k = some (.ro (evs l)) := by rw [AH.get_upd, if_pos rfl]
    have hr2 := hr.atK (H := H.upd k (.ro (evs l))) (args := .slice (some ⟨k, 0, none⟩) n c :: rest) (r' := .ret v) (H' := H.upd k (.ro (evs l))) (ro_same fun i cs hi => by rcases i with _ | _ | i <;> simp at hi ⊢; exact hi) [k] (by simp) (by simp) (by simp [hk2]) (by rw [rens, rens_ground _ _ g1]; simp) (by rw [renE_ret, ren_ground _ _ g2]) (by simp [upd_get hk2])
    refine hr2.mono ?_
    rintro r H' ⟨e1, rfl⟩
    refine ⟨hk2, fun j cs2 hj hcs hne => ⟨cs2, ?_, hne⟩, e1, ?_⟩
    · rw [AH.get_upd, if_neg hj] at hcs; exact hcs
    · rw [upd_upd, upd_get hk]
/-- What is read off a row of events alone, as a new row. -/
abbrev RNStep := List Ev → List Value → Option (Prop × Nat × TypeId × List Value)
def rnSt (g : RNStep) : CStep GD := fun args H => match args with
  | .slice (some ⟨k, 0, none⟩) n _ :: rest => match getEvs H k with
    | some l => if n ≤ l.length then (g (l.take n) rest).map fun x => (k < H.next ∧ x.1, .ret (.slice (some ⟨H.next, 0, none⟩) x.2.1 1), H.add (.arr x.2.2.1 x.2.2.2)) else none
    | none => none
  | _ => none
theorem rn_ok {fid : FuncId} {g : RNStep} (h : ∀ (l : List Ev) (n c : Nat) (rest : List Value) (p : Prop) (m : Nat) (t : TypeId) (cs : List Value), n ≤ l.length → g (l.take n) rest = some (p, m, t, cs) → p → grounds rest = true ∧ grounds cs = true ∧
    Runs Tryz.prog cfg fid (.slice (some ⟨0, 0, none⟩) n c :: rest) (AH.of [some (.ro (evs l))]) fun r H' => r = .ret (.slice (some ⟨1, 0, none⟩) m 1) ∧ H' = AH.of [some (.ro (evs l)), some (.arr t cs)]) : CStepOk Tryz.prog cfg fid (rnSt g) := by
  intro args H p r H' he hp
  unfold rnSt at he
  split at he
  case h_2 => cases he
  rename_i k n c rest
  split at he
  case h_2 => cases he
  rename_i l hl
  split at he
  case isFalse => cases he
  rename_i hn
  simp only [Option.map_eq_some_iff] at he
  obtain ⟨⟨p', m, t, cs⟩, h1, h2⟩ := he
  cases h2
  obtain ⟨g1, g2, hr⟩ := h l n c rest p' m t cs hn h1 hp.2
  rcases getEvs_inv hl with hk | ⟨e, hk⟩
  · exact hr.atK (ro_same fun i cs hi => by rcases i with _ | _ | i <;> simp at hi ⊢; exact hi) [k] (by simp) (by simp) (by simp [hk]) (by rw [rens, rens_ground _ _ g1]; simp) (by simp) (by simp [upd_get hk, rens_ground _ _ g2])
  · refine Runs.borrow k hk ?_
    have hk2 : (H.upd k (.ro (evs l))).get k = some (.ro (evs l)) := by rw [AH.get_upd, if_pos rfl]
    have hr2 := hr.atK (H := H.upd k (.ro (evs l))) (args := .slice (some ⟨k, 0, none⟩) n c :: rest) (r' := .ret (.slice (some ⟨H.next, 0, none⟩) m 1)) (H' := (H.upd k (.ro (evs l))).add (.arr t cs)) (ro_same fun i cs hi => by rcases i with _ | _ | i <;> simp at hi ⊢; exact hi) [k] (by simp) (by simp) (by simp [hk2]) (by rw [rens, rens_ground _ _ g1]; simp) (by simp) (by simp [upd_get hk2, rens_ground _ _ g2])
    have hkl : k ≠ H.next := Nat.ne_of_lt hp.1
    refine hr2.mono ?_
    rintro r H' ⟨e1, rfl⟩
    refine ⟨by rw [AH.get_add, AH.next_upd, if_neg hkl, hk2], fun j cs2 hj hcs hne => ⟨cs2, ?_, hne⟩, e1, ?_⟩
    · rw [AH.get_add, AH.next_upd] at hcs
      split at hcs
      · cases hcs
      · rw [AH.get_upd, if_neg hj] at hcs; exact hcs
    · refine AH.ext' (by simp) fun j => ?_
      rw [AH.get_upd, AH.get_add, AH.get_add, AH.next_upd, AH.get_upd]
      by_cases hj : j = k
      · subst hj; rw [if_pos rfl, if_neg hkl, hk]
      · rw [if_neg hj, if_neg hj]
end YtnemoimbeefngaaGreat
end Go.Proofs
/-
  NOREC: what its functions come to.
-/
set_option linter.unusedSimpArgs false
set_option linter.unusedVariables false
set_option linter.unnecessarySimpa false
set_option linter.unusedSectionVars false
namespace Go.Proofs
namespace YtnemoimbeefngaaGreat
open Go.Abs
set_option linter.unusedSimpArgs false

def setT (ts : Nat → Option Att) (th : Nat) (x : Option Att) : Nat → Option Att := fun i => if i = th then x else ts i
theorem setT_self (ts : Nat → Option Att) (th : Nat) (x : Option Att) : setT ts th x th = x := by simp [setT]
theorem setT_other (ts : Nat → Option Att) {th i : Nat} (x : Option Att) (h : i ≠ th) : setT ts th x i = ts i := by simp [setT, h]
theorem setT_setT (ts : Nat → Option Att) (th : Nat) (x y : Option Att) : setT (setT ts th x) th y = setT ts th y := by funext i; simp only [setT]; split <;> rfl

/-- What a step answers. -/
structure Rp where
  done : Bool
  val : Int
  busy : Bool
  owner : Int
  ended : Bool
  why : Int
  err : Int
  deriving DecidableEq
def Rp.cells (r : Rp) : List Value := [.bool r.done, .int .u64 r.val, .bool r.busy, .int .i64 r.owner, .bool r.ended, .int .u8 r.why, .int .i64 r.err]
def Rp.v (r : Rp) : Value := .agg r.cells.toArray
def rpNone : Rp := ⟨false, 0, false, 0, false, 0, 0⟩
def rpErr (e : Int) : Rp := ⟨false, 0, false, 0, false, 0, e⟩
def rpDone (v : Int) : Rp := ⟨true, v, false, 0, false, 0, 0⟩
def rpEnd (why : Int) : Rp := ⟨true, 0, false, 0, true, why, 0⟩
def rpBusy (o : Int) : Rp := ⟨false, 0, true, o, false, 0, 0⟩

/-! The steps -/
def newA (n : Nat) (c : Int) : Att := ⟨n, c, [], [[]], false, ⟨0, 0, 0⟩, 0, 0, 0, 0, 0, false⟩
def beginC (s : NS) (th : Nat) : Int := if (s.ts th).isSome then 8 else if 64 ≤ s.ky.length then 4 else if s.o.isSome then 7 else 0
def beginS (s : NS) (th : Nat) : NS := { s with ts := setT s.ts th (some (newA s.ky.length s.c)), ev := s.ev ++ [⟨1, s.ky.length, 0, 0⟩], ky := s.ky ++ [s.c + 1], wy := s.wy ++ [0] }

def wantC (a : Att) (hl : Nat) (x : Ak) : Int :=
  if x.k = 0 ∨ 7 < x.k then 2
  else if (x.k = 1 ∨ x.k = 2) ∧ (x.t < 0 ∨ (hl : Int) ≤ x.t) then 2
  else if x.k = 2 ∧ rightB x.v = false then 3
  else if a.fs.length = 1 ∧ (x.k = 4 ∨ x.k = 5) then 8
  else if 1 < a.fs.length ∧ x.k = 6 then 8
  else if 5 ≤ a.fs.length ∧ x.k = 3 then 4
  else 0
def askC (s : NS) (th : Nat) (x : Ak) : Int := match s.ts th with
  | none => 8
  | some a => if a.asked then 7 else wantC a s.hp.length x
def askS (s : NS) (th : Nat) (x : Ak) : NS := match s.ts th with
  | none => s
  | some a => { s with ts := setT s.ts th (some { a with asked := true, ra := x, at_ := 0, nx := 0 }) }

def endS (s : NS) (th : Nat) (a : Att) (why : Int) : NS :=
  { o := if s.o = some (th : Int) then none else s.o, c := if s.o = some (th : Int) then s.c - 1 else s.c, hp := s.hp, ts := setT s.ts th none, ev := s.ev ++ [⟨9, a.n, 0, 0⟩], ky := s.ky, wy := s.wy.set a.n why }
def commitS (s : NS) (th : Nat) (a : Att) : NS := { s with ts := setT s.ts th none, ev := s.ev ++ [⟨8, a.n, 0, 0⟩] }
def putA (s : NS) (th : Nat) (a : Att) : NS := { s with ts := setT s.ts th (some a) }
def gotS (s : NS) (th : Nat) (a : Att) (v : Int) : NS := { s with ts := setT s.ts th (some { a with asked := false }), ev := s.ev ++ [⟨2, a.n, a.ra.t, v⟩] }

/-- The frames behind Push, Drop, Merge, Put. -/
def pushF (fs : List (List Pr)) : List (List Pr) := if 5 ≤ fs.length then fs else [] :: fs
def dropF : List (List Pr) → List (List Pr)
  | f :: g :: fs => g :: fs
  | fs => fs
def mergeFs : List (List Pr) → List (List Pr)
  | f :: g :: fs => mergeF g f :: fs
  | fs => fs
def putFs : List (List Pr) → Int → Int → List (List Pr)
  | f :: fs, t, v => putF f ⟨t, v⟩ :: fs
  | [], _, _ => []
def putCs : List (List Pr) → Int → Int → Int
  | f :: fs, t, v => putCode f fs t v
  | [], _, _ => 0

def againS (s : NS) (th : Nat) (a : Att) : Rp × NS :=
  if a.at_ = 4 then match s.o with
    | some o => (rpBusy o, s)
    | none => (rpNone, putA s th { a with seen := s.c, at_ := 5, nx := 0 })
  else if a.at_ = 5 then match a.es[a.nx]? with
    | none => (rpNone, putA s th { a with at_ := 6 })
    | some e => if sameB ((s.hp[e.t.toNat]?).getD 0) e.v then (rpNone, putA s th { a with nx := a.nx + 1 }) else (rpEnd 1, endS s th a 1)
  else if s.c = a.seen then (rpNone, { s with ts := setT s.ts th (some { a with snap := a.seen, at_ := a.back }), ky := s.ky.set a.n (a.seen + 1) })
  else (rpNone, putA s th { a with at_ := 4 })
def readS (s : NS) (th : Nat) (a : Att) : Rp × NS :=
  match getLog a.fs a.ra.t with
  | some v => (rpDone v, gotS s th a v)
  | none =>
    if a.at_ = 0 then (rpNone, putA s th { a with val := (s.hp[a.ra.t.toNat]?).getD 0, at_ := 1 })
    else if s.c = a.snap then (if addCode a.es ⟨a.ra.t, a.val, 0⟩ = 0 then (rpDone a.val, gotS s th { a with es := addL a.es ⟨a.ra.t, a.val, 0⟩ } a.val) else (rpEnd 2, endS s th a 2))
    else (rpNone, putA s th { a with at_ := 4, back := 0 })
def goOnS (s : NS) (th : Nat) (a : Att) : Rp × NS :=
  if a.at_ = 0 then
    (if allL a.fs = [] then (rpEnd 0, commitS { s with ev := s.ev ++ [⟨7, a.n, 0, 0⟩] } th a) else (rpNone, { s with ts := setT s.ts th (some { a with at_ := 1 }), ev := s.ev ++ [⟨7, a.n, 0, 0⟩] }))
  else if a.at_ = 1 then
    (if tryE s.o s.c th a.snap = 0 then (rpNone, { s with o := some (th : Int), c := s.c + 1, ts := setT s.ts th (some { a with dec := true, at_ := 2, nx := 0 }), ky := s.ky.set a.n (a.snap + 2) })
     else if tryE s.o s.c th a.snap = 4 then (rpEnd 2, endS s th a 2)
     else (rpNone, putA s th { a with at_ := 4, back := 1 }))
  else if a.at_ = 2 then match (allL a.fs)[a.nx]? with
    | some p => (rpNone, { s with hp := s.hp.set p.t.toNat p.v, ts := setT s.ts th (some { a with nx := a.nx + 1, at_ := if a.nx + 1 = (allL a.fs).length then 3 else 2 }) })
    | none => (rpNone, s)
  else (rpEnd 0, commitS { s with o := none, c := s.c + 1 } th a)
def turnS (s : NS) (th : Nat) (a : Att) : Rp × NS :=
  if a.ra.k = 3 then (rpDone 0, { s with ts := setT s.ts th (some { a with asked := false, fs := pushF a.fs }), ev := s.ev ++ [⟨4, a.n, 0, 0⟩] })
  else if a.ra.k = 4 then (rpDone 0, { s with ts := setT s.ts th (some { a with asked := false, fs := dropF a.fs }), ev := s.ev ++ [⟨5, a.n, 0, 0⟩] })
  else if a.ra.k = 5 then (rpDone 0, { s with ts := setT s.ts th (some { a with asked := false, fs := mergeFs a.fs }), ev := s.ev ++ [⟨6, a.n, 0, 0⟩] })
  else if putCs a.fs a.ra.t a.ra.v = 0 then (rpDone 0, { s with ts := setT s.ts th (some { a with asked := false, fs := putFs a.fs a.ra.t a.ra.v }), ev := s.ev ++ [⟨3, a.n, a.ra.t, a.ra.v⟩] })
  else (rpEnd 2, endS s th a 2)
def stepS (s : NS) (th : Nat) : Rp × NS := match s.ts th with
  | none => (rpErr 8, s)
  | some a =>
    if a.asked = false then (rpErr 8, s)
    else if 4 ≤ a.at_ then againS s th a
    else if a.ra.k = 7 then (rpEnd 4, endS s th a 4)
    else if a.ra.k = 6 then goOnS s th a
    else if a.ra.k = 1 then readS s th a
    else turnS s th a
def killC (s : NS) (th : Nat) : Int := match s.ts th with
  | none => 8
  | some a => if a.dec then 8 else 0
def killS (s : NS) (th : Nat) : NS := match s.ts th with
  | none => s
  | some a => if a.dec then s else endS s th a 3

/-! What holds of it. -/
structure Att.Ok (a : Att) (s : NS) : Prop where
  n : a.n < s.wy.length
  snap : 0 ≤ a.snap ∧ a.snap ≤ s.c
  es : Good a.es
  est : ∀ e ∈ a.es, e.t < s.hp.length
  fs : GoodLog a.fs
  fst : ∀ f ∈ a.fs, ∀ p ∈ f, 0 ≤ p.t ∧ p.t < s.hp.length ∧ 0 ≤ p.v ∧ p.v < 18446744073709551616
  seen : 0 ≤ a.seen ∧ a.seen ≤ s.c
  val : 0 ≤ a.val ∧ a.val < 18446744073709551616
  at_ : a.at_ ≤ 6
  back : a.back ≤ 1
  nx : a.nx ≤ 100
  ask : a.asked = true → 1 ≤ a.ra.k ∧ a.ra.k ≤ 7 ∧ (a.ra.k = 1 ∨ a.ra.k = 2 → 0 ≤ a.ra.t ∧ a.ra.t < s.hp.length) ∧ 0 ≤ a.ra.v ∧ a.ra.v < 18446744073709551616
  wr : a.asked = true → a.at_ = 2 → a.nx < (allL a.fs).length
  kr : a.asked = true → a.at_ < 4 → a.ra.k = 1 → a.at_ ≤ 1
  ko : a.asked = true → a.ra.k ≠ 1 → a.ra.k ≠ 6 → a.at_ = 0
  kb : a.asked = true → 4 ≤ a.at_ → (a.ra.k = 1 ∧ a.back = 0) ∨ (a.ra.k = 6 ∧ a.back = 1)
  la : a.at_ = 5 → a.nx ≤ a.es.length
  ww : a.asked = true → (a.ra.k = 3 → a.fs.length < 5) ∧ (a.ra.k = 4 ∨ a.ra.k = 5 → 1 < a.fs.length)
  ne : a.asked = true → a.ra.k = 6 → a.at_ ≠ 0 → allL a.fs ≠ []
/-- Who is decided has the lock, and writes. -/
def DecOk (o : Option Int) (th : Nat) (a : Att) : Prop :=
  (a.dec = true → o = some (th : Int) ∧ a.asked = true ∧ a.ra.k = 6 ∧ (a.at_ = 2 ∨ a.at_ = 3)) ∧ (a.asked = true → a.ra.k = 6 → (a.at_ = 2 ∨ a.at_ = 3) → a.dec = true)
structure NS.Ok (s : NS) : Prop where
  hp : 1 ≤ s.hp.length ∧ s.hp.length ≤ 12
  hv : ∀ v ∈ s.hp, 0 ≤ v ∧ v < 18446744073709551616
  c : 0 ≤ s.c ∧ s.c ≤ 1099511627776
  held' : ∀ x, s.o = some x → 1 ≤ s.c ∧ s.c ≤ 1099511627775
  ky : s.ky.length ≤ 64
  kw : s.wy.length = s.ky.length
  ts : ∀ th a, s.ts th = some a → a.Ok s
  own : ∀ x, s.o = some x → ∃ (th : Nat) (a : Att), x = (th : Int) ∧ s.ts th = some a ∧ a.dec = true
  dec : ∀ th a, s.ts th = some a → DecOk s.o th a
  th4 : ∀ th, 4 ≤ th → s.ts th = none
theorem NS.Ok.held {s : NS} (h : s.Ok) : ∀ x, s.o = some x → 1 ≤ s.c := fun x hx => (h.held' x hx).1
end YtnemoimbeefngaaGreat
end Go.Proofs
/-
  NOREC: the threads' map; an engine is opened.
-/
set_option linter.unusedSimpArgs false
set_option linter.unusedVariables false
set_option linter.unnecessarySimpa false
set_option linter.unusedSectionVars false
namespace Go.Proofs
namespace YtnemoimbeefngaaGreat
open Go.Abs
set_option linter.unusedSimpArgs false

/-! Maps by whole numbers, their entries in whatever order. -/
def isI (t : Int) (p : Value × Value) : Bool := match p.1 with
  | .int .i64 n => decide (n = t)
  | _ => false
def IKeys (ps : List (Value × Value)) : Prop := (∀ p ∈ ps, ∃ n : Int, p.1 = .int .i64 n) ∧ (ps.map (·.1)).Nodup
theorem find_int {ps : List (Value × Value)} {es : List MapEntry} {c : Nat} (h : AlikeM ps es c) (hk : IKeys ps) (t : Int) : findIn false (.int .i64 t) es = some ((ps.find? (isI t)).map (·.2)) := by
  have key : ∀ es' : List MapEntry, (∀ e ∈ es', ∃ n : Int, e.key = .int .i64 n) → findIn false (.int .i64 t) es' = some ((es'.find? fun e => isI t (e.key, e.val)).map (·.val)) := by
    intro es'
    induction es' with
    | nil => intro _; rfl
    | cons e es' ih =>
      intro hm
      obtain ⟨n, hn⟩ := hm e (by simp)
      rw [findIn, hn, sameK, List.find?_cons]
      simp only [Bool.false_eq_true, if_false, if_true, isI, hn]
      by_cases ht : t = n
      · simp [ht]
      · have h1 : (t == n) = false := by simpa using ht
        have h2 : decide (n = t) = false := by simpa using fun e => ht e.symm
        rw [h1, h2]
        have := ih fun e he => hm e (by simp [he])
        simpa [isI] using this
  have hes : ∀ e ∈ es, ∃ n : Int, e.key = .int .i64 n := fun e he => hk.1 (e.key, e.val) (h.1.mem_iff.1 (List.mem_map.2 ⟨e, he, rfl⟩))
  rw [key es hes]
  congr 1
  -- the one that is found is the same one
  have hfp : (es.find? fun e => isI t (e.key, e.val)).map (·.val) = ((pairs es).find? (isI t)).map (·.2) := by
    unfold pairs
    rw [List.find?_map]
    cases hx : es.find? (isI t ∘ fun e => (e.key, e.val)) with
    | none =>
      have : es.find? (fun e => isI t (e.key, e.val)) = none := hx
      rw [this]; rfl
    | some e =>
      have : es.find? (fun e => isI t (e.key, e.val)) = some e := hx
      rw [this]; rfl
  rw [hfp]
  have hu : ∀ a b : List (Value × Value), a.Perm b → (∀ p ∈ a, ∃ n : Int, p.1 = .int .i64 n) → (a.map (·.1)).Nodup → (a.find? (isI t)).map (·.2) = (b.find? (isI t)).map (·.2) := by
    intro a b hp
    induction hp with
    | nil => intros; rfl
    | cons x _ ih =>
      intro h1 h2
      simp only [List.map_cons, List.nodup_cons] at h2
      rw [List.find?_cons, List.find?_cons]
      cases isI t x
      · exact ih (fun p hp => h1 p (by simp [hp])) h2.2
      · rfl
    | swap x y l =>
      intro h1 h2
      simp only [List.map_cons, List.nodup_cons, List.mem_cons, not_or] at h2
      rw [List.find?_cons, List.find?_cons, List.find?_cons, List.find?_cons]
      cases hx : isI t x <;> cases hy : isI t y
      · rfl
      · rfl
      · rfl
      · exfalso
        obtain ⟨n, hn⟩ := h1 x (by simp)
        obtain ⟨m, hm⟩ := h1 y (by simp)
        simp only [isI, hn, hm, decide_eq_true_eq] at hx hy
        exact h2.1.1 (by rw [hn, hm, hx, hy])
    | trans p1 _ ih1 ih2 =>
      intro h1 h2
      exact (ih1 h1 h2).trans (ih2 (fun p hp => h1 p (p1.mem_iff.2 hp)) ((p1.map _).nodup_iff.1 h2))
  exact hu _ _ h.1 (fun p hp => hk.1 p (h.1.mem_iff.1 hp)) ((h.1.map _).nodup_iff.2 hk.2)
theorem del_int {es : List MapEntry} {c : Nat} {ps : List (Value × Value)} (h : AlikeM ps es c) (hk : IKeys ps) (t : Int) : ∃ es', delIn false (.int .i64 t) es = some es' ∧ AlikeM (ps.filter fun p => !isI t p) es' c := by
  have key : ∀ es' : List MapEntry, (∀ e ∈ es', ∃ n : Int, e.key = .int .i64 n) → ((pairs es').map (·.1)).Nodup → ∃ es2, delIn false (.int .i64 t) es' = some es2 ∧ pairs es2 = (pairs es').filter (fun p => !isI t p) ∧ (es2.map (·.born)).Sublist (es'.map (·.born)) := by
    intro es'
    induction es' with
    | nil => intro _ _; exact ⟨[], rfl, rfl, .slnil⟩
    | cons e es' ih =>
      intro hm hn
      obtain ⟨n, hk⟩ := hm e (by simp)
      simp only [pairs, List.map_cons, List.nodup_cons] at hn
      obtain ⟨es2, a1, a2, a3⟩ := ih (fun e he => hm e (by simp [he])) hn.2
      rw [delIn, hk, sameK]
      simp only [Bool.false_eq_true, if_false, if_true]
      have hi : isI t (e.key, e.val) = decide (n = t) := by simp [isI, hk]
      by_cases ht : t = n
      · refine ⟨es', by simp [ht], ?_, ?_⟩
        · have h1 : isI t (e.key, e.val) = true := by rw [hi]; simp [ht]
          have h2 : (pairs es').filter (fun p => !isI t p) = pairs es' := by
            rw [List.filter_eq_self]
            intro p hp
            cases hx : isI t p
            · rfl
            · exfalso
              obtain ⟨e', he', rfl⟩ := List.mem_map.1 hp
              obtain ⟨m, hm2⟩ := hm e' (by simp [he'])
              simp only [isI, hm2, decide_eq_true_eq] at hx
              refine hn.1 (List.mem_map.2 ⟨(e'.key, e'.val), hp, ?_⟩)
              rw [hm2, hk, hx, ht]
          show pairs es' = ((e.key, e.val) :: pairs es').filter _
          rw [List.filter_cons, h1]
          simp [h2]
        · exact List.sublist_cons_self _ _
      · have h1 : (t == n) = false := by simpa using ht
        refine ⟨e :: es2, by rw [h1, a1]; rfl, ?_, ?_⟩
        · have h2 : isI t (e.key, e.val) = false := by rw [hi]; simpa using fun e => ht e.symm
          show (e.key, e.val) :: pairs es2 = ((e.key, e.val) :: pairs es').filter _
          rw [List.filter_cons, h2, a2]; rfl
        · exact a3.cons_cons _
  obtain ⟨es', a1, a2, a3⟩ := key es (fun e he => hk.1 (e.key, e.val) (h.1.mem_iff.1 (List.mem_map.2 ⟨e, he, rfl⟩))) ((h.1.map _).nodup_iff.2 hk.2)
  refine ⟨es', a1, by rw [a2]; exact h.1.filter _, a3.nodup h.2.1, fun e he => ?_⟩
  have : e.born ∈ es.map (·.born) := a3.subset (List.mem_map.2 ⟨e, he, rfl⟩)
  obtain ⟨x, hx, hxb⟩ := List.mem_map.1 this
  rw [← hxb]; exact h.2.2 x hx
theorem alike_perm {ps qs : List (Value × Value)} {es : List MapEntry} {c : Nat} (h : AlikeM ps es c) (hp : ps.Perm qs) : AlikeM qs es c := ⟨h.1.trans hp, h.2⟩

/-! The threads -/
theorem tpK_keys (k0 k1 k2 k3 : Nat) (ts : Nat → Option Att) : IKeys (tpK k0 k1 k2 k3 ts) := by
  unfold IKeys tpK
  cases ts 0 <;> cases ts 1 <;> cases ts 2 <;> cases ts 3 <;> simp [tp1]
def tptr (k : Nat) (x : Option Att) : Option Value := x.map fun _ => .pointer (some ⟨k, 0, none⟩)
theorem tp_find0 (k0 k1 k2 k3 : Nat) (ts : Nat → Option Att) : ((tpK k0 k1 k2 k3 ts).find? (isI 0)).map (·.2) = tptr k0 (ts 0) := by
  unfold tpK
  cases ts 0 <;> cases ts 1 <;> cases ts 2 <;> cases ts 3 <;> simp [tp1, isI, tptr]
theorem tp_find1 (k0 k1 k2 k3 : Nat) (ts : Nat → Option Att) : ((tpK k0 k1 k2 k3 ts).find? (isI 1)).map (·.2) = tptr k1 (ts 1) := by
  unfold tpK
  cases ts 0 <;> cases ts 1 <;> cases ts 2 <;> cases ts 3 <;> simp [tp1, isI, tptr]
theorem tp_find2 (k0 k1 k2 k3 : Nat) (ts : Nat → Option Att) : ((tpK k0 k1 k2 k3 ts).find? (isI 2)).map (·.2) = tptr k2 (ts 2) := by
  unfold tpK
  cases ts 0 <;> cases ts 1 <;> cases ts 2 <;> cases ts 3 <;> simp [tp1, isI, tptr]
theorem tp_find3 (k0 k1 k2 k3 : Nat) (ts : Nat → Option Att) : ((tpK k0 k1 k2 k3 ts).find? (isI 3)).map (·.2) = tptr k3 (ts 3) := by
  unfold tpK
  cases ts 0 <;> cases ts 1 <;> cases ts 2 <;> cases ts 3 <;> simp [tp1, isI, tptr]
theorem ren_tp (θ : Nat → Nat) (k0 k1 k2 k3 : Nat) (ts : Nat → Option Att) : renP θ (tpK k0 k1 k2 k3 ts) = tpK (θ k0) (θ k1) (θ k2) (θ k3) ts := by
  unfold tpK
  cases ts 0 <;> cases ts 1 <;> cases ts 2 <;> cases ts 3 <;> simp [tp1, renP, ren]
/-- Of a thread's slot alone something else is said. -/
theorem tpK_put (k0 k1 k2 k3 : Nat) (ts : Nat → Option Att) (th : Nat) {a b : Att} (h : ts th = some a) : tpK k0 k1 k2 k3 (setT ts th (some b)) = tpK k0 k1 k2 k3 ts := by
  have e : ∀ i : Nat, ∀ j : Int, ∀ k : Nat, tp1 j k (setT ts th (some b) i) = tp1 j k (ts i) := fun i j k => by
    by_cases hi : i = th
    · subst hi; rw [setT_self, h]; rfl
    · rw [setT_other _ _ hi]
  unfold tpK
  rw [e, e, e, e]
theorem tpK_del (k0 k1 k2 k3 : Nat) (ts : Nat → Option Att) {th : Nat} (hth : th < 4) : (tpK k0 k1 k2 k3 ts).filter (fun p => !isI (th : Int) p) = tpK k0 k1 k2 k3 (setT ts th none) := by
  have h : th = 0 ∨ th = 1 ∨ th = 2 ∨ th = 3 := by omega
  unfold tpK
  rcases h with rfl | rfl | rfl | rfl <;> simp only [setT] <;> cases ts 0 <;> cases ts 1 <;> cases ts 2 <;> cases ts 3 <;> simp [tp1, isI]
theorem tpK_add0 (k k0 k1 k2 k3 : Nat) (ts : Nat → Option Att) (h : ts 0 = none) (a : Att) : (tpK k0 k1 k2 k3 ts ++ [((.int .i64 0 : Value), (.pointer (some ⟨k, 0, none⟩) : Value))]).Perm (tpK k k1 k2 k3 (setT ts 0 (some a))) := by
  have e : tpK k k1 k2 k3 (setT ts 0 (some a)) = [((.int .i64 0 : Value), (.pointer (some ⟨k, 0, none⟩) : Value))] ++ tpK k0 k1 k2 k3 ts := by simp [tpK, setT, tp1, h]
  rw [e]; exact List.perm_append_comm
theorem tpK_add1 (k k0 k1 k2 k3 : Nat) (ts : Nat → Option Att) (h : ts 1 = none) (a : Att) : (tpK k0 k1 k2 k3 ts ++ [((.int .i64 1 : Value), (.pointer (some ⟨k, 0, none⟩) : Value))]).Perm (tpK k0 k k2 k3 (setT ts 1 (some a))) := by
  have e1 : tpK k0 k1 k2 k3 ts = tp1 0 k0 (ts 0) ++ (tp1 2 k2 (ts 2) ++ tp1 3 k3 (ts 3)) := by simp [tpK, tp1, h]
  have e2 : tpK k0 k k2 k3 (setT ts 1 (some a)) = tp1 0 k0 (ts 0) ++ ([((.int .i64 1 : Value), (.pointer (some ⟨k, 0, none⟩) : Value))] ++ (tp1 2 k2 (ts 2) ++ tp1 3 k3 (ts 3))) := by simp [tpK, setT, tp1]
  rw [e1, e2, List.append_assoc]
  exact List.Perm.append_left _ List.perm_append_comm
theorem tpK_add2 (k k0 k1 k2 k3 : Nat) (ts : Nat → Option Att) (h : ts 2 = none) (a : Att) : (tpK k0 k1 k2 k3 ts ++ [((.int .i64 2 : Value), (.pointer (some ⟨k, 0, none⟩) : Value))]).Perm (tpK k0 k1 k k3 (setT ts 2 (some a))) := by
  have e1 : tpK k0 k1 k2 k3 ts = (tp1 0 k0 (ts 0) ++ tp1 1 k1 (ts 1)) ++ tp1 3 k3 (ts 3) := by simp [tpK, tp1, h]
  have e2 : tpK k0 k1 k k3 (setT ts 2 (some a)) = (tp1 0 k0 (ts 0) ++ tp1 1 k1 (ts 1)) ++ ([((.int .i64 2 : Value), (.pointer (some ⟨k, 0, none⟩) : Value))] ++ tp1 3 k3 (ts 3)) := by simp [tpK, setT, tp1]
  rw [e1, e2, List.append_assoc]
  exact List.Perm.append_left _ List.perm_append_comm
theorem tpK_add3 (k k0 k1 k2 k3 : Nat) (ts : Nat → Option Att) (h : ts 3 = none) (a : Att) : (tpK k0 k1 k2 k3 ts ++ [((.int .i64 3 : Value), (.pointer (some ⟨k, 0, none⟩) : Value))]).Perm (tpK k0 k1 k2 k (setT ts 3 (some a))) := by
  have e : tpK k0 k1 k2 k (setT ts 3 (some a)) = tpK k0 k1 k2 k3 ts ++ [((.int .i64 3 : Value), (.pointer (some ⟨k, 0, none⟩) : Value))] := by simp [tpK, setT, tp1, h]
  rw [e]
theorem slotO_some (a : Att) : slotO (some a) = .hi (.att a) := rfl
theorem slotO_none : slotO none = .arr 100 [] := rfl
theorem ren_slotO (θ : Nat → Nat) (x : Option Att) : (slotO x).ren θ = slotO x := by cases x <;> simp [slotO, ren_hi, ren_arr, rens]
theorem mine_slotO (x : Option Att) : (slotO x).mine = true := by cases x <;> rfl
theorem leO_slotO (x : Option Att) : leO (slotO x) (slotO x) = True := eq_true (leO_refl _)
theorem u8s_ground (l : List Int) : grounds (u8s l) = true := by
  induction l with
  | nil => rfl
  | cons e l ih =>
    show grounds (.int .u8 e :: u8s l) = true
    simp [grounds, ground, ih]
theorem ren_u8s (θ : Nat → Nat) (l : List Int) : rens θ (u8s l) = u8s l := rens_ground θ _ (u8s_ground l)
theorem u8s_length (l : List Int) : (u8s l).length = l.length := by simp [u8s]
theorem u8s_append (a b : List Int) : u8s (a ++ b) = u8s a ++ u8s b := by simp [u8s]
theorem u8s_set (h : List Int) (i : Nat) (v : Int) : (u8s h).set i (.int .u8 v) = u8s (h.set i v) := by simp [u8s, List.map_set]
theorem take_u8s (l : List Int) : (u8s l).take l.length = u8s l := List.take_of_length_le (by simp [u8s])
theorem u8s_one (v : Int) : u8s [v] = [.int .u8 v] := rfl
theorem mine_arr (e : TypeId) (cs : List Value) : (AObj.arr e cs : AObj GD).mine = true := rfl
theorem mine_hi (d : GD) : (AObj.hi d).mine = true := rfl
theorem mine_map (es : List MapEntry) (c : Nat) : (AObj.map es c : AObj GD).mine = true := rfl
theorem mine_mapq (ps : List (Value × Value)) : (AObj.mapq ps : AObj GD).mine = true := rfl
attribute [simp] mine_arr mine_hi mine_map mine_mapq ren_slotO mine_slotO leO_slotO ren_evs ren_u8s ren_tp

/-! An engine, opened: the threads' map in some order; one thread's slot ahead of the others. -/
def o1 (th : Nat) : Nat := if th = 0 then 1 else 0
def o2 (th : Nat) : Nat := if th ≤ 1 then 2 else 1
def o3 (th : Nat) : Nat := if th ≤ 2 then 3 else 2
def tpF (th : Nat) (ts : Nat → Option Att) : List (Value × Value) := match th with
  | 0 => tpK 7 8 9 10 ts
  | 1 => tpK 8 7 9 10 ts
  | 2 => tpK 8 9 7 10 ts
  | _ => tpK 8 9 10 7 ts
def engL (s : NS) (th : Nat) (es : List MapEntry) (cc : Nat) : List (Option (AObj GD)) :=
  [some (.arr 90 [.pointer (some ⟨1, 0, none⟩), .slice (some ⟨2, 0, none⟩) s.hp.length 1, .map (some 3), .slice (some ⟨4, 0, none⟩) s.ev.length 1, .slice (some ⟨5, 0, none⟩) s.ky.length 1, .slice (some ⟨6, 0, none⟩) s.wy.length 1]),
    some (.hi (.lk s.o s.c)), some (.arr 49 (us s.hp)), some (.map es cc), some (.arr 84 (evs s.ev)), some (.arr 38 (us s.ky)), some (.arr 61 (u8s s.wy)), some (slotO (s.ts th)), some (slotO (s.ts (o1 th))), some (slotO (s.ts (o2 th))), some (slotO (s.ts (o3 th)))]
theorem th_cases {th : Nat} (h : th < 4) : th = 0 ∨ th = 1 ∨ th = 2 ∨ th = 3 := by omega
theorem Runs.openEng {f : FuncId} {args : List Value} {K : AEnd → AH GD → Prop} {s : NS} {th : Nat} (hth : th < 4)
    (h : ∀ es cc, AlikeM (tpF th s.ts) es cc → Runs Tryz.prog cfg f args (AH.of (engL s th es cc)) K) : Runs Tryz.prog cfg f args (AH.of [some (.hi (.eng s))]) K := by
  have e : openK frag (AH.of [some (.hi (.eng s))]) 0 = some (AH.of [some (.arr 90 [.pointer (some ⟨1, 0, none⟩), .slice (some ⟨2, 0, none⟩) s.hp.length 1, .map (some 3), .slice (some ⟨4, 0, none⟩) s.ev.length 1, .slice (some ⟨5, 0, none⟩) s.ky.length 1, .slice (some ⟨6, 0, none⟩) s.wy.length 1]),
    some (.hi (.lk s.o s.c)), some (.arr 49 (us s.hp)), some (.mapq (tpK 7 8 9 10 s.ts)), some (.arr 84 (evs s.ev)), some (.arr 38 (us s.ky)), some (.arr 61 (u8s s.wy)), some (slotO (s.ts 0)), some (slotO (s.ts 1)), some (slotO (s.ts 2)), some (slotO (s.ts 3))]) := by
    simp [frag_eng]
  have see : SeesG Tryz.prog cfg (AH.of [some (.hi (.eng s))]) (AH.of ([some (.arr 90 [.pointer (some ⟨1, 0, none⟩), .slice (some ⟨2, 0, none⟩) s.hp.length 1, .map (some 3), .slice (some ⟨4, 0, none⟩) s.ev.length 1, .slice (some ⟨5, 0, none⟩) s.ky.length 1, .slice (some ⟨6, 0, none⟩) s.wy.length 1]),
    some (.hi (.lk s.o s.c)), some (.arr 49 (us s.hp)), some (.mapq (tpF th s.ts)), some (.arr 84 (evs s.ev)), some (.arr 38 (us s.ky)), some (.arr 61 (u8s s.wy)), some (slotO (s.ts th)), some (slotO (s.ts (o1 th))), some (slotO (s.ts (o2 th))), some (slotO (s.ts (o3 th)))])) := by
    rcases th_cases hth with rfl | rfl | rfl | rfl
    · exact (openK_ok e).names (ks := [0, 1, 2, 3, 4, 5, 6, 7, 8, 9, 10]) (by simp [tpF, o1, o2, o3])
    · exact (openK_ok e).names (ks := [0, 1, 2, 3, 4, 5, 6, 8, 7, 9, 10]) (by simp [tpF, o1, o2, o3])
    · exact (openK_ok e).names (ks := [0, 1, 2, 3, 4, 5, 6, 9, 7, 8, 10]) (by simp [tpF, o1, o2, o3])
    · exact (openK_ok e).names (ks := [0, 1, 2, 3, 4, 5, 6, 10, 7, 8, 9]) (by simp [tpF, o1, o2, o3])
  refine Runs.seesG see (Runs.expose 3 (ps := tpF th s.ts) rfl fun es cc hes => ?_)
  have := h es cc hes
  rw [of_upd _ _ _ (by simp)]
  exact this
theorem tpF_keys (th : Nat) (ts : Nat → Option Att) : IKeys (tpF th ts) := by
  unfold tpF
  split <;> exact tpK_keys _ _ _ _ _
/-- The map finds the thread's slot. -/
theorem find_th {s : NS} {th : Nat} (hth : th < 4) {es : List MapEntry} {cc : Nat} (h : AlikeM (tpF th s.ts) es cc) : findIn false (.int .i64 th) es = some (tptr 7 (s.ts th)) := by
  rw [find_int h (tpF_keys _ _)]
  rcases th_cases hth with rfl | rfl | rfl | rfl
  · exact congrArg some (tp_find0 _ _ _ _ _)
  · exact congrArg some (tp_find1 _ _ _ _ _)
  · exact congrArg some (tp_find2 _ _ _ _ _)
  · exact congrArg some (tp_find3 _ _ _ _ _)
theorem tpF_put (th : Nat) (ts : Nat → Option Att) {a b : Att} (h : ts th = some a) : tpF th (setT ts th (some b)) = tpF th ts := by
  unfold tpF
  split <;> exact tpK_put _ _ _ _ _ _ h
theorem del_th {s : NS} {th : Nat} (hth : th < 4) {es : List MapEntry} {cc : Nat} (h : AlikeM (tpF th s.ts) es cc) : ∃ es', delIn false (.int .i64 th) es = some es' ∧ AlikeM (tpF th (setT s.ts th none)) es' cc := by
  obtain ⟨es', h1, h2⟩ := del_int h (tpF_keys _ _) th
  refine ⟨es', h1, ?_⟩
  have e : (tpF th s.ts).filter (fun p => !isI (th : Int) p) = tpF th (setT s.ts th none) := by
    unfold tpF
    split <;> exact tpK_del _ _ _ _ _ hth
  rwa [e] at h2
/-- A thread's new slot, under another key. -/
def tpG (th k : Nat) (ts : Nat → Option Att) : List (Value × Value) := match th with
  | 0 => tpK k 8 9 10 ts
  | 1 => tpK 8 k 9 10 ts
  | 2 => tpK 8 9 k 10 ts
  | _ => tpK 8 9 10 k ts
theorem put_th {s : NS} {th : Nat} (hth : th < 4) {es : List MapEntry} {cc : Nat} (h : AlikeM (tpF th s.ts) es cc) (hn : s.ts th = none) (k : Nat) (a : Att) :
    putIn false (.int .i64 th) (.pointer (some ⟨k, 0, none⟩)) cc es = some (es ++ [⟨.int .i64 th, .pointer (some ⟨k, 0, none⟩), cc⟩], cc + 1) ∧ AlikeM (tpG th k (setT s.ts th (some a))) (es ++ [⟨.int .i64 th, .pointer (some ⟨k, 0, none⟩), cc⟩]) (cc + 1) := by
  refine ⟨put_new (by rw [find_th hth h, hn]; rfl), alike_perm (h.add _ _) ?_⟩
  rcases th_cases hth with rfl | rfl | rfl | rfl
  · exact tpK_add0 k 7 8 9 10 s.ts hn a
  · exact tpK_add1 k 8 7 9 10 s.ts hn a
  · exact tpK_add2 k 8 9 7 10 s.ts hn a
  · exact tpK_add3 k 8 9 10 7 s.ts hn a
theorem tpG_7 (th : Nat) (ts : Nat → Option Att) : tpG th 7 ts = tpF th ts := by unfold tpG tpF; split <;> rfl
end YtnemoimbeefngaaGreat
end Go.Proofs
/-
  NOREC: Begin.
-/
set_option linter.unusedSimpArgs false
set_option linter.unusedVariables false
set_option linter.unnecessarySimpa false
set_option linter.unusedSectionVars false
namespace Go.Proofs
namespace YtnemoimbeefngaaGreat
open Go.Abs
set_option linter.unusedSimpArgs false

def tblB : List (FuncId × CStep GD) := [(80, dataSt d80), (81, st81), (82, st82)]
theorem tblB_ok : ∀ x ∈ tblB, CStepOk Tryz.prog cfg x.1 x.2 := by simp [tblB, st80_ok, st81_ok, st82_ok]
theorem begin_ok {s : NS} {th : Nat} (h : beginC s th = 0) : s.ts th = none ∧ s.ky.length < 64 ∧ s.o = none := by
  unfold beginC at h
  split at h
  · cases h
  · split at h
    · cases h
    · split at h
      · cases h
      · refine ⟨?_, by omega, ?_⟩
        · cases hx : s.ts th
          · rfl
          · simp_all
        · cases hx : s.o
          · rfl
          · simp_all
set_option maxHeartbeats 4000000 in
theorem runs_begin (s : NS) (hs : s.Ok) (hev : s.ev.length ≤ 100000) (th : Nat) (hth : th < 4) (hc : beginC s th = 0) : Runs Tryz.prog cfg 24 [.pointer (some ⟨0, 0, none⟩), .int .i64 th] (AH.of [some (.hi (.eng s))])
    fun r H' => r = .ret (.tuple #[.int .i64 s.ky.length, .int .i64 0]) ∧ H' = AH.of [some (.hi (.eng (beginS s th)))] := by
  refine Runs.ends ?_
  obtain ⟨h1, h2, h3⟩ := begin_ok hc
  refine Runs.openEng hth fun es cc hes => ?_
  have ft := find_th hth hes
  have z1 : ¬ (th : Int) < 0 := by omega
  have z2 : ¬ 4 ≤ (th : Int) := by omega
  obtain ⟨hput, hadd⟩ := put_th hth hes h1 13 (newA s.ky.length s.c)
  have hcr := hs.c
  have hw : IntKind.u64.wrap (s.c + 1) = s.c + 1 := wrap_u64 (by omega) (by omega)
  have hk1 : ¬ (64 : Int) ≤ s.ky.length := by omega
  have hkl : (s.ky.length + 1) * 8 ≤ 140737488355328 ∧ s.ky.length ≤ 9223372036854775806 := by omega
  have hwl : (s.wy.length + 1) ≤ 140737488355328 ∧ s.wy.length ≤ 9223372036854775806 := by have := hs.kw; omega
  have hel : (s.ev.length + 1) * 32 ≤ 140737488355328 ∧ s.ev.length ≤ 9223372036854775806 := by omega
  have t1 := take_us s.ky
  have t2 := take_u8s s.wy
  have t3 := take_evs s.ev
  have hpe := hs.kw
  refine runs_by (tbl := tblB) tblB_ok 0 3 (af := a24) rfl ?_
  rw [a24, b24, run_eq]
  refine ⟨by simp, ?_⟩
  simp (implicitDefEqProofs := false) [engL, tblB, dataSt, d80, st81, st82, forms79, a79, b79, forms83, a83, b83, z1, z2, h1, h2, h3, ft, tptr, snapR, hk1, hw, hkl, hwl, hel, t1, t2, t3, hput, us_length, u8s_length, evs_length]
  rcases th_cases hth with rfl | rfl | rfl | rfl
  · refine ends_plan [.pack (GD.att (newA s.ky.length s.c)) 13 [11, 12], .pack (GD.eng (beginS s 0)) 0 [1, 2, 3, 20, 15, 17, 13, 8, 9, 10]] [0] ?_ ?_ ?_ <;> simp [frag_att, frag_eng, newA, Att.ask, beginS, setT, slotO_some, us_append, us_one, u8s_append, u8s_one, evs_append, evs_single, h3, hpe, o1, o2, o3] <;> exact hadd
  · refine ends_plan [.pack (GD.att (newA s.ky.length s.c)) 13 [11, 12], .pack (GD.eng (beginS s 1)) 0 [1, 2, 3, 20, 15, 17, 8, 13, 9, 10]] [0] ?_ ?_ ?_ <;> simp [frag_att, frag_eng, newA, Att.ask, beginS, setT, slotO_some, us_append, us_one, u8s_append, u8s_one, evs_append, evs_single, h3, hpe, o1, o2, o3] <;> exact hadd
  · refine ends_plan [.pack (GD.att (newA s.ky.length s.c)) 13 [11, 12], .pack (GD.eng (beginS s 2)) 0 [1, 2, 3, 20, 15, 17, 8, 9, 13, 10]] [0] ?_ ?_ ?_ <;> simp [frag_att, frag_eng, newA, Att.ask, beginS, setT, slotO_some, us_append, us_one, u8s_append, u8s_one, evs_append, evs_single, h3, hpe, o1, o2, o3] <;> exact hadd
  · refine ends_plan [.pack (GD.att (newA s.ky.length s.c)) 13 [11, 12], .pack (GD.eng (beginS s 3)) 0 [1, 2, 3, 20, 15, 17, 8, 9, 10, 13]] [0] ?_ ?_ ?_ <;> simp [frag_att, frag_eng, newA, Att.ask, beginS, setT, slotO_some, us_append, us_one, u8s_append, u8s_one, evs_append, evs_single, h3, hpe, o1, o2, o3] <;> exact hadd
def tblB1 : List (FuncId × CStep GD) := [(80, dataSt d80)]
theorem tblB1_ok : ∀ x ∈ tblB1, CStepOk Tryz.prog cfg x.1 x.2 := by simp [tblB1, st80_ok]
set_option maxHeartbeats 4000000 in
theorem runs_begin_no (s : NS) (hs : s.Ok) (th : Nat) (hth : th < 4) (hc : beginC s th ≠ 0) : Runs Tryz.prog cfg 24 [.pointer (some ⟨0, 0, none⟩), .int .i64 th] (AH.of [some (.hi (.eng s))])
    fun r H' => r = .ret (.tuple #[.int .i64 0, .int .i64 (beginC s th)]) ∧ H' = AH.of [some (.hi (.eng s))] := by
  refine Runs.ends ?_
  refine Runs.openEng hth fun es cc hes => ?_
  have ft := find_th hth hes
  have z1 : ¬ (th : Int) < 0 := by omega
  have z2 : ¬ 4 ≤ (th : Int) := by omega
  unfold beginC at hc ⊢
  cases h1 : s.ts th with
  | some a =>
    refine runs_by (tbl := tblB1) tblB1_ok 0 3 (af := a24) rfl ?_
    rw [a24, b24, run_eq]
    refine ⟨by simp, ?_⟩
    simp (implicitDefEqProofs := false) [engL, forms79, a79, b79, z1, z2, h1, ft, tptr]
    rcases th_cases hth with rfl | rfl | rfl | rfl
    · refine ends_plan [.pack (GD.eng s) 0 [1, 2, 3, 4, 5, 6, 7, 8, 9, 10]] [0] ?_ ?_ ?_ <;> simp [frag_eng, h1, o1, o2, o3] <;> exact hes
    · refine ends_plan [.pack (GD.eng s) 0 [1, 2, 3, 4, 5, 6, 8, 7, 9, 10]] [0] ?_ ?_ ?_ <;> simp [frag_eng, h1, o1, o2, o3] <;> exact hes
    · refine ends_plan [.pack (GD.eng s) 0 [1, 2, 3, 4, 5, 6, 8, 9, 7, 10]] [0] ?_ ?_ ?_ <;> simp [frag_eng, h1, o1, o2, o3] <;> exact hes
    · refine ends_plan [.pack (GD.eng s) 0 [1, 2, 3, 4, 5, 6, 8, 9, 10, 7]] [0] ?_ ?_ ?_ <;> simp [frag_eng, h1, o1, o2, o3] <;> exact hes
  | none =>
    by_cases h2 : 64 ≤ s.ky.length
    · have h2' : (64 : Int) ≤ s.ky.length := by omega
      refine runs_by (tbl := tblB1) tblB1_ok 0 3 (af := a24) rfl ?_
      rw [a24, b24, run_eq]
      refine ⟨by simp, ?_⟩
      simp (implicitDefEqProofs := false) [engL, forms79, a79, b79, z1, z2, h1, ft, tptr, h2, h2']
      rcases th_cases hth with rfl | rfl | rfl | rfl
      · refine ends_plan [.pack (GD.eng s) 0 [1, 2, 3, 4, 5, 6, 7, 8, 9, 10]] [0] ?_ ?_ ?_ <;> simp [frag_eng, h1, o1, o2, o3] <;> exact hes
      · refine ends_plan [.pack (GD.eng s) 0 [1, 2, 3, 4, 5, 6, 8, 7, 9, 10]] [0] ?_ ?_ ?_ <;> simp [frag_eng, h1, o1, o2, o3] <;> exact hes
      · refine ends_plan [.pack (GD.eng s) 0 [1, 2, 3, 4, 5, 6, 8, 9, 7, 10]] [0] ?_ ?_ ?_ <;> simp [frag_eng, h1, o1, o2, o3] <;> exact hes
      · refine ends_plan [.pack (GD.eng s) 0 [1, 2, 3, 4, 5, 6, 8, 9, 10, 7]] [0] ?_ ?_ ?_ <;> simp [frag_eng, h1, o1, o2, o3] <;> exact hes
    · have h2' : ¬ (64 : Int) ≤ s.ky.length := by omega
      cases h3 : s.o with
      | none => simp [h1, h2, h3] at hc
      | some x =>
        refine runs_by (tbl := tblB1) tblB1_ok 0 3 (af := a24) rfl ?_
        rw [a24, b24, run_eq]
        refine ⟨by simp, ?_⟩
        simp (implicitDefEqProofs := false) [engL, tblB1, dataSt, d80, forms79, a79, b79, z1, z2, h1, ft, tptr, h2, h2', h3, snapR]
        rcases th_cases hth with rfl | rfl | rfl | rfl
        · refine ends_plan [.pack (GD.eng s) 0 [1, 2, 3, 4, 5, 6, 7, 8, 9, 10]] [0] ?_ ?_ ?_ <;> simp [frag_eng, h1, h3, o1, o2, o3] <;> exact hes
        · refine ends_plan [.pack (GD.eng s) 0 [1, 2, 3, 4, 5, 6, 8, 7, 9, 10]] [0] ?_ ?_ ?_ <;> simp [frag_eng, h1, h3, o1, o2, o3] <;> exact hes
        · refine ends_plan [.pack (GD.eng s) 0 [1, 2, 3, 4, 5, 6, 8, 9, 7, 10]] [0] ?_ ?_ ?_ <;> simp [frag_eng, h1, h3, o1, o2, o3] <;> exact hes
        · refine ends_plan [.pack (GD.eng s) 0 [1, 2, 3, 4, 5, 6, 8, 9, 10, 7]] [0] ?_ ?_ ?_ <;> simp [frag_eng, h1, h3, o1, o2, o3] <;> exact hes
theorem runs_begin_range (d : GD) (t : Int) (ht : t < 0 ∨ 4 ≤ t) : Runs Tryz.prog cfg 24 [.pointer (some ⟨0, 0, none⟩), .int .i64 t] (AH.of [some (.hi d)])
    fun r H' => r = .ret (.tuple #[.int .i64 0, .int .i64 2]) ∧ H' = AH.of [some (.hi d)] := by
  refine Runs.ends ?_
  have ht' : ¬ t < 0 → 4 ≤ t := fun h => by omega
  refine runs_by (tbl := []) (by simp) 0 3 (af := a24) rfl ?_
  rw [a24, b24, run_eq]
  refine ⟨by simp, ?_⟩
  by_cases h1 : t < 0
  · simp (implicitDefEqProofs := false) [forms79, a79, b79, h1]
    refine ends_plan [] [0] ?_ ?_ ?_ <;> simp
  · simp (implicitDefEqProofs := false) [forms79, a79, b79, h1, ht' h1]
    refine ends_plan [] [0] ?_ ?_ ?_ <;> simp
/-- A thread's number. -/
def thOf (t : Int) : Option Nat := if t < 0 ∨ 4 ≤ t then none else some t.toNat
theorem thOf_none {t : Int} (h : thOf t = none) : t < 0 ∨ 4 ≤ t := by
  unfold thOf at h
  split at h
  · assumption
  · cases h
theorem thOf_some {t : Int} {th : Nat} (h : thOf t = some th) : th < 4 ∧ t = (th : Int) := by
  unfold thOf at h
  split at h
  · cases h
  · cases h; omega
def beginR (s : NS) (t : Int) : Value := match thOf t with
  | none => .tuple #[.int .i64 0, .int .i64 2]
  | some th => if beginC s th = 0 then .tuple #[.int .i64 s.ky.length, .int .i64 0] else .tuple #[.int .i64 0, .int .i64 (beginC s th)]
def beginX (s : NS) (t : Int) : NS := match thOf t with
  | none => s
  | some th => if beginC s th = 0 then beginS s th else s
def d24 : DStep
  | .eng s, [.int .i64 t] => some (s.Ok ∧ s.ev.length ≤ 100000, beginR s t, .eng (beginX s t))
  | _, _ => none
theorem st24_ok : CStepOk Tryz.prog cfg 24 (dataSt d24) := data_ok fun d rest p v d' h hp => by
  unfold d24 at h
  split at h
  case h_2 => cases h
  rename_i s t
  cases h
  cases ht : thOf t with
  | none => simp only [beginR, beginX, ht]; exact ⟨rfl, rfl, runs_begin_range _ _ (thOf_none ht)⟩
  | some th =>
    obtain ⟨h1, rfl⟩ := thOf_some ht
    simp only [beginR, beginX, ht]
    by_cases hc : beginC s th = 0
    · rw [if_pos hc, if_pos hc]; exact ⟨rfl, rfl, runs_begin s hp.1 hp.2 th h1 hc⟩
    · rw [if_neg hc, if_neg hc]; exact ⟨rfl, rfl, runs_begin_no s hp.1 th h1 hc⟩
end YtnemoimbeefngaaGreat
end Go.Proofs
/-
  NOREC: Ask. (Printed by tools/genask.py.)
-/
set_option linter.unusedSimpArgs false
set_option linter.unusedVariables false
set_option linter.unnecessarySimpa false
set_option linter.unusedSectionVars false
namespace Go.Proofs
namespace YtnemoimbeefngaaGreat
open Go.Abs
set_option linter.unusedSimpArgs false

def tblW : List (FuncId × CStep GD) := [(132, dataSt d132), (96, st96)]
theorem tblW_ok : ∀ x ∈ tblW, CStepOk Tryz.prog cfg x.1 x.2 := by simp [tblW, st132_ok, st96_ok]
theorem ask_cells (a : Att) (h : a.asked = false) : a.ask = ⟨0, 0, 0⟩ := by simp [Att.ask, h]
theorem ask_cells1 (a : Att) (h : a.asked = true) : a.ask = a.ra := by simp [Att.ask, h]
theorem true3 {p : Prop} (h : p) : p = True := eq_true h
theorem att_eta (a : Att) : (⟨a.n, a.snap, a.es, a.fs, a.asked, a.ra, a.at_, a.back, a.nx, a.seen, a.val, a.dec⟩ : Att) = a := rfl
set_option maxRecDepth 10000 in
set_option maxHeartbeats 4000000 in
theorem ask_0 (s : NS) (hs : s.Ok) (th : Nat) (hth : th < 4) (a : Att) (ha : s.ts th = some a) (hf : a.asked = false) (t v : Int) : Runs Tryz.prog cfg 27 [.pointer (some ⟨0, 0, none⟩), .int .i64 th, .agg #[.int .u8 0, .int .i64 t, .int .u64 v]] (AH.of [some (.hi (.eng s))])
    fun r H' => r = .ret (.int .i64 2) ∧ H' = AH.of [some (.hi (.eng s))] := by
  refine Runs.ends ?_
  refine Runs.openEng hth fun es cc hes => ?_
  have ft := find_th hth hes
  have z1 : ¬ (th : Int) < 0 := by omega
  have z2 : ¬ 4 ≤ (th : Int) := by omega
  have hac := ask_cells a hf
  obtain ⟨dp, hdp⟩ : ∃ dp, (a.fs.length : Int) - 1 = dp := ⟨_, rfl⟩
  refine runs_by (tbl := tblW) tblW_ok 0 3 (af := a27) rfl ?_
  rw [a27, b27, run_eq]
  refine ⟨by simp, ?_⟩
  simp (implicitDefEqProofs := false) [engL, tblW, dataSt, d132, st96, forms79, a79, b79, forms84, a84, b84, z1, z2, ha, ft, tptr, slotO_some, frag_att, hac, hdp, ]
  rcases th_cases hth with rfl | rfl | rfl | rfl
  · refine ends_plan [.pack (GD.att a) 7 [12, 13], .pack (GD.eng s) 0 [1, 2, 3, 4, 5, 6, 7, 8, 9, 10]] [0] ?_ ?_ ?_ <;> simp [frag_att, frag_eng, hac, ha, slotO_some, hdp, o1, o2, o3] <;> exact hes
  · refine ends_plan [.pack (GD.att a) 7 [12, 13], .pack (GD.eng s) 0 [1, 2, 3, 4, 5, 6, 8, 7, 9, 10]] [0] ?_ ?_ ?_ <;> simp [frag_att, frag_eng, hac, ha, slotO_some, hdp, o1, o2, o3] <;> exact hes
  · refine ends_plan [.pack (GD.att a) 7 [12, 13], .pack (GD.eng s) 0 [1, 2, 3, 4, 5, 6, 8, 9, 7, 10]] [0] ?_ ?_ ?_ <;> simp [frag_att, frag_eng, hac, ha, slotO_some, hdp, o1, o2, o3] <;> exact hes
  · refine ends_plan [.pack (GD.att a) 7 [12, 13], .pack (GD.eng s) 0 [1, 2, 3, 4, 5, 6, 8, 9, 10, 7]] [0] ?_ ?_ ?_ <;> simp [frag_att, frag_eng, hac, ha, slotO_some, hdp, o1, o2, o3] <;> exact hes
set_option maxRecDepth 10000 in
set_option maxHeartbeats 4000000 in
theorem ask_9 (s : NS) (hs : s.Ok) (th : Nat) (hth : th < 4) (a : Att) (ha : s.ts th = some a) (hf : a.asked = false) (k : Int) (hk : 7 < k) (t v : Int) : Runs Tryz.prog cfg 27 [.pointer (some ⟨0, 0, none⟩), .int .i64 th, .agg #[.int .u8 k, .int .i64 t, .int .u64 v]] (AH.of [some (.hi (.eng s))])
    fun r H' => r = .ret (.int .i64 2) ∧ H' = AH.of [some (.hi (.eng s))] := by
  refine Runs.ends ?_
  refine Runs.openEng hth fun es cc hes => ?_
  have ft := find_th hth hes
  have z1 : ¬ (th : Int) < 0 := by omega
  have z2 : ¬ 4 ≤ (th : Int) := by omega
  have hac := ask_cells a hf
  obtain ⟨dp, hdp⟩ : ∃ dp, (a.fs.length : Int) - 1 = dp := ⟨_, rfl⟩
  have k0 : ¬ k = 0 := by omega
  have k1 : ¬ k = 1 := by omega
  have k2 : ¬ k = 2 := by omega
  have k7 : 7 < k := hk
  clear hk
  refine runs_by (tbl := tblW) tblW_ok 0 3 (af := a27) rfl ?_
  rw [a27, b27, run_eq]
  refine ⟨by simp, ?_⟩
  simp (implicitDefEqProofs := false) [engL, tblW, dataSt, d132, st96, forms79, a79, b79, forms84, a84, b84, z1, z2, ha, ft, tptr, slotO_some, frag_att, hac, hdp, k0, k1, k2, k7]
  rcases th_cases hth with rfl | rfl | rfl | rfl
  · refine ends_plan [.pack (GD.att a) 7 [12, 13], .pack (GD.eng s) 0 [1, 2, 3, 4, 5, 6, 7, 8, 9, 10]] [0] ?_ ?_ ?_ <;> simp [frag_att, frag_eng, hac, ha, slotO_some, hdp, o1, o2, o3] <;> exact hes
  · refine ends_plan [.pack (GD.att a) 7 [12, 13], .pack (GD.eng s) 0 [1, 2, 3, 4, 5, 6, 8, 7, 9, 10]] [0] ?_ ?_ ?_ <;> simp [frag_att, frag_eng, hac, ha, slotO_some, hdp, o1, o2, o3] <;> exact hes
  · refine ends_plan [.pack (GD.att a) 7 [12, 13], .pack (GD.eng s) 0 [1, 2, 3, 4, 5, 6, 8, 9, 7, 10]] [0] ?_ ?_ ?_ <;> simp [frag_att, frag_eng, hac, ha, slotO_some, hdp, o1, o2, o3] <;> exact hes
  · refine ends_plan [.pack (GD.att a) 7 [12, 13], .pack (GD.eng s) 0 [1, 2, 3, 4, 5, 6, 8, 9, 10, 7]] [0] ?_ ?_ ?_ <;> simp [frag_att, frag_eng, hac, ha, slotO_some, hdp, o1, o2, o3] <;> exact hes
set_option maxRecDepth 10000 in
set_option maxHeartbeats 4000000 in
theorem ask_1n (s : NS) (hs : s.Ok) (th : Nat) (hth : th < 4) (a : Att) (ha : s.ts th = some a) (hf : a.asked = false) (t v : Int) (ht : t < 0) : Runs Tryz.prog cfg 27 [.pointer (some ⟨0, 0, none⟩), .int .i64 th, .agg #[.int .u8 1, .int .i64 t, .int .u64 v]] (AH.of [some (.hi (.eng s))])
    fun r H' => r = .ret (.int .i64 2) ∧ H' = AH.of [some (.hi (.eng s))] := by
  refine Runs.ends ?_
  refine Runs.openEng hth fun es cc hes => ?_
  have ft := find_th hth hes
  have z1 : ¬ (th : Int) < 0 := by omega
  have z2 : ¬ 4 ≤ (th : Int) := by omega
  have hac := ask_cells a hf
  obtain ⟨dp, hdp⟩ : ∃ dp, (a.fs.length : Int) - 1 = dp := ⟨_, rfl⟩
  have t1 : t < 0 := ht
  refine runs_by (tbl := tblW) tblW_ok 0 3 (af := a27) rfl ?_
  rw [a27, b27, run_eq]
  refine ⟨by simp, ?_⟩
  simp (implicitDefEqProofs := false) [engL, tblW, dataSt, d132, st96, forms79, a79, b79, forms84, a84, b84, z1, z2, ha, ft, tptr, slotO_some, frag_att, hac, hdp, t1]
  rcases th_cases hth with rfl | rfl | rfl | rfl
  · refine ends_plan [.pack (GD.att a) 7 [12, 13], .pack (GD.eng s) 0 [1, 2, 3, 4, 5, 6, 7, 8, 9, 10]] [0] ?_ ?_ ?_ <;> simp [frag_att, frag_eng, hac, ha, slotO_some, hdp, o1, o2, o3] <;> exact hes
  · refine ends_plan [.pack (GD.att a) 7 [12, 13], .pack (GD.eng s) 0 [1, 2, 3, 4, 5, 6, 8, 7, 9, 10]] [0] ?_ ?_ ?_ <;> simp [frag_att, frag_eng, hac, ha, slotO_some, hdp, o1, o2, o3] <;> exact hes
  · refine ends_plan [.pack (GD.att a) 7 [12, 13], .pack (GD.eng s) 0 [1, 2, 3, 4, 5, 6, 8, 9, 7, 10]] [0] ?_ ?_ ?_ <;> simp [frag_att, frag_eng, hac, ha, slotO_some, hdp, o1, o2, o3] <;> exact hes
  · refine ends_plan [.pack (GD.att a) 7 [12, 13], .pack (GD.eng s) 0 [1, 2, 3, 4, 5, 6, 8, 9, 10, 7]] [0] ?_ ?_ ?_ <;> simp [frag_att, frag_eng, hac, ha, slotO_some, hdp, o1, o2, o3] <;> exact hes
set_option maxRecDepth 10000 in
set_option maxHeartbeats 4000000 in
theorem ask_1h (s : NS) (hs : s.Ok) (th : Nat) (hth : th < 4) (a : Att) (ha : s.ts th = some a) (hf : a.asked = false) (t v : Int) (ht : 0 ≤ t ∧ (s.hp.length : Int) ≤ t) : Runs Tryz.prog cfg 27 [.pointer (some ⟨0, 0, none⟩), .int .i64 th, .agg #[.int .u8 1, .int .i64 t, .int .u64 v]] (AH.of [some (.hi (.eng s))])
    fun r H' => r = .ret (.int .i64 2) ∧ H' = AH.of [some (.hi (.eng s))] := by
  refine Runs.ends ?_
  refine Runs.openEng hth fun es cc hes => ?_
  have ft := find_th hth hes
  have z1 : ¬ (th : Int) < 0 := by omega
  have z2 : ¬ 4 ≤ (th : Int) := by omega
  have hac := ask_cells a hf
  obtain ⟨dp, hdp⟩ : ∃ dp, (a.fs.length : Int) - 1 = dp := ⟨_, rfl⟩
  have t1 : ¬ t < 0 := by omega
  have t2 : (s.hp.length : Int) ≤ t := ht.2
  refine runs_by (tbl := tblW) tblW_ok 0 3 (af := a27) rfl ?_
  rw [a27, b27, run_eq]
  refine ⟨by simp, ?_⟩
  simp (implicitDefEqProofs := false) [engL, tblW, dataSt, d132, st96, forms79, a79, b79, forms84, a84, b84, z1, z2, ha, ft, tptr, slotO_some, frag_att, hac, hdp, t1, t2]
  rcases th_cases hth with rfl | rfl | rfl | rfl
  · refine ends_plan [.pack (GD.att a) 7 [12, 13], .pack (GD.eng s) 0 [1, 2, 3, 4, 5, 6, 7, 8, 9, 10]] [0] ?_ ?_ ?_ <;> simp [frag_att, frag_eng, hac, ha, slotO_some, hdp, o1, o2, o3] <;> exact hes
  · refine ends_plan [.pack (GD.att a) 7 [12, 13], .pack (GD.eng s) 0 [1, 2, 3, 4, 5, 6, 8, 7, 9, 10]] [0] ?_ ?_ ?_ <;> simp [frag_att, frag_eng, hac, ha, slotO_some, hdp, o1, o2, o3] <;> exact hes
  · refine ends_plan [.pack (GD.att a) 7 [12, 13], .pack (GD.eng s) 0 [1, 2, 3, 4, 5, 6, 8, 9, 7, 10]] [0] ?_ ?_ ?_ <;> simp [frag_att, frag_eng, hac, ha, slotO_some, hdp, o1, o2, o3] <;> exact hes
  · refine ends_plan [.pack (GD.att a) 7 [12, 13], .pack (GD.eng s) 0 [1, 2, 3, 4, 5, 6, 8, 9, 10, 7]] [0] ?_ ?_ ?_ <;> simp [frag_att, frag_eng, hac, ha, slotO_some, hdp, o1, o2, o3] <;> exact hes
set_option maxRecDepth 10000 in
set_option maxHeartbeats 4000000 in
theorem ask_2n (s : NS) (hs : s.Ok) (th : Nat) (hth : th < 4) (a : Att) (ha : s.ts th = some a) (hf : a.asked = false) (t v : Int) (ht : t < 0) : Runs Tryz.prog cfg 27 [.pointer (some ⟨0, 0, none⟩), .int .i64 th, .agg #[.int .u8 2, .int .i64 t, .int .u64 v]] (AH.of [some (.hi (.eng s))])
    fun r H' => r = .ret (.int .i64 2) ∧ H' = AH.of [some (.hi (.eng s))] := by
  refine Runs.ends ?_
  refine Runs.openEng hth fun es cc hes => ?_
  have ft := find_th hth hes
  have z1 : ¬ (th : Int) < 0 := by omega
  have z2 : ¬ 4 ≤ (th : Int) := by omega
  have hac := ask_cells a hf
  obtain ⟨dp, hdp⟩ : ∃ dp, (a.fs.length : Int) - 1 = dp := ⟨_, rfl⟩
  have t1 : t < 0 := ht
  refine runs_by (tbl := tblW) tblW_ok 0 3 (af := a27) rfl ?_
  rw [a27, b27, run_eq]
  refine ⟨by simp, ?_⟩
  simp (implicitDefEqProofs := false) [engL, tblW, dataSt, d132, st96, forms79, a79, b79, forms84, a84, b84, z1, z2, ha, ft, tptr, slotO_some, frag_att, hac, hdp, t1]
  rcases th_cases hth with rfl | rfl | rfl | rfl
  · refine ends_plan [.pack (GD.att a) 7 [12, 13], .pack (GD.eng s) 0 [1, 2, 3, 4, 5, 6, 7, 8, 9, 10]] [0] ?_ ?_ ?_ <;> simp [frag_att, frag_eng, hac, ha, slotO_some, hdp, o1, o2, o3] <;> exact hes
  · refine ends_plan [.pack (GD.att a) 7 [12, 13], .pack (GD.eng s) 0 [1, 2, 3, 4, 5, 6, 8, 7, 9, 10]] [0] ?_ ?_ ?_ <;> simp [frag_att, frag_eng, hac, ha, slotO_some, hdp, o1, o2, o3] <;> exact hes
  · refine ends_plan [.pack (GD.att a) 7 [12, 13], .pack (GD.eng s) 0 [1, 2, 3, 4, 5, 6, 8, 9, 7, 10]] [0] ?_ ?_ ?_ <;> simp [frag_att, frag_eng, hac, ha, slotO_some, hdp, o1, o2, o3] <;> exact hes
  · refine ends_plan [.pack (GD.att a) 7 [12, 13], .pack (GD.eng s) 0 [1, 2, 3, 4, 5, 6, 8, 9, 10, 7]] [0] ?_ ?_ ?_ <;> simp [frag_att, frag_eng, hac, ha, slotO_some, hdp, o1, o2, o3] <;> exact hes
set_option maxRecDepth 10000 in
set_option maxHeartbeats 4000000 in
theorem ask_2h (s : NS) (hs : s.Ok) (th : Nat) (hth : th < 4) (a : Att) (ha : s.ts th = some a) (hf : a.asked = false) (t v : Int) (ht : 0 ≤ t ∧ (s.hp.length : Int) ≤ t) : Runs Tryz.prog cfg 27 [.pointer (some ⟨0, 0, none⟩), .int .i64 th, .agg #[.int .u8 2, .int .i64 t, .int .u64 v]] (AH.of [some (.hi (.eng s))])
    fun r H' => r = .ret (.int .i64 2) ∧ H' = AH.of [some (.hi (.eng s))] := by
  refine Runs.ends ?_
  refine Runs.openEng hth fun es cc hes => ?_
  have ft := find_th hth hes
  have z1 : ¬ (th : Int) < 0 := by omega
  have z2 : ¬ 4 ≤ (th : Int) := by omega
  have hac := ask_cells a hf
  obtain ⟨dp, hdp⟩ : ∃ dp, (a.fs.length : Int) - 1 = dp := ⟨_, rfl⟩
  have t1 : ¬ t < 0 := by omega
  have t2 : (s.hp.length : Int) ≤ t := ht.2
  refine runs_by (tbl := tblW) tblW_ok 0 3 (af := a27) rfl ?_
  rw [a27, b27, run_eq]
  refine ⟨by simp, ?_⟩
  simp (implicitDefEqProofs := false) [engL, tblW, dataSt, d132, st96, forms79, a79, b79, forms84, a84, b84, z1, z2, ha, ft, tptr, slotO_some, frag_att, hac, hdp, t1, t2]
  rcases th_cases hth with rfl | rfl | rfl | rfl
  · refine ends_plan [.pack (GD.att a) 7 [12, 13], .pack (GD.eng s) 0 [1, 2, 3, 4, 5, 6, 7, 8, 9, 10]] [0] ?_ ?_ ?_ <;> simp [frag_att, frag_eng, hac, ha, slotO_some, hdp, o1, o2, o3] <;> exact hes
  · refine ends_plan [.pack (GD.att a) 7 [12, 13], .pack (GD.eng s) 0 [1, 2, 3, 4, 5, 6, 8, 7, 9, 10]] [0] ?_ ?_ ?_ <;> simp [frag_att, frag_eng, hac, ha, slotO_some, hdp, o1, o2, o3] <;> exact hes
  · refine ends_plan [.pack (GD.att a) 7 [12, 13], .pack (GD.eng s) 0 [1, 2, 3, 4, 5, 6, 8, 9, 7, 10]] [0] ?_ ?_ ?_ <;> simp [frag_att, frag_eng, hac, ha, slotO_some, hdp, o1, o2, o3] <;> exact hes
  · refine ends_plan [.pack (GD.att a) 7 [12, 13], .pack (GD.eng s) 0 [1, 2, 3, 4, 5, 6, 8, 9, 10, 7]] [0] ?_ ?_ ?_ <;> simp [frag_att, frag_eng, hac, ha, slotO_some, hdp, o1, o2, o3] <;> exact hes
set_option maxRecDepth 10000 in
set_option maxHeartbeats 4000000 in
theorem ask_2r (s : NS) (hs : s.Ok) (th : Nat) (hth : th < 4) (a : Att) (ha : s.ts th = some a) (hf : a.asked = false) (t v : Int) (ht : 0 ≤ t ∧ t < s.hp.length) (hv : rightB v = false) : Runs Tryz.prog cfg 27 [.pointer (some ⟨0, 0, none⟩), .int .i64 th, .agg #[.int .u8 2, .int .i64 t, .int .u64 v]] (AH.of [some (.hi (.eng s))])
    fun r H' => r = .ret (.int .i64 3) ∧ H' = AH.of [some (.hi (.eng s))] := by
  refine Runs.ends ?_
  refine Runs.openEng hth fun es cc hes => ?_
  have ft := find_th hth hes
  have z1 : ¬ (th : Int) < 0 := by omega
  have z2 : ¬ 4 ≤ (th : Int) := by omega
  have hac := ask_cells a hf
  obtain ⟨dp, hdp⟩ : ∃ dp, (a.fs.length : Int) - 1 = dp := ⟨_, rfl⟩
  have t1 : ¬ t < 0 := by omega
  have t2 : ¬ (s.hp.length : Int) ≤ t := by omega
  have r1 : rightB v = false := hv
  refine runs_by (tbl := tblW) tblW_ok 0 3 (af := a27) rfl ?_
  rw [a27, b27, run_eq]
  refine ⟨by simp, ?_⟩
  simp (implicitDefEqProofs := false) [engL, tblW, dataSt, d132, st96, forms79, a79, b79, forms84, a84, b84, z1, z2, ha, ft, tptr, slotO_some, frag_att, hac, hdp, t1, t2, r1]
  rcases th_cases hth with rfl | rfl | rfl | rfl
  · refine ends_plan [.pack (GD.att a) 7 [12, 13], .pack (GD.eng s) 0 [1, 2, 3, 4, 5, 6, 7, 8, 9, 10]] [0] ?_ ?_ ?_ <;> simp [frag_att, frag_eng, hac, ha, slotO_some, hdp, o1, o2, o3] <;> exact hes
  · refine ends_plan [.pack (GD.att a) 7 [12, 13], .pack (GD.eng s) 0 [1, 2, 3, 4, 5, 6, 8, 7, 9, 10]] [0] ?_ ?_ ?_ <;> simp [frag_att, frag_eng, hac, ha, slotO_some, hdp, o1, o2, o3] <;> exact hes
  · refine ends_plan [.pack (GD.att a) 7 [12, 13], .pack (GD.eng s) 0 [1, 2, 3, 4, 5, 6, 8, 9, 7, 10]] [0] ?_ ?_ ?_ <;> simp [frag_att, frag_eng, hac, ha, slotO_some, hdp, o1, o2, o3] <;> exact hes
  · refine ends_plan [.pack (GD.att a) 7 [12, 13], .pack (GD.eng s) 0 [1, 2, 3, 4, 5, 6, 8, 9, 10, 7]] [0] ?_ ?_ ?_ <;> simp [frag_att, frag_eng, hac, ha, slotO_some, hdp, o1, o2, o3] <;> exact hes
set_option maxRecDepth 10000 in
set_option maxHeartbeats 4000000 in
theorem ask_1z (s : NS) (hs : s.Ok) (th : Nat) (hth : th < 4) (a : Att) (ha : s.ts th = some a) (hf : a.asked = false) (t v : Int) (ht : 0 ≤ t ∧ t < s.hp.length) (hd : a.fs.length = 1) : Runs Tryz.prog cfg 27 [.pointer (some ⟨0, 0, none⟩), .int .i64 th, .agg #[.int .u8 1, .int .i64 t, .int .u64 v]] (AH.of [some (.hi (.eng s))])
    fun r H' => r = .ret (.int .i64 0) ∧ H' = AH.of [some (.hi (.eng (askS s th ⟨1, t, v⟩)))] := by
  refine Runs.ends ?_
  refine Runs.openEng hth fun es cc hes => ?_
  have ft := find_th hth hes
  have z1 : ¬ (th : Int) < 0 := by omega
  have z2 : ¬ 4 ≤ (th : Int) := by omega
  have hac := ask_cells a hf
  obtain ⟨dp, hdp⟩ : ∃ dp, (a.fs.length : Int) - 1 = dp := ⟨_, rfl⟩
  have t1 : ¬ t < 0 := by omega
  have t2 : ¬ (s.hp.length : Int) ≤ t := by omega
  have e1 : (dp = 0) = True := eq_true (by omega)
  have e2 : (0 < dp) = False := eq_false (by omega)
  have e3 : (4 ≤ dp) = False := eq_false (by omega)
  refine runs_by (tbl := tblW) tblW_ok 0 3 (af := a27) rfl ?_
  rw [a27, b27, run_eq]
  refine ⟨by simp, ?_⟩
  simp (implicitDefEqProofs := false) [engL, tblW, dataSt, d132, st96, forms79, a79, b79, forms84, a84, b84, z1, z2, ha, ft, tptr, slotO_some, frag_att, hac, hdp, t1, t2, e1, e2, e3]
  have htp := tpF_put th s.ts (b := { a with asked := true, ra := ⟨1, t, v⟩, at_ := 0, nx := 0 }) ha
  rw [← htp] at hes
  rcases th_cases hth with rfl | rfl | rfl | rfl
  · refine ends_plan [.pack (GD.att { a with asked := true, ra := ⟨1, t, v⟩, at_ := 0, nx := 0 }) 7 [12, 13], .pack (GD.eng (askS s 0 ⟨1, t, v⟩)) 0 [1, 2, 3, 4, 5, 6, 7, 8, 9, 10]] [0] ?_ ?_ ?_ <;> simp [frag_att, frag_eng, Att.ask, askS, setT, ha, slotO_some, o1, o2, o3, hdp] <;> exact hes
  · refine ends_plan [.pack (GD.att { a with asked := true, ra := ⟨1, t, v⟩, at_ := 0, nx := 0 }) 7 [12, 13], .pack (GD.eng (askS s 1 ⟨1, t, v⟩)) 0 [1, 2, 3, 4, 5, 6, 8, 7, 9, 10]] [0] ?_ ?_ ?_ <;> simp [frag_att, frag_eng, Att.ask, askS, setT, ha, slotO_some, o1, o2, o3, hdp] <;> exact hes
  · refine ends_plan [.pack (GD.att { a with asked := true, ra := ⟨1, t, v⟩, at_ := 0, nx := 0 }) 7 [12, 13], .pack (GD.eng (askS s 2 ⟨1, t, v⟩)) 0 [1, 2, 3, 4, 5, 6, 8, 9, 7, 10]] [0] ?_ ?_ ?_ <;> simp [frag_att, frag_eng, Att.ask, askS, setT, ha, slotO_some, o1, o2, o3, hdp] <;> exact hes
  · refine ends_plan [.pack (GD.att { a with asked := true, ra := ⟨1, t, v⟩, at_ := 0, nx := 0 }) 7 [12, 13], .pack (GD.eng (askS s 3 ⟨1, t, v⟩)) 0 [1, 2, 3, 4, 5, 6, 8, 9, 10, 7]] [0] ?_ ?_ ?_ <;> simp [frag_att, frag_eng, Att.ask, askS, setT, ha, slotO_some, o1, o2, o3, hdp] <;> exact hes
set_option maxRecDepth 10000 in
set_option maxHeartbeats 4000000 in
theorem ask_2z (s : NS) (hs : s.Ok) (th : Nat) (hth : th < 4) (a : Att) (ha : s.ts th = some a) (hf : a.asked = false) (t v : Int) (ht : 0 ≤ t ∧ t < s.hp.length) (hv : rightB v = true) (hd : a.fs.length = 1) : Runs Tryz.prog cfg 27 [.pointer (some ⟨0, 0, none⟩), .int .i64 th, .agg #[.int .u8 2, .int .i64 t, .int .u64 v]] (AH.of [some (.hi (.eng s))])
    fun r H' => r = .ret (.int .i64 0) ∧ H' = AH.of [some (.hi (.eng (askS s th ⟨2, t, v⟩)))] := by
  refine Runs.ends ?_
  refine Runs.openEng hth fun es cc hes => ?_
  have ft := find_th hth hes
  have z1 : ¬ (th : Int) < 0 := by omega
  have z2 : ¬ 4 ≤ (th : Int) := by omega
  have hac := ask_cells a hf
  obtain ⟨dp, hdp⟩ : ∃ dp, (a.fs.length : Int) - 1 = dp := ⟨_, rfl⟩
  have t1 : ¬ t < 0 := by omega
  have t2 : ¬ (s.hp.length : Int) ≤ t := by omega
  have r1 : rightB v = true := hv
  have e1 : (dp = 0) = True := eq_true (by omega)
  have e2 : (0 < dp) = False := eq_false (by omega)
  have e3 : (4 ≤ dp) = False := eq_false (by omega)
  refine runs_by (tbl := tblW) tblW_ok 0 3 (af := a27) rfl ?_
  rw [a27, b27, run_eq]
  refine ⟨by simp, ?_⟩
  simp (implicitDefEqProofs := false) [engL, tblW, dataSt, d132, st96, forms79, a79, b79, forms84, a84, b84, z1, z2, ha, ft, tptr, slotO_some, frag_att, hac, hdp, t1, t2, r1, e1, e2, e3]
  have htp := tpF_put th s.ts (b := { a with asked := true, ra := ⟨2, t, v⟩, at_ := 0, nx := 0 }) ha
  rw [← htp] at hes
  rcases th_cases hth with rfl | rfl | rfl | rfl
  · refine ends_plan [.pack (GD.att { a with asked := true, ra := ⟨2, t, v⟩, at_ := 0, nx := 0 }) 7 [12, 13], .pack (GD.eng (askS s 0 ⟨2, t, v⟩)) 0 [1, 2, 3, 4, 5, 6, 7, 8, 9, 10]] [0] ?_ ?_ ?_ <;> simp [frag_att, frag_eng, Att.ask, askS, setT, ha, slotO_some, o1, o2, o3, hdp] <;> exact hes
  · refine ends_plan [.pack (GD.att { a with asked := true, ra := ⟨2, t, v⟩, at_ := 0, nx := 0 }) 7 [12, 13], .pack (GD.eng (askS s 1 ⟨2, t, v⟩)) 0 [1, 2, 3, 4, 5, 6, 8, 7, 9, 10]] [0] ?_ ?_ ?_ <;> simp [frag_att, frag_eng, Att.ask, askS, setT, ha, slotO_some, o1, o2, o3, hdp] <;> exact hes
  · refine ends_plan [.pack (GD.att { a with asked := true, ra := ⟨2, t, v⟩, at_ := 0, nx := 0 }) 7 [12, 13], .pack (GD.eng (askS s 2 ⟨2, t, v⟩)) 0 [1, 2, 3, 4, 5, 6, 8, 9, 7, 10]] [0] ?_ ?_ ?_ <;> simp [frag_att, frag_eng, Att.ask, askS, setT, ha, slotO_some, o1, o2, o3, hdp] <;> exact hes
  · refine ends_plan [.pack (GD.att { a with asked := true, ra := ⟨2, t, v⟩, at_ := 0, nx := 0 }) 7 [12, 13], .pack (GD.eng (askS s 3 ⟨2, t, v⟩)) 0 [1, 2, 3, 4, 5, 6, 8, 9, 10, 7]] [0] ?_ ?_ ?_ <;> simp [frag_att, frag_eng, Att.ask, askS, setT, ha, slotO_some, o1, o2, o3, hdp] <;> exact hes
set_option maxRecDepth 10000 in
set_option maxHeartbeats 4000000 in
theorem ask_3z (s : NS) (hs : s.Ok) (th : Nat) (hth : th < 4) (a : Att) (ha : s.ts th = some a) (hf : a.asked = false) (t v : Int) (hd : a.fs.length = 1) : Runs Tryz.prog cfg 27 [.pointer (some ⟨0, 0, none⟩), .int .i64 th, .agg #[.int .u8 3, .int .i64 t, .int .u64 v]] (AH.of [some (.hi (.eng s))])
    fun r H' => r = .ret (.int .i64 0) ∧ H' = AH.of [some (.hi (.eng (askS s th ⟨3, t, v⟩)))] := by
  refine Runs.ends ?_
  refine Runs.openEng hth fun es cc hes => ?_
  have ft := find_th hth hes
  have z1 : ¬ (th : Int) < 0 := by omega
  have z2 : ¬ 4 ≤ (th : Int) := by omega
  have hac := ask_cells a hf
  obtain ⟨dp, hdp⟩ : ∃ dp, (a.fs.length : Int) - 1 = dp := ⟨_, rfl⟩
  have e1 : (dp = 0) = True := eq_true (by omega)
  have e2 : (0 < dp) = False := eq_false (by omega)
  have e3 : (4 ≤ dp) = False := eq_false (by omega)
  refine runs_by (tbl := tblW) tblW_ok 0 3 (af := a27) rfl ?_
  rw [a27, b27, run_eq]
  refine ⟨by simp, ?_⟩
  simp (implicitDefEqProofs := false) [engL, tblW, dataSt, d132, st96, forms79, a79, b79, forms84, a84, b84, z1, z2, ha, ft, tptr, slotO_some, frag_att, hac, hdp, e1, e2, e3]
  have htp := tpF_put th s.ts (b := { a with asked := true, ra := ⟨3, t, v⟩, at_ := 0, nx := 0 }) ha
  rw [← htp] at hes
  rcases th_cases hth with rfl | rfl | rfl | rfl
  · refine ends_plan [.pack (GD.att { a with asked := true, ra := ⟨3, t, v⟩, at_ := 0, nx := 0 }) 7 [12, 13], .pack (GD.eng (askS s 0 ⟨3, t, v⟩)) 0 [1, 2, 3, 4, 5, 6, 7, 8, 9, 10]] [0] ?_ ?_ ?_ <;> simp [frag_att, frag_eng, Att.ask, askS, setT, ha, slotO_some, o1, o2, o3, hdp] <;> exact hes
  · refine ends_plan [.pack (GD.att { a with asked := true, ra := ⟨3, t, v⟩, at_ := 0, nx := 0 }) 7 [12, 13], .pack (GD.eng (askS s 1 ⟨3, t, v⟩)) 0 [1, 2, 3, 4, 5, 6, 8, 7, 9, 10]] [0] ?_ ?_ ?_ <;> simp [frag_att, frag_eng, Att.ask, askS, setT, ha, slotO_some, o1, o2, o3, hdp] <;> exact hes
  · refine ends_plan [.pack (GD.att { a with asked := true, ra := ⟨3, t, v⟩, at_ := 0, nx := 0 }) 7 [12, 13], .pack (GD.eng (askS s 2 ⟨3, t, v⟩)) 0 [1, 2, 3, 4, 5, 6, 8, 9, 7, 10]] [0] ?_ ?_ ?_ <;> simp [frag_att, frag_eng, Att.ask, askS, setT, ha, slotO_some, o1, o2, o3, hdp] <;> exact hes
  · refine ends_plan [.pack (GD.att { a with asked := true, ra := ⟨3, t, v⟩, at_ := 0, nx := 0 }) 7 [12, 13], .pack (GD.eng (askS s 3 ⟨3, t, v⟩)) 0 [1, 2, 3, 4, 5, 6, 8, 9, 10, 7]] [0] ?_ ?_ ?_ <;> simp [frag_att, frag_eng, Att.ask, askS, setT, ha, slotO_some, o1, o2, o3, hdp] <;> exact hes
set_option maxRecDepth 10000 in
set_option maxHeartbeats 4000000 in
theorem ask_4z (s : NS) (hs : s.Ok) (th : Nat) (hth : th < 4) (a : Att) (ha : s.ts th = some a) (hf : a.asked = false) (t v : Int) (hd : a.fs.length = 1) : Runs Tryz.prog cfg 27 [.pointer (some ⟨0, 0, none⟩), .int .i64 th, .agg #[.int .u8 4, .int .i64 t, .int .u64 v]] (AH.of [some (.hi (.eng s))])
    fun r H' => r = .ret (.int .i64 8) ∧ H' = AH.of [some (.hi (.eng s))] := by
  refine Runs.ends ?_
  refine Runs.openEng hth fun es cc hes => ?_
  have ft := find_th hth hes
  have z1 : ¬ (th : Int) < 0 := by omega
  have z2 : ¬ 4 ≤ (th : Int) := by omega
  have hac := ask_cells a hf
  obtain ⟨dp, hdp⟩ : ∃ dp, (a.fs.length : Int) - 1 = dp := ⟨_, rfl⟩
  have e1 : (dp = 0) = True := eq_true (by omega)
  have e2 : (0 < dp) = False := eq_false (by omega)
  have e3 : (4 ≤ dp) = False := eq_false (by omega)
  refine runs_by (tbl := tblW) tblW_ok 0 3 (af := a27) rfl ?_
  rw [a27, b27, run_eq]
  refine ⟨by simp, ?_⟩
  simp (implicitDefEqProofs := false) [engL, tblW, dataSt, d132, st96, forms79, a79, b79, forms84, a84, b84, z1, z2, ha, ft, tptr, slotO_some, frag_att, hac, hdp, e1, e2, e3]
  rcases th_cases hth with rfl | rfl | rfl | rfl
  · refine ends_plan [.pack (GD.att a) 7 [12, 13], .pack (GD.eng s) 0 [1, 2, 3, 4, 5, 6, 7, 8, 9, 10]] [0] ?_ ?_ ?_ <;> simp [frag_att, frag_eng, hac, ha, slotO_some, hdp, o1, o2, o3] <;> exact hes
  · refine ends_plan [.pack (GD.att a) 7 [12, 13], .pack (GD.eng s) 0 [1, 2, 3, 4, 5, 6, 8, 7, 9, 10]] [0] ?_ ?_ ?_ <;> simp [frag_att, frag_eng, hac, ha, slotO_some, hdp, o1, o2, o3] <;> exact hes
  · refine ends_plan [.pack (GD.att a) 7 [12, 13], .pack (GD.eng s) 0 [1, 2, 3, 4, 5, 6, 8, 9, 7, 10]] [0] ?_ ?_ ?_ <;> simp [frag_att, frag_eng, hac, ha, slotO_some, hdp, o1, o2, o3] <;> exact hes
  · refine ends_plan [.pack (GD.att a) 7 [12, 13], .pack (GD.eng s) 0 [1, 2, 3, 4, 5, 6, 8, 9, 10, 7]] [0] ?_ ?_ ?_ <;> simp [frag_att, frag_eng, hac, ha, slotO_some, hdp, o1, o2, o3] <;> exact hes
set_option maxRecDepth 10000 in
set_option maxHeartbeats 4000000 in
theorem ask_5z (s : NS) (hs : s.Ok) (th : Nat) (hth : th < 4) (a : Att) (ha : s.ts th = some a) (hf : a.asked = false) (t v : Int) (hd : a.fs.length = 1) : Runs Tryz.prog cfg 27 [.pointer (some ⟨0, 0, none⟩), .int .i64 th, .agg #[.int .u8 5, .int .i64 t, .int .u64 v]] (AH.of [some (.hi (.eng s))])
    fun r H' => r = .ret (.int .i64 8) ∧ H' = AH.of [some (.hi (.eng s))] := by
  refine Runs.ends ?_
  refine Runs.openEng hth fun es cc hes => ?_
  have ft := find_th hth hes
  have z1 : ¬ (th : Int) < 0 := by omega
  have z2 : ¬ 4 ≤ (th : Int) := by omega
  have hac := ask_cells a hf
  obtain ⟨dp, hdp⟩ : ∃ dp, (a.fs.length : Int) - 1 = dp := ⟨_, rfl⟩
  have e1 : (dp = 0) = True := eq_true (by omega)
  have e2 : (0 < dp) = False := eq_false (by omega)
  have e3 : (4 ≤ dp) = False := eq_false (by omega)
  refine runs_by (tbl := tblW) tblW_ok 0 3 (af := a27) rfl ?_
  rw [a27, b27, run_eq]
  refine ⟨by simp, ?_⟩
  simp (implicitDefEqProofs := false) [engL, tblW, dataSt, d132, st96, forms79, a79, b79, forms84, a84, b84, z1, z2, ha, ft, tptr, slotO_some, frag_att, hac, hdp, e1, e2, e3]
  rcases th_cases hth with rfl | rfl | rfl | rfl
  · refine ends_plan [.pack (GD.att a) 7 [12, 13], .pack (GD.eng s) 0 [1, 2, 3, 4, 5, 6, 7, 8, 9, 10]] [0] ?_ ?_ ?_ <;> simp [frag_att, frag_eng, hac, ha, slotO_some, hdp, o1, o2, o3] <;> exact hes
  · refine ends_plan [.pack (GD.att a) 7 [12, 13], .pack (GD.eng s) 0 [1, 2, 3, 4, 5, 6, 8, 7, 9, 10]] [0] ?_ ?_ ?_ <;> simp [frag_att, frag_eng, hac, ha, slotO_some, hdp, o1, o2, o3] <;> exact hes
  · refine ends_plan [.pack (GD.att a) 7 [12, 13], .pack (GD.eng s) 0 [1, 2, 3, 4, 5, 6, 8, 9, 7, 10]] [0] ?_ ?_ ?_ <;> simp [frag_att, frag_eng, hac, ha, slotO_some, hdp, o1, o2, o3] <;> exact hes
  · refine ends_plan [.pack (GD.att a) 7 [12, 13], .pack (GD.eng s) 0 [1, 2, 3, 4, 5, 6, 8, 9, 10, 7]] [0] ?_ ?_ ?_ <;> simp [frag_att, frag_eng, hac, ha, slotO_some, hdp, o1, o2, o3] <;> exact hes
set_option maxRecDepth 10000 in
set_option maxHeartbeats 4000000 in
theorem ask_6z (s : NS) (hs : s.Ok) (th : Nat) (hth : th < 4) (a : Att) (ha : s.ts th = some a) (hf : a.asked = false) (t v : Int) (hd : a.fs.length = 1) : Runs Tryz.prog cfg 27 [.pointer (some ⟨0, 0, none⟩), .int .i64 th, .agg #[.int .u8 6, .int .i64 t, .int .u64 v]] (AH.of [some (.hi (.eng s))])
    fun r H' => r = .ret (.int .i64 0) ∧ H' = AH.of [some (.hi (.eng (askS s th ⟨6, t, v⟩)))] := by
  refine Runs.ends ?_
  refine Runs.openEng hth fun es cc hes => ?_
  have ft := find_th hth hes
  have z1 : ¬ (th : Int) < 0 := by omega
  have z2 : ¬ 4 ≤ (th : Int) := by omega
  have hac := ask_cells a hf
  obtain ⟨dp, hdp⟩ : ∃ dp, (a.fs.length : Int) - 1 = dp := ⟨_, rfl⟩
  have e1 : (dp = 0) = True := eq_true (by omega)
  have e2 : (0 < dp) = False := eq_false (by omega)
  have e3 : (4 ≤ dp) = False := eq_false (by omega)
  refine runs_by (tbl := tblW) tblW_ok 0 3 (af := a27) rfl ?_
  rw [a27, b27, run_eq]
  refine ⟨by simp, ?_⟩
  simp (implicitDefEqProofs := false) [engL, tblW, dataSt, d132, st96, forms79, a79, b79, forms84, a84, b84, z1, z2, ha, ft, tptr, slotO_some, frag_att, hac, hdp, e1, e2, e3]
  have htp := tpF_put th s.ts (b := { a with asked := true, ra := ⟨6, t, v⟩, at_ := 0, nx := 0 }) ha
  rw [← htp] at hes
  rcases th_cases hth with rfl | rfl | rfl | rfl
  · refine ends_plan [.pack (GD.att { a with asked := true, ra := ⟨6, t, v⟩, at_ := 0, nx := 0 }) 7 [12, 13], .pack (GD.eng (askS s 0 ⟨6, t, v⟩)) 0 [1, 2, 3, 4, 5, 6, 7, 8, 9, 10]] [0] ?_ ?_ ?_ <;> simp [frag_att, frag_eng, Att.ask, askS, setT, ha, slotO_some, o1, o2, o3, hdp] <;> exact hes
  · refine ends_plan [.pack (GD.att { a with asked := true, ra := ⟨6, t, v⟩, at_ := 0, nx := 0 }) 7 [12, 13], .pack (GD.eng (askS s 1 ⟨6, t, v⟩)) 0 [1, 2, 3, 4, 5, 6, 8, 7, 9, 10]] [0] ?_ ?_ ?_ <;> simp [frag_att, frag_eng, Att.ask, askS, setT, ha, slotO_some, o1, o2, o3, hdp] <;> exact hes
  · refine ends_plan [.pack (GD.att { a with asked := true, ra := ⟨6, t, v⟩, at_ := 0, nx := 0 }) 7 [12, 13], .pack (GD.eng (askS s 2 ⟨6, t, v⟩)) 0 [1, 2, 3, 4, 5, 6, 8, 9, 7, 10]] [0] ?_ ?_ ?_ <;> simp [frag_att, frag_eng, Att.ask, askS, setT, ha, slotO_some, o1, o2, o3, hdp] <;> exact hes
  · refine ends_plan [.pack (GD.att { a with asked := true, ra := ⟨6, t, v⟩, at_ := 0, nx := 0 }) 7 [12, 13], .pack (GD.eng (askS s 3 ⟨6, t, v⟩)) 0 [1, 2, 3, 4, 5, 6, 8, 9, 10, 7]] [0] ?_ ?_ ?_ <;> simp [frag_att, frag_eng, Att.ask, askS, setT, ha, slotO_some, o1, o2, o3, hdp] <;> exact hes
set_option maxRecDepth 10000 in
set_option maxHeartbeats 4000000 in
theorem ask_7z (s : NS) (hs : s.Ok) (th : Nat) (hth : th < 4) (a : Att) (ha : s.ts th = some a) (hf : a.asked = false) (t v : Int) (hd : a.fs.length = 1) : Runs Tryz.prog cfg 27 [.pointer (some ⟨0, 0, none⟩), .int .i64 th, .agg #[.int .u8 7, .int .i64 t, .int .u64 v]] (AH.of [some (.hi (.eng s))])
    fun r H' => r = .ret (.int .i64 0) ∧ H' = AH.of [some (.hi (.eng (askS s th ⟨7, t, v⟩)))] := by
  refine Runs.ends ?_
  refine Runs.openEng hth fun es cc hes => ?_
  have ft := find_th hth hes
  have z1 : ¬ (th : Int) < 0 := by omega
  have z2 : ¬ 4 ≤ (th : Int) := by omega
  have hac := ask_cells a hf
  obtain ⟨dp, hdp⟩ : ∃ dp, (a.fs.length : Int) - 1 = dp := ⟨_, rfl⟩
  have e1 : (dp = 0) = True := eq_true (by omega)
  have e2 : (0 < dp) = False := eq_false (by omega)
  have e3 : (4 ≤ dp) = False := eq_false (by omega)
  refine runs_by (tbl := tblW) tblW_ok 0 3 (af := a27) rfl ?_
  rw [a27, b27, run_eq]
  refine ⟨by simp, ?_⟩
  simp (implicitDefEqProofs := false) [engL, tblW, dataSt, d132, st96, forms79, a79, b79, forms84, a84, b84, z1, z2, ha, ft, tptr, slotO_some, frag_att, hac, hdp, e1, e2, e3]
  have htp := tpF_put th s.ts (b := { a with asked := true, ra := ⟨7, t, v⟩, at_ := 0, nx := 0 }) ha
  rw [← htp] at hes
  rcases th_cases hth with rfl | rfl | rfl | rfl
  · refine ends_plan [.pack (GD.att { a with asked := true, ra := ⟨7, t, v⟩, at_ := 0, nx := 0 }) 7 [12, 13], .pack (GD.eng (askS s 0 ⟨7, t, v⟩)) 0 [1, 2, 3, 4, 5, 6, 7, 8, 9, 10]] [0] ?_ ?_ ?_ <;> simp [frag_att, frag_eng, Att.ask, askS, setT, ha, slotO_some, o1, o2, o3, hdp] <;> exact hes
  · refine ends_plan [.pack (GD.att { a with asked := true, ra := ⟨7, t, v⟩, at_ := 0, nx := 0 }) 7 [12, 13], .pack (GD.eng (askS s 1 ⟨7, t, v⟩)) 0 [1, 2, 3, 4, 5, 6, 8, 7, 9, 10]] [0] ?_ ?_ ?_ <;> simp [frag_att, frag_eng, Att.ask, askS, setT, ha, slotO_some, o1, o2, o3, hdp] <;> exact hes
  · refine ends_plan [.pack (GD.att { a with asked := true, ra := ⟨7, t, v⟩, at_ := 0, nx := 0 }) 7 [12, 13], .pack (GD.eng (askS s 2 ⟨7, t, v⟩)) 0 [1, 2, 3, 4, 5, 6, 8, 9, 7, 10]] [0] ?_ ?_ ?_ <;> simp [frag_att, frag_eng, Att.ask, askS, setT, ha, slotO_some, o1, o2, o3, hdp] <;> exact hes
  · refine ends_plan [.pack (GD.att { a with asked := true, ra := ⟨7, t, v⟩, at_ := 0, nx := 0 }) 7 [12, 13], .pack (GD.eng (askS s 3 ⟨7, t, v⟩)) 0 [1, 2, 3, 4, 5, 6, 8, 9, 10, 7]] [0] ?_ ?_ ?_ <;> simp [frag_att, frag_eng, Att.ask, askS, setT, ha, slotO_some, o1, o2, o3, hdp] <;> exact hes
set_option maxRecDepth 10000 in
set_option maxHeartbeats 4000000 in
theorem ask_1m (s : NS) (hs : s.Ok) (th : Nat) (hth : th < 4) (a : Att) (ha : s.ts th = some a) (hf : a.asked = false) (t v : Int) (ht : 0 ≤ t ∧ t < s.hp.length) (hd : a.fs.length ≠ 1 ∧ 1 ≤ a.fs.length ∧ a.fs.length < 5) : Runs Tryz.prog cfg 27 [.pointer (some ⟨0, 0, none⟩), .int .i64 th, .agg #[.int .u8 1, .int .i64 t, .int .u64 v]] (AH.of [some (.hi (.eng s))])
    fun r H' => r = .ret (.int .i64 0) ∧ H' = AH.of [some (.hi (.eng (askS s th ⟨1, t, v⟩)))] := by
  refine Runs.ends ?_
  refine Runs.openEng hth fun es cc hes => ?_
  have ft := find_th hth hes
  have z1 : ¬ (th : Int) < 0 := by omega
  have z2 : ¬ 4 ≤ (th : Int) := by omega
  have hac := ask_cells a hf
  obtain ⟨dp, hdp⟩ : ∃ dp, (a.fs.length : Int) - 1 = dp := ⟨_, rfl⟩
  have t1 : ¬ t < 0 := by omega
  have t2 : ¬ (s.hp.length : Int) ≤ t := by omega
  have e1 : (dp = 0) = False := eq_false (by omega)
  have e2 : (0 < dp) = True := eq_true (by omega)
  have e3 : (4 ≤ dp) = False := eq_false (by omega)
  refine runs_by (tbl := tblW) tblW_ok 0 3 (af := a27) rfl ?_
  rw [a27, b27, run_eq]
  refine ⟨by simp, ?_⟩
  simp (implicitDefEqProofs := false) [engL, tblW, dataSt, d132, st96, forms79, a79, b79, forms84, a84, b84, z1, z2, ha, ft, tptr, slotO_some, frag_att, hac, hdp, t1, t2, e1, e2, e3]
  have htp := tpF_put th s.ts (b := { a with asked := true, ra := ⟨1, t, v⟩, at_ := 0, nx := 0 }) ha
  rw [← htp] at hes
  rcases th_cases hth with rfl | rfl | rfl | rfl
  · refine ends_plan [.pack (GD.att { a with asked := true, ra := ⟨1, t, v⟩, at_ := 0, nx := 0 }) 7 [12, 13], .pack (GD.eng (askS s 0 ⟨1, t, v⟩)) 0 [1, 2, 3, 4, 5, 6, 7, 8, 9, 10]] [0] ?_ ?_ ?_ <;> simp [frag_att, frag_eng, Att.ask, askS, setT, ha, slotO_some, o1, o2, o3, hdp] <;> exact hes
  · refine ends_plan [.pack (GD.att { a with asked := true, ra := ⟨1, t, v⟩, at_ := 0, nx := 0 }) 7 [12, 13], .pack (GD.eng (askS s 1 ⟨1, t, v⟩)) 0 [1, 2, 3, 4, 5, 6, 8, 7, 9, 10]] [0] ?_ ?_ ?_ <;> simp [frag_att, frag_eng, Att.ask, askS, setT, ha, slotO_some, o1, o2, o3, hdp] <;> exact hes
  · refine ends_plan [.pack (GD.att { a with asked := true, ra := ⟨1, t, v⟩, at_ := 0, nx := 0 }) 7 [12, 13], .pack (GD.eng (askS s 2 ⟨1, t, v⟩)) 0 [1, 2, 3, 4, 5, 6, 8, 9, 7, 10]] [0] ?_ ?_ ?_ <;> simp [frag_att, frag_eng, Att.ask, askS, setT, ha, slotO_some, o1, o2, o3, hdp] <;> exact hes
  · refine ends_plan [.pack (GD.att { a with asked := true, ra := ⟨1, t, v⟩, at_ := 0, nx := 0 }) 7 [12, 13], .pack (GD.eng (askS s 3 ⟨1, t, v⟩)) 0 [1, 2, 3, 4, 5, 6, 8, 9, 10, 7]] [0] ?_ ?_ ?_ <;> simp [frag_att, frag_eng, Att.ask, askS, setT, ha, slotO_some, o1, o2, o3, hdp] <;> exact hes
set_option maxRecDepth 10000 in
set_option maxHeartbeats 4000000 in
theorem ask_2m (s : NS) (hs : s.Ok) (th : Nat) (hth : th < 4) (a : Att) (ha : s.ts th = some a) (hf : a.asked = false) (t v : Int) (ht : 0 ≤ t ∧ t < s.hp.length) (hv : rightB v = true) (hd : a.fs.length ≠ 1 ∧ 1 ≤ a.fs.length ∧ a.fs.length < 5) : Runs Tryz.prog cfg 27 [.pointer (some ⟨0, 0, none⟩), .int .i64 th, .agg #[.int .u8 2, .int .i64 t, .int .u64 v]] (AH.of [some (.hi (.eng s))])
    fun r H' => r = .ret (.int .i64 0) ∧ H' = AH.of [some (.hi (.eng (askS s th ⟨2, t, v⟩)))] := by
  refine Runs.ends ?_
  refine Runs.openEng hth fun es cc hes => ?_
  have ft := find_th hth hes
  have z1 : ¬ (th : Int) < 0 := by omega
  have z2 : ¬ 4 ≤ (th : Int) := by omega
  have hac := ask_cells a hf
  obtain ⟨dp, hdp⟩ : ∃ dp, (a.fs.length : Int) - 1 = dp := ⟨_, rfl⟩
  have t1 : ¬ t < 0 := by omega
  have t2 : ¬ (s.hp.length : Int) ≤ t := by omega
  have r1 : rightB v = true := hv
  have e1 : (dp = 0) = False := eq_false (by omega)
  have e2 : (0 < dp) = True := eq_true (by omega)
  have e3 : (4 ≤ dp) = False := eq_false (by omega)
  refine runs_by (tbl := tblW) tblW_ok 0 3 (af := a27) rfl ?_
  rw [a27, b27, run_eq]
  refine ⟨by simp, ?_⟩
  simp (implicitDefEqProofs := false) [engL, tblW, dataSt, d132, st96, forms79, a79, b79, forms84, a84, b84, z1, z2, ha, ft, tptr, slotO_some, frag_att, hac, hdp, t1, t2, r1, e1, e2, e3]
  have htp := tpF_put th s.ts (b := { a with asked := true, ra := ⟨2, t, v⟩, at_ := 0, nx := 0 }) ha
  rw [← htp] at hes
  rcases th_cases hth with rfl | rfl | rfl | rfl
  · refine ends_plan [.pack (GD.att { a with asked := true, ra := ⟨2, t, v⟩, at_ := 0, nx := 0 }) 7 [12, 13], .pack (GD.eng (askS s 0 ⟨2, t, v⟩)) 0 [1, 2, 3, 4, 5, 6, 7, 8, 9, 10]] [0] ?_ ?_ ?_ <;> simp [frag_att, frag_eng, Att.ask, askS, setT, ha, slotO_some, o1, o2, o3, hdp] <;> exact hes
  · refine ends_plan [.pack (GD.att { a with asked := true, ra := ⟨2, t, v⟩, at_ := 0, nx := 0 }) 7 [12, 13], .pack (GD.eng (askS s 1 ⟨2, t, v⟩)) 0 [1, 2, 3, 4, 5, 6, 8, 7, 9, 10]] [0] ?_ ?_ ?_ <;> simp [frag_att, frag_eng, Att.ask, askS, setT, ha, slotO_some, o1, o2, o3, hdp] <;> exact hes
  · refine ends_plan [.pack (GD.att { a with asked := true, ra := ⟨2, t, v⟩, at_ := 0, nx := 0 }) 7 [12, 13], .pack (GD.eng (askS s 2 ⟨2, t, v⟩)) 0 [1, 2, 3, 4, 5, 6, 8, 9, 7, 10]] [0] ?_ ?_ ?_ <;> simp [frag_att, frag_eng, Att.ask, askS, setT, ha, slotO_some, o1, o2, o3, hdp] <;> exact hes
  · refine ends_plan [.pack (GD.att { a with asked := true, ra := ⟨2, t, v⟩, at_ := 0, nx := 0 }) 7 [12, 13], .pack (GD.eng (askS s 3 ⟨2, t, v⟩)) 0 [1, 2, 3, 4, 5, 6, 8, 9, 10, 7]] [0] ?_ ?_ ?_ <;> simp [frag_att, frag_eng, Att.ask, askS, setT, ha, slotO_some, o1, o2, o3, hdp] <;> exact hes
set_option maxRecDepth 10000 in
set_option maxHeartbeats 4000000 in
theorem ask_3m (s : NS) (hs : s.Ok) (th : Nat) (hth : th < 4) (a : Att) (ha : s.ts th = some a) (hf : a.asked = false) (t v : Int) (hd : a.fs.length ≠ 1 ∧ 1 ≤ a.fs.length ∧ a.fs.length < 5) : Runs Tryz.prog cfg 27 [.pointer (some ⟨0, 0, none⟩), .int .i64 th, .agg #[.int .u8 3, .int .i64 t, .int .u64 v]] (AH.of [some (.hi (.eng s))])
    fun r H' => r = .ret (.int .i64 0) ∧ H' = AH.of [some (.hi (.eng (askS s th ⟨3, t, v⟩)))] := by
  refine Runs.ends ?_
  refine Runs.openEng hth fun es cc hes => ?_
  have ft := find_th hth hes
  have z1 : ¬ (th : Int) < 0 := by omega
  have z2 : ¬ 4 ≤ (th : Int) := by omega
  have hac := ask_cells a hf
  obtain ⟨dp, hdp⟩ : ∃ dp, (a.fs.length : Int) - 1 = dp := ⟨_, rfl⟩
  have e1 : (dp = 0) = False := eq_false (by omega)
  have e2 : (0 < dp) = True := eq_true (by omega)
  have e3 : (4 ≤ dp) = False := eq_false (by omega)
  refine runs_by (tbl := tblW) tblW_ok 0 3 (af := a27) rfl ?_
  rw [a27, b27, run_eq]
  refine ⟨by simp, ?_⟩
  simp (implicitDefEqProofs := false) [engL, tblW, dataSt, d132, st96, forms79, a79, b79, forms84, a84, b84, z1, z2, ha, ft, tptr, slotO_some, frag_att, hac, hdp, e1, e2, e3]
  have htp := tpF_put th s.ts (b := { a with asked := true, ra := ⟨3, t, v⟩, at_ := 0, nx := 0 }) ha
  rw [← htp] at hes
  rcases th_cases hth with rfl | rfl | rfl | rfl
  · refine ends_plan [.pack (GD.att { a with asked := true, ra := ⟨3, t, v⟩, at_ := 0, nx := 0 }) 7 [12, 13], .pack (GD.eng (askS s 0 ⟨3, t, v⟩)) 0 [1, 2, 3, 4, 5, 6, 7, 8, 9, 10]] [0] ?_ ?_ ?_ <;> simp [frag_att, frag_eng, Att.ask, askS, setT, ha, slotO_some, o1, o2, o3, hdp] <;> exact hes
  · refine ends_plan [.pack (GD.att { a with asked := true, ra := ⟨3, t, v⟩, at_ := 0, nx := 0 }) 7 [12, 13], .pack (GD.eng (askS s 1 ⟨3, t, v⟩)) 0 [1, 2, 3, 4, 5, 6, 8, 7, 9, 10]] [0] ?_ ?_ ?_ <;> simp [frag_att, frag_eng, Att.ask, askS, setT, ha, slotO_some, o1, o2, o3, hdp] <;> exact hes
  · refine ends_plan [.pack (GD.att { a with asked := true, ra := ⟨3, t, v⟩, at_ := 0, nx := 0 }) 7 [12, 13], .pack (GD.eng (askS s 2 ⟨3, t, v⟩)) 0 [1, 2, 3, 4, 5, 6, 8, 9, 7, 10]] [0] ?_ ?_ ?_ <;> simp [frag_att, frag_eng, Att.ask, askS, setT, ha, slotO_some, o1, o2, o3, hdp] <;> exact hes
  · refine ends_plan [.pack (GD.att { a with asked := true, ra := ⟨3, t, v⟩, at_ := 0, nx := 0 }) 7 [12, 13], .pack (GD.eng (askS s 3 ⟨3, t, v⟩)) 0 [1, 2, 3, 4, 5, 6, 8, 9, 10, 7]] [0] ?_ ?_ ?_ <;> simp [frag_att, frag_eng, Att.ask, askS, setT, ha, slotO_some, o1, o2, o3, hdp] <;> exact hes
set_option maxRecDepth 10000 in
set_option maxHeartbeats 4000000 in
theorem ask_4m (s : NS) (hs : s.Ok) (th : Nat) (hth : th < 4) (a : Att) (ha : s.ts th = some a) (hf : a.asked = false) (t v : Int) (hd : a.fs.length ≠ 1 ∧ 1 ≤ a.fs.length ∧ a.fs.length < 5) : Runs Tryz.prog cfg 27 [.pointer (some ⟨0, 0, none⟩), .int .i64 th, .agg #[.int .u8 4, .int .i64 t, .int .u64 v]] (AH.of [some (.hi (.eng s))])
    fun r H' => r = .ret (.int .i64 0) ∧ H' = AH.of [some (.hi (.eng (askS s th ⟨4, t, v⟩)))] := by
  refine Runs.ends ?_
  refine Runs.openEng hth fun es cc hes => ?_
  have ft := find_th hth hes
  have z1 : ¬ (th : Int) < 0 := by omega
  have z2 : ¬ 4 ≤ (th : Int) := by omega
  have hac := ask_cells a hf
  obtain ⟨dp, hdp⟩ : ∃ dp, (a.fs.length : Int) - 1 = dp := ⟨_, rfl⟩
  have e1 : (dp = 0) = False := eq_false (by omega)
  have e2 : (0 < dp) = True := eq_true (by omega)
  have e3 : (4 ≤ dp) = False := eq_false (by omega)
  refine runs_by (tbl := tblW) tblW_ok 0 3 (af := a27) rfl ?_
  rw [a27, b27, run_eq]
  refine ⟨by simp, ?_⟩
  simp (implicitDefEqProofs := false) [engL, tblW, dataSt, d132, st96, forms79, a79, b79, forms84, a84, b84, z1, z2, ha, ft, tptr, slotO_some, frag_att, hac, hdp, e1, e2, e3]
  have htp := tpF_put th s.ts (b := { a with asked := true, ra := ⟨4, t, v⟩, at_ := 0, nx := 0 }) ha
  rw [← htp] at hes
  rcases th_cases hth with rfl | rfl | rfl | rfl
  · refine ends_plan [.pack (GD.att { a with asked := true, ra := ⟨4, t, v⟩, at_ := 0, nx := 0 }) 7 [12, 13], .pack (GD.eng (askS s 0 ⟨4, t, v⟩)) 0 [1, 2, 3, 4, 5, 6, 7, 8, 9, 10]] [0] ?_ ?_ ?_ <;> simp [frag_att, frag_eng, Att.ask, askS, setT, ha, slotO_some, o1, o2, o3, hdp] <;> exact hes
  · refine ends_plan [.pack (GD.att { a with asked := true, ra := ⟨4, t, v⟩, at_ := 0, nx := 0 }) 7 [12, 13], .pack (GD.eng (askS s 1 ⟨4, t, v⟩)) 0 [1, 2, 3, 4, 5, 6, 8, 7, 9, 10]] [0] ?_ ?_ ?_ <;> simp [frag_att, frag_eng, Att.ask, askS, setT, ha, slotO_some, o1, o2, o3, hdp] <;> exact hes
  · refine ends_plan [.pack (GD.att { a with asked := true, ra := ⟨4, t, v⟩, at_ := 0, nx := 0 }) 7 [12, 13], .pack (GD.eng (askS s 2 ⟨4, t, v⟩)) 0 [1, 2, 3, 4, 5, 6, 8, 9, 7, 10]] [0] ?_ ?_ ?_ <;> simp [frag_att, frag_eng, Att.ask, askS, setT, ha, slotO_some, o1, o2, o3, hdp] <;> exact hes
  · refine ends_plan [.pack (GD.att { a with asked := true, ra := ⟨4, t, v⟩, at_ := 0, nx := 0 }) 7 [12, 13], .pack (GD.eng (askS s 3 ⟨4, t, v⟩)) 0 [1, 2, 3, 4, 5, 6, 8, 9, 10, 7]] [0] ?_ ?_ ?_ <;> simp [frag_att, frag_eng, Att.ask, askS, setT, ha, slotO_some, o1, o2, o3, hdp] <;> exact hes
set_option maxRecDepth 10000 in
set_option maxHeartbeats 4000000 in
theorem ask_5m (s : NS) (hs : s.Ok) (th : Nat) (hth : th < 4) (a : Att) (ha : s.ts th = some a) (hf : a.asked = false) (t v : Int) (hd : a.fs.length ≠ 1 ∧ 1 ≤ a.fs.length ∧ a.fs.length < 5) : Runs Tryz.prog cfg 27 [.pointer (some ⟨0, 0, none⟩), .int .i64 th, .agg #[.int .u8 5, .int .i64 t, .int .u64 v]] (AH.of [some (.hi (.eng s))])
    fun r H' => r = .ret (.int .i64 0) ∧ H' = AH.of [some (.hi (.eng (askS s th ⟨5, t, v⟩)))] := by
  refine Runs.ends ?_
  refine Runs.openEng hth fun es cc hes => ?_
  have ft := find_th hth hes
  have z1 : ¬ (th : Int) < 0 := by omega
  have z2 : ¬ 4 ≤ (th : Int) := by omega
  have hac := ask_cells a hf
  obtain ⟨dp, hdp⟩ : ∃ dp, (a.fs.length : Int) - 1 = dp := ⟨_, rfl⟩
  have e1 : (dp = 0) = False := eq_false (by omega)
  have e2 : (0 < dp) = True := eq_true (by omega)
  have e3 : (4 ≤ dp) = False := eq_false (by omega)
  refine runs_by (tbl := tblW) tblW_ok 0 3 (af := a27) rfl ?_
  rw [a27, b27, run_eq]
  refine ⟨by simp, ?_⟩
  simp (implicitDefEqProofs := false) [engL, tblW, dataSt, d132, st96, forms79, a79, b79, forms84, a84, b84, z1, z2, ha, ft, tptr, slotO_some, frag_att, hac, hdp, e1, e2, e3]
  have htp := tpF_put th s.ts (b := { a with asked := true, ra := ⟨5, t, v⟩, at_ := 0, nx := 0 }) ha
  rw [← htp] at hes
  rcases th_cases hth with rfl | rfl | rfl | rfl
  · refine ends_plan [.pack (GD.att { a with asked := true, ra := ⟨5, t, v⟩, at_ := 0, nx := 0 }) 7 [12, 13], .pack (GD.eng (askS s 0 ⟨5, t, v⟩)) 0 [1, 2, 3, 4, 5, 6, 7, 8, 9, 10]] [0] ?_ ?_ ?_ <;> simp [frag_att, frag_eng, Att.ask, askS, setT, ha, slotO_some, o1, o2, o3, hdp] <;> exact hes
  · refine ends_plan [.pack (GD.att { a with asked := true, ra := ⟨5, t, v⟩, at_ := 0, nx := 0 }) 7 [12, 13], .pack (GD.eng (askS s 1 ⟨5, t, v⟩)) 0 [1, 2, 3, 4, 5, 6, 8, 7, 9, 10]] [0] ?_ ?_ ?_ <;> simp [frag_att, frag_eng, Att.ask, askS, setT, ha, slotO_some, o1, o2, o3, hdp] <;> exact hes
  · refine ends_plan [.pack (GD.att { a with asked := true, ra := ⟨5, t, v⟩, at_ := 0, nx := 0 }) 7 [12, 13], .pack (GD.eng (askS s 2 ⟨5, t, v⟩)) 0 [1, 2, 3, 4, 5, 6, 8, 9, 7, 10]] [0] ?_ ?_ ?_ <;> simp [frag_att, frag_eng, Att.ask, askS, setT, ha, slotO_some, o1, o2, o3, hdp] <;> exact hes
  · refine ends_plan [.pack (GD.att { a with asked := true, ra := ⟨5, t, v⟩, at_ := 0, nx := 0 }) 7 [12, 13], .pack (GD.eng (askS s 3 ⟨5, t, v⟩)) 0 [1, 2, 3, 4, 5, 6, 8, 9, 10, 7]] [0] ?_ ?_ ?_ <;> simp [frag_att, frag_eng, Att.ask, askS, setT, ha, slotO_some, o1, o2, o3, hdp] <;> exact hes
set_option maxRecDepth 10000 in
set_option maxHeartbeats 4000000 in
theorem ask_6m (s : NS) (hs : s.Ok) (th : Nat) (hth : th < 4) (a : Att) (ha : s.ts th = some a) (hf : a.asked = false) (t v : Int) (hd : a.fs.length ≠ 1 ∧ 1 ≤ a.fs.length ∧ a.fs.length < 5) : Runs Tryz.prog cfg 27 [.pointer (some ⟨0, 0, none⟩), .int .i64 th, .agg #[.int .u8 6, .int .i64 t, .int .u64 v]] (AH.of [some (.hi (.eng s))])
    fun r H' => r = .ret (.int .i64 8) ∧ H' = AH.of [some (.hi (.eng s))] := by
  refine Runs.ends ?_
  refine Runs.openEng hth fun es cc hes => ?_
  have ft := find_th hth hes
  have z1 : ¬ (th : Int) < 0 := by omega
  have z2 : ¬ 4 ≤ (th : Int) := by omega
  have hac := ask_cells a hf
  obtain ⟨dp, hdp⟩ : ∃ dp, (a.fs.length : Int) - 1 = dp := ⟨_, rfl⟩
  have e1 : (dp = 0) = False := eq_false (by omega)
  have e2 : (0 < dp) = True := eq_true (by omega)
  have e3 : (4 ≤ dp) = False := eq_false (by omega)
  refine runs_by (tbl := tblW) tblW_ok 0 3 (af := a27) rfl ?_
  rw [a27, b27, run_eq]
  refine ⟨by simp, ?_⟩
  simp (implicitDefEqProofs := false) [engL, tblW, dataSt, d132, st96, forms79, a79, b79, forms84, a84, b84, z1, z2, ha, ft, tptr, slotO_some, frag_att, hac, hdp, e1, e2, e3]
  rcases th_cases hth with rfl | rfl | rfl | rfl
  · refine ends_plan [.pack (GD.att a) 7 [12, 13], .pack (GD.eng s) 0 [1, 2, 3, 4, 5, 6, 7, 8, 9, 10]] [0] ?_ ?_ ?_ <;> simp [frag_att, frag_eng, hac, ha, slotO_some, hdp, o1, o2, o3] <;> exact hes
  · refine ends_plan [.pack (GD.att a) 7 [12, 13], .pack (GD.eng s) 0 [1, 2, 3, 4, 5, 6, 8, 7, 9, 10]] [0] ?_ ?_ ?_ <;> simp [frag_att, frag_eng, hac, ha, slotO_some, hdp, o1, o2, o3] <;> exact hes
  · refine ends_plan [.pack (GD.att a) 7 [12, 13], .pack (GD.eng s) 0 [1, 2, 3, 4, 5, 6, 8, 9, 7, 10]] [0] ?_ ?_ ?_ <;> simp [frag_att, frag_eng, hac, ha, slotO_some, hdp, o1, o2, o3] <;> exact hes
  · refine ends_plan [.pack (GD.att a) 7 [12, 13], .pack (GD.eng s) 0 [1, 2, 3, 4, 5, 6, 8, 9, 10, 7]] [0] ?_ ?_ ?_ <;> simp [frag_att, frag_eng, hac, ha, slotO_some, hdp, o1, o2, o3] <;> exact hes
set_option maxRecDepth 10000 in
set_option maxHeartbeats 4000000 in
theorem ask_7m (s : NS) (hs : s.Ok) (th : Nat) (hth : th < 4) (a : Att) (ha : s.ts th = some a) (hf : a.asked = false) (t v : Int) (hd : a.fs.length ≠ 1 ∧ 1 ≤ a.fs.length ∧ a.fs.length < 5) : Runs Tryz.prog cfg 27 [.pointer (some ⟨0, 0, none⟩), .int .i64 th, .agg #[.int .u8 7, .int .i64 t, .int .u64 v]] (AH.of [some (.hi (.eng s))])
    fun r H' => r = .ret (.int .i64 0) ∧ H' = AH.of [some (.hi (.eng (askS s th ⟨7, t, v⟩)))] := by
  refine Runs.ends ?_
  refine Runs.openEng hth fun es cc hes => ?_
  have ft := find_th hth hes
  have z1 : ¬ (th : Int) < 0 := by omega
  have z2 : ¬ 4 ≤ (th : Int) := by omega
  have hac := ask_cells a hf
  obtain ⟨dp, hdp⟩ : ∃ dp, (a.fs.length : Int) - 1 = dp := ⟨_, rfl⟩
  have e1 : (dp = 0) = False := eq_false (by omega)
  have e2 : (0 < dp) = True := eq_true (by omega)
  have e3 : (4 ≤ dp) = False := eq_false (by omega)
  refine runs_by (tbl := tblW) tblW_ok 0 3 (af := a27) rfl ?_
  rw [a27, b27, run_eq]
  refine ⟨by simp, ?_⟩
  simp (implicitDefEqProofs := false) [engL, tblW, dataSt, d132, st96, forms79, a79, b79, forms84, a84, b84, z1, z2, ha, ft, tptr, slotO_some, frag_att, hac, hdp, e1, e2, e3]
  have htp := tpF_put th s.ts (b := { a with asked := true, ra := ⟨7, t, v⟩, at_ := 0, nx := 0 }) ha
  rw [← htp] at hes
  rcases th_cases hth with rfl | rfl | rfl | rfl
  · refine ends_plan [.pack (GD.att { a with asked := true, ra := ⟨7, t, v⟩, at_ := 0, nx := 0 }) 7 [12, 13], .pack (GD.eng (askS s 0 ⟨7, t, v⟩)) 0 [1, 2, 3, 4, 5, 6, 7, 8, 9, 10]] [0] ?_ ?_ ?_ <;> simp [frag_att, frag_eng, Att.ask, askS, setT, ha, slotO_some, o1, o2, o3, hdp] <;> exact hes
  · refine ends_plan [.pack (GD.att { a with asked := true, ra := ⟨7, t, v⟩, at_ := 0, nx := 0 }) 7 [12, 13], .pack (GD.eng (askS s 1 ⟨7, t, v⟩)) 0 [1, 2, 3, 4, 5, 6, 8, 7, 9, 10]] [0] ?_ ?_ ?_ <;> simp [frag_att, frag_eng, Att.ask, askS, setT, ha, slotO_some, o1, o2, o3, hdp] <;> exact hes
  · refine ends_plan [.pack (GD.att { a with asked := true, ra := ⟨7, t, v⟩, at_ := 0, nx := 0 }) 7 [12, 13], .pack (GD.eng (askS s 2 ⟨7, t, v⟩)) 0 [1, 2, 3, 4, 5, 6, 8, 9, 7, 10]] [0] ?_ ?_ ?_ <;> simp [frag_att, frag_eng, Att.ask, askS, setT, ha, slotO_some, o1, o2, o3, hdp] <;> exact hes
  · refine ends_plan [.pack (GD.att { a with asked := true, ra := ⟨7, t, v⟩, at_ := 0, nx := 0 }) 7 [12, 13], .pack (GD.eng (askS s 3 ⟨7, t, v⟩)) 0 [1, 2, 3, 4, 5, 6, 8, 9, 10, 7]] [0] ?_ ?_ ?_ <;> simp [frag_att, frag_eng, Att.ask, askS, setT, ha, slotO_some, o1, o2, o3, hdp] <;> exact hes
set_option maxRecDepth 10000 in
set_option maxHeartbeats 4000000 in
theorem ask_1g (s : NS) (hs : s.Ok) (th : Nat) (hth : th < 4) (a : Att) (ha : s.ts th = some a) (hf : a.asked = false) (t v : Int) (ht : 0 ≤ t ∧ t < s.hp.length) (hd : a.fs.length ≥ 5) : Runs Tryz.prog cfg 27 [.pointer (some ⟨0, 0, none⟩), .int .i64 th, .agg #[.int .u8 1, .int .i64 t, .int .u64 v]] (AH.of [some (.hi (.eng s))])
    fun r H' => r = .ret (.int .i64 0) ∧ H' = AH.of [some (.hi (.eng (askS s th ⟨1, t, v⟩)))] := by
  refine Runs.ends ?_
  refine Runs.openEng hth fun es cc hes => ?_
  have ft := find_th hth hes
  have z1 : ¬ (th : Int) < 0 := by omega
  have z2 : ¬ 4 ≤ (th : Int) := by omega
  have hac := ask_cells a hf
  obtain ⟨dp, hdp⟩ : ∃ dp, (a.fs.length : Int) - 1 = dp := ⟨_, rfl⟩
  have t1 : ¬ t < 0 := by omega
  have t2 : ¬ (s.hp.length : Int) ≤ t := by omega
  have e1 : (dp = 0) = False := eq_false (by omega)
  have e2 : (0 < dp) = True := eq_true (by omega)
  have e3 : (4 ≤ dp) = True := eq_true (by omega)
  refine runs_by (tbl := tblW) tblW_ok 0 3 (af := a27) rfl ?_
  rw [a27, b27, run_eq]
  refine ⟨by simp, ?_⟩
  simp (implicitDefEqProofs := false) [engL, tblW, dataSt, d132, st96, forms79, a79, b79, forms84, a84, b84, z1, z2, ha, ft, tptr, slotO_some, frag_att, hac, hdp, t1, t2, e1, e2, e3]
  have htp := tpF_put th s.ts (b := { a with asked := true, ra := ⟨1, t, v⟩, at_ := 0, nx := 0 }) ha
  rw [← htp] at hes
  rcases th_cases hth with rfl | rfl | rfl | rfl
  · refine ends_plan [.pack (GD.att { a with asked := true, ra := ⟨1, t, v⟩, at_ := 0, nx := 0 }) 7 [12, 13], .pack (GD.eng (askS s 0 ⟨1, t, v⟩)) 0 [1, 2, 3, 4, 5, 6, 7, 8, 9, 10]] [0] ?_ ?_ ?_ <;> simp [frag_att, frag_eng, Att.ask, askS, setT, ha, slotO_some, o1, o2, o3, hdp] <;> exact hes
  · refine ends_plan [.pack (GD.att { a with asked := true, ra := ⟨1, t, v⟩, at_ := 0, nx := 0 }) 7 [12, 13], .pack (GD.eng (askS s 1 ⟨1, t, v⟩)) 0 [1, 2, 3, 4, 5, 6, 8, 7, 9, 10]] [0] ?_ ?_ ?_ <;> simp [frag_att, frag_eng, Att.ask, askS, setT, ha, slotO_some, o1, o2, o3, hdp] <;> exact hes
  · refine ends_plan [.pack (GD.att { a with asked := true, ra := ⟨1, t, v⟩, at_ := 0, nx := 0 }) 7 [12, 13], .pack (GD.eng (askS s 2 ⟨1, t, v⟩)) 0 [1, 2, 3, 4, 5, 6, 8, 9, 7, 10]] [0] ?_ ?_ ?_ <;> simp [frag_att, frag_eng, Att.ask, askS, setT, ha, slotO_some, o1, o2, o3, hdp] <;> exact hes
  · refine ends_plan [.pack (GD.att { a with asked := true, ra := ⟨1, t, v⟩, at_ := 0, nx := 0 }) 7 [12, 13], .pack (GD.eng (askS s 3 ⟨1, t, v⟩)) 0 [1, 2, 3, 4, 5, 6, 8, 9, 10, 7]] [0] ?_ ?_ ?_ <;> simp [frag_att, frag_eng, Att.ask, askS, setT, ha, slotO_some, o1, o2, o3, hdp] <;> exact hes
set_option maxRecDepth 10000 in
set_option maxHeartbeats 4000000 in
theorem ask_2g (s : NS) (hs : s.Ok) (th : Nat) (hth : th < 4) (a : Att) (ha : s.ts th = some a) (hf : a.asked = false) (t v : Int) (ht : 0 ≤ t ∧ t < s.hp.length) (hv : rightB v = true) (hd : a.fs.length ≥ 5) : Runs Tryz.prog cfg 27 [.pointer (some ⟨0, 0, none⟩), .int .i64 th, .agg #[.int .u8 2, .int .i64 t, .int .u64 v]] (AH.of [some (.hi (.eng s))])
    fun r H' => r = .ret (.int .i64 0) ∧ H' = AH.of [some (.hi (.eng (askS s th ⟨2, t, v⟩)))] := by
  refine Runs.ends ?_
  refine Runs.openEng hth fun es cc hes => ?_
  have ft := find_th hth hes
  have z1 : ¬ (th : Int) < 0 := by omega
  have z2 : ¬ 4 ≤ (th : Int) := by omega
  have hac := ask_cells a hf
  obtain ⟨dp, hdp⟩ : ∃ dp, (a.fs.length : Int) - 1 = dp := ⟨_, rfl⟩
  have t1 : ¬ t < 0 := by omega
  have t2 : ¬ (s.hp.length : Int) ≤ t := by omega
  have r1 : rightB v = true := hv
  have e1 : (dp = 0) = False := eq_false (by omega)
  have e2 : (0 < dp) = True := eq_true (by omega)
  have e3 : (4 ≤ dp) = True := eq_true (by omega)
  refine runs_by (tbl := tblW) tblW_ok 0 3 (af := a27) rfl ?_
  rw [a27, b27, run_eq]
  refine ⟨by simp, ?_⟩
  simp (implicitDefEqProofs := false) [engL, tblW, dataSt, d132, st96, forms79, a79, b79, forms84, a84, b84, z1, z2, ha, ft, tptr, slotO_some, frag_att, hac, hdp, t1, t2, r1, e1, e2, e3]
  have htp := tpF_put th s.ts (b := { a with asked := true, ra := ⟨2, t, v⟩, at_ := 0, nx := 0 }) ha
  rw [← htp] at hes
  rcases th_cases hth with rfl | rfl | rfl | rfl
  · refine ends_plan [.pack (GD.att { a with asked := true, ra := ⟨2, t, v⟩, at_ := 0, nx := 0 }) 7 [12, 13], .pack (GD.eng (askS s 0 ⟨2, t, v⟩)) 0 [1, 2, 3, 4, 5, 6, 7, 8, 9, 10]] [0] ?_ ?_ ?_ <;> simp [frag_att, frag_eng, Att.ask, askS, setT, ha, slotO_some, o1, o2, o3, hdp] <;> exact hes
  · refine ends_plan [.pack (GD.att { a with asked := true, ra := ⟨2, t, v⟩, at_ := 0, nx := 0 }) 7 [12, 13], .pack (GD.eng (askS s 1 ⟨2, t, v⟩)) 0 [1, 2, 3, 4, 5, 6, 8, 7, 9, 10]] [0] ?_ ?_ ?_ <;> simp [frag_att, frag_eng, Att.ask, askS, setT, ha, slotO_some, o1, o2, o3, hdp] <;> exact hes
  · refine ends_plan [.pack (GD.att { a with asked := true, ra := ⟨2, t, v⟩, at_ := 0, nx := 0 }) 7 [12, 13], .pack (GD.eng (askS s 2 ⟨2, t, v⟩)) 0 [1, 2, 3, 4, 5, 6, 8, 9, 7, 10]] [0] ?_ ?_ ?_ <;> simp [frag_att, frag_eng, Att.ask, askS, setT, ha, slotO_some, o1, o2, o3, hdp] <;> exact hes
  · refine ends_plan [.pack (GD.att { a with asked := true, ra := ⟨2, t, v⟩, at_ := 0, nx := 0 }) 7 [12, 13], .pack (GD.eng (askS s 3 ⟨2, t, v⟩)) 0 [1, 2, 3, 4, 5, 6, 8, 9, 10, 7]] [0] ?_ ?_ ?_ <;> simp [frag_att, frag_eng, Att.ask, askS, setT, ha, slotO_some, o1, o2, o3, hdp] <;> exact hes
set_option maxRecDepth 10000 in
set_option maxHeartbeats 4000000 in
theorem ask_3g (s : NS) (hs : s.Ok) (th : Nat) (hth : th < 4) (a : Att) (ha : s.ts th = some a) (hf : a.asked = false) (t v : Int) (hd : a.fs.length ≥ 5) : Runs Tryz.prog cfg 27 [.pointer (some ⟨0, 0, none⟩), .int .i64 th, .agg #[.int .u8 3, .int .i64 t, .int .u64 v]] (AH.of [some (.hi (.eng s))])
    fun r H' => r = .ret (.int .i64 4) ∧ H' = AH.of [some (.hi (.eng s))] := by
  refine Runs.ends ?_
  refine Runs.openEng hth fun es cc hes => ?_
  have ft := find_th hth hes
  have z1 : ¬ (th : Int) < 0 := by omega
  have z2 : ¬ 4 ≤ (th : Int) := by omega
  have hac := ask_cells a hf
  obtain ⟨dp, hdp⟩ : ∃ dp, (a.fs.length : Int) - 1 = dp := ⟨_, rfl⟩
  have e1 : (dp = 0) = False := eq_false (by omega)
  have e2 : (0 < dp) = True := eq_true (by omega)
  have e3 : (4 ≤ dp) = True := eq_true (by omega)
  refine runs_by (tbl := tblW) tblW_ok 0 3 (af := a27) rfl ?_
  rw [a27, b27, run_eq]
  refine ⟨by simp, ?_⟩
  simp (implicitDefEqProofs := false) [engL, tblW, dataSt, d132, st96, forms79, a79, b79, forms84, a84, b84, z1, z2, ha, ft, tptr, slotO_some, frag_att, hac, hdp, e1, e2, e3]
  rcases th_cases hth with rfl | rfl | rfl | rfl
  · refine ends_plan [.pack (GD.att a) 7 [12, 13], .pack (GD.eng s) 0 [1, 2, 3, 4, 5, 6, 7, 8, 9, 10]] [0] ?_ ?_ ?_ <;> simp [frag_att, frag_eng, hac, ha, slotO_some, hdp, o1, o2, o3] <;> exact hes
  · refine ends_plan [.pack (GD.att a) 7 [12, 13], .pack (GD.eng s) 0 [1, 2, 3, 4, 5, 6, 8, 7, 9, 10]] [0] ?_ ?_ ?_ <;> simp [frag_att, frag_eng, hac, ha, slotO_some, hdp, o1, o2, o3] <;> exact hes
  · refine ends_plan [.pack (GD.att a) 7 [12, 13], .pack (GD.eng s) 0 [1, 2, 3, 4, 5, 6, 8, 9, 7, 10]] [0] ?_ ?_ ?_ <;> simp [frag_att, frag_eng, hac, ha, slotO_some, hdp, o1, o2, o3] <;> exact hes
  · refine ends_plan [.pack (GD.att a) 7 [12, 13], .pack (GD.eng s) 0 [1, 2, 3, 4, 5, 6, 8, 9, 10, 7]] [0] ?_ ?_ ?_ <;> simp [frag_att, frag_eng, hac, ha, slotO_some, hdp, o1, o2, o3] <;> exact hes
set_option maxRecDepth 10000 in
set_option maxHeartbeats 4000000 in
theorem ask_4g (s : NS) (hs : s.Ok) (th : Nat) (hth : th < 4) (a : Att) (ha : s.ts th = some a) (hf : a.asked = false) (t v : Int) (hd : a.fs.length ≥ 5) : Runs Tryz.prog cfg 27 [.pointer (some ⟨0, 0, none⟩), .int .i64 th, .agg #[.int .u8 4, .int .i64 t, .int .u64 v]] (AH.of [some (.hi (.eng s))])
    fun r H' => r = .ret (.int .i64 0) ∧ H' = AH.of [some (.hi (.eng (askS s th ⟨4, t, v⟩)))] := by
  refine Runs.ends ?_
  refine Runs.openEng hth fun es cc hes => ?_
  have ft := find_th hth hes
  have z1 : ¬ (th : Int) < 0 := by omega
  have z2 : ¬ 4 ≤ (th : Int) := by omega
  have hac := ask_cells a hf
  obtain ⟨dp, hdp⟩ : ∃ dp, (a.fs.length : Int) - 1 = dp := ⟨_, rfl⟩
  have e1 : (dp = 0) = False := eq_false (by omega)
  have e2 : (0 < dp) = True := eq_true (by omega)
  have e3 : (4 ≤ dp) = True := eq_true (by omega)
  refine runs_by (tbl := tblW) tblW_ok 0 3 (af := a27) rfl ?_
  rw [a27, b27, run_eq]
  refine ⟨by simp, ?_⟩
  simp (implicitDefEqProofs := false) [engL, tblW, dataSt, d132, st96, forms79, a79, b79, forms84, a84, b84, z1, z2, ha, ft, tptr, slotO_some, frag_att, hac, hdp, e1, e2, e3]
  have htp := tpF_put th s.ts (b := { a with asked := true, ra := ⟨4, t, v⟩, at_ := 0, nx := 0 }) ha
  rw [← htp] at hes
  rcases th_cases hth with rfl | rfl | rfl | rfl
  · refine ends_plan [.pack (GD.att { a with asked := true, ra := ⟨4, t, v⟩, at_ := 0, nx := 0 }) 7 [12, 13], .pack (GD.eng (askS s 0 ⟨4, t, v⟩)) 0 [1, 2, 3, 4, 5, 6, 7, 8, 9, 10]] [0] ?_ ?_ ?_ <;> simp [frag_att, frag_eng, Att.ask, askS, setT, ha, slotO_some, o1, o2, o3, hdp] <;> exact hes
  · refine ends_plan [.pack (GD.att { a with asked := true, ra := ⟨4, t, v⟩, at_ := 0, nx := 0 }) 7 [12, 13], .pack (GD.eng (askS s 1 ⟨4, t, v⟩)) 0 [1, 2, 3, 4, 5, 6, 8, 7, 9, 10]] [0] ?_ ?_ ?_ <;> simp [frag_att, frag_eng, Att.ask, askS, setT, ha, slotO_some, o1, o2, o3, hdp] <;> exact hes
  · refine ends_plan [.pack (GD.att { a with asked := true, ra := ⟨4, t, v⟩, at_ := 0, nx := 0 }) 7 [12, 13], .pack (GD.eng (askS s 2 ⟨4, t, v⟩)) 0 [1, 2, 3, 4, 5, 6, 8, 9, 7, 10]] [0] ?_ ?_ ?_ <;> simp [frag_att, frag_eng, Att.ask, askS, setT, ha, slotO_some, o1, o2, o3, hdp] <;> exact hes
  · refine ends_plan [.pack (GD.att { a with asked := true, ra := ⟨4, t, v⟩, at_ := 0, nx := 0 }) 7 [12, 13], .pack (GD.eng (askS s 3 ⟨4, t, v⟩)) 0 [1, 2, 3, 4, 5, 6, 8, 9, 10, 7]] [0] ?_ ?_ ?_ <;> simp [frag_att, frag_eng, Att.ask, askS, setT, ha, slotO_some, o1, o2, o3, hdp] <;> exact hes
set_option maxRecDepth 10000 in
set_option maxHeartbeats 4000000 in
theorem ask_5g (s : NS) (hs : s.Ok) (th : Nat) (hth : th < 4) (a : Att) (ha : s.ts th = some a) (hf : a.asked = false) (t v : Int) (hd : a.fs.length ≥ 5) : Runs Tryz.prog cfg 27 [.pointer (some ⟨0, 0, none⟩), .int .i64 th, .agg #[.int .u8 5, .int .i64 t, .int .u64 v]] (AH.of [some (.hi (.eng s))])
    fun r H' => r = .ret (.int .i64 0) ∧ H' = AH.of [some (.hi (.eng (askS s th ⟨5, t, v⟩)))] := by
  refine Runs.ends ?_
  refine Runs.openEng hth fun es cc hes => ?_
  have ft := find_th hth hes
  have z1 : ¬ (th : Int) < 0 := by omega
  have z2 : ¬ 4 ≤ (th : Int) := by omega
  have hac := ask_cells a hf
  obtain ⟨dp, hdp⟩ : ∃ dp, (a.fs.length : Int) - 1 = dp := ⟨_, rfl⟩
  have e1 : (dp = 0) = False := eq_false (by omega)
  have e2 : (0 < dp) = True := eq_true (by omega)
  have e3 : (4 ≤ dp) = True := eq_true (by omega)
  refine runs_by (tbl := tblW) tblW_ok 0 3 (af := a27) rfl ?_
  rw [a27, b27, run_eq]
  refine ⟨by simp, ?_⟩
  simp (implicitDefEqProofs := false) [engL, tblW, dataSt, d132, st96, forms79, a79, b79, forms84, a84, b84, z1, z2, ha, ft, tptr, slotO_some, frag_att, hac, hdp, e1, e2, e3]
  have htp := tpF_put th s.ts (b := { a with asked := true, ra := ⟨5, t, v⟩, at_ := 0, nx := 0 }) ha
  rw [← htp] at hes
  rcases th_cases hth with rfl | rfl | rfl | rfl
  · refine ends_plan [.pack (GD.att { a with asked := true, ra := ⟨5, t, v⟩, at_ := 0, nx := 0 }) 7 [12, 13], .pack (GD.eng (askS s 0 ⟨5, t, v⟩)) 0 [1, 2, 3, 4, 5, 6, 7, 8, 9, 10]] [0] ?_ ?_ ?_ <;> simp [frag_att, frag_eng, Att.ask, askS, setT, ha, slotO_some, o1, o2, o3, hdp] <;> exact hes
  · refine ends_plan [.pack (GD.att { a with asked := true, ra := ⟨5, t, v⟩, at_ := 0, nx := 0 }) 7 [12, 13], .pack (GD.eng (askS s 1 ⟨5, t, v⟩)) 0 [1, 2, 3, 4, 5, 6, 8, 7, 9, 10]] [0] ?_ ?_ ?_ <;> simp [frag_att, frag_eng, Att.ask, askS, setT, ha, slotO_some, o1, o2, o3, hdp] <;> exact hes
  · refine ends_plan [.pack (GD.att { a with asked := true, ra := ⟨5, t, v⟩, at_ := 0, nx := 0 }) 7 [12, 13], .pack (GD.eng (askS s 2 ⟨5, t, v⟩)) 0 [1, 2, 3, 4, 5, 6, 8, 9, 7, 10]] [0] ?_ ?_ ?_ <;> simp [frag_att, frag_eng, Att.ask, askS, setT, ha, slotO_some, o1, o2, o3, hdp] <;> exact hes
  · refine ends_plan [.pack (GD.att { a with asked := true, ra := ⟨5, t, v⟩, at_ := 0, nx := 0 }) 7 [12, 13], .pack (GD.eng (askS s 3 ⟨5, t, v⟩)) 0 [1, 2, 3, 4, 5, 6, 8, 9, 10, 7]] [0] ?_ ?_ ?_ <;> simp [frag_att, frag_eng, Att.ask, askS, setT, ha, slotO_some, o1, o2, o3, hdp] <;> exact hes
set_option maxRecDepth 10000 in
set_option maxHeartbeats 4000000 in
theorem ask_6g (s : NS) (hs : s.Ok) (th : Nat) (hth : th < 4) (a : Att) (ha : s.ts th = some a) (hf : a.asked = false) (t v : Int) (hd : a.fs.length ≥ 5) : Runs Tryz.prog cfg 27 [.pointer (some ⟨0, 0, none⟩), .int .i64 th, .agg #[.int .u8 6, .int .i64 t, .int .u64 v]] (AH.of [some (.hi (.eng s))])
    fun r H' => r = .ret (.int .i64 8) ∧ H' = AH.of [some (.hi (.eng s))] := by
  refine Runs.ends ?_
  refine Runs.openEng hth fun es cc hes => ?_
  have ft := find_th hth hes
  have z1 : ¬ (th : Int) < 0 := by omega
  have z2 : ¬ 4 ≤ (th : Int) := by omega
  have hac := ask_cells a hf
  obtain ⟨dp, hdp⟩ : ∃ dp, (a.fs.length : Int) - 1 = dp := ⟨_, rfl⟩
  have e1 : (dp = 0) = False := eq_false (by omega)
  have e2 : (0 < dp) = True := eq_true (by omega)
  have e3 : (4 ≤ dp) = True := eq_true (by omega)
  refine runs_by (tbl := tblW) tblW_ok 0 3 (af := a27) rfl ?_
  rw [a27, b27, run_eq]
  refine ⟨by simp, ?_⟩
  simp (implicitDefEqProofs := false) [engL, tblW, dataSt, d132, st96, forms79, a79, b79, forms84, a84, b84, z1, z2, ha, ft, tptr, slotO_some, frag_att, hac, hdp, e1, e2, e3]
  rcases th_cases hth with rfl | rfl | rfl | rfl
  · refine ends_plan [.pack (GD.att a) 7 [12, 13], .pack (GD.eng s) 0 [1, 2, 3, 4, 5, 6, 7, 8, 9, 10]] [0] ?_ ?_ ?_ <;> simp [frag_att, frag_eng, hac, ha, slotO_some, hdp, o1, o2, o3] <;> exact hes
  · refine ends_plan [.pack (GD.att a) 7 [12, 13], .pack (GD.eng s) 0 [1, 2, 3, 4, 5, 6, 8, 7, 9, 10]] [0] ?_ ?_ ?_ <;> simp [frag_att, frag_eng, hac, ha, slotO_some, hdp, o1, o2, o3] <;> exact hes
  · refine ends_plan [.pack (GD.att a) 7 [12, 13], .pack (GD.eng s) 0 [1, 2, 3, 4, 5, 6, 8, 9, 7, 10]] [0] ?_ ?_ ?_ <;> simp [frag_att, frag_eng, hac, ha, slotO_some, hdp, o1, o2, o3] <;> exact hes
  · refine ends_plan [.pack (GD.att a) 7 [12, 13], .pack (GD.eng s) 0 [1, 2, 3, 4, 5, 6, 8, 9, 10, 7]] [0] ?_ ?_ ?_ <;> simp [frag_att, frag_eng, hac, ha, slotO_some, hdp, o1, o2, o3] <;> exact hes
set_option maxRecDepth 10000 in
set_option maxHeartbeats 4000000 in
theorem ask_7g (s : NS) (hs : s.Ok) (th : Nat) (hth : th < 4) (a : Att) (ha : s.ts th = some a) (hf : a.asked = false) (t v : Int) (hd : a.fs.length ≥ 5) : Runs Tryz.prog cfg 27 [.pointer (some ⟨0, 0, none⟩), .int .i64 th, .agg #[.int .u8 7, .int .i64 t, .int .u64 v]] (AH.of [some (.hi (.eng s))])
    fun r H' => r = .ret (.int .i64 0) ∧ H' = AH.of [some (.hi (.eng (askS s th ⟨7, t, v⟩)))] := by
  refine Runs.ends ?_
  refine Runs.openEng hth fun es cc hes => ?_
  have ft := find_th hth hes
  have z1 : ¬ (th : Int) < 0 := by omega
  have z2 : ¬ 4 ≤ (th : Int) := by omega
  have hac := ask_cells a hf
  obtain ⟨dp, hdp⟩ : ∃ dp, (a.fs.length : Int) - 1 = dp := ⟨_, rfl⟩
  have e1 : (dp = 0) = False := eq_false (by omega)
  have e2 : (0 < dp) = True := eq_true (by omega)
  have e3 : (4 ≤ dp) = True := eq_true (by omega)
  refine runs_by (tbl := tblW) tblW_ok 0 3 (af := a27) rfl ?_
  rw [a27, b27, run_eq]
  refine ⟨by simp, ?_⟩
  simp (implicitDefEqProofs := false) [engL, tblW, dataSt, d132, st96, forms79, a79, b79, forms84, a84, b84, z1, z2, ha, ft, tptr, slotO_some, frag_att, hac, hdp, e1, e2, e3]
  have htp := tpF_put th s.ts (b := { a with asked := true, ra := ⟨7, t, v⟩, at_ := 0, nx := 0 }) ha
  rw [← htp] at hes
  rcases th_cases hth with rfl | rfl | rfl | rfl
  · refine ends_plan [.pack (GD.att { a with asked := true, ra := ⟨7, t, v⟩, at_ := 0, nx := 0 }) 7 [12, 13], .pack (GD.eng (askS s 0 ⟨7, t, v⟩)) 0 [1, 2, 3, 4, 5, 6, 7, 8, 9, 10]] [0] ?_ ?_ ?_ <;> simp [frag_att, frag_eng, Att.ask, askS, setT, ha, slotO_some, o1, o2, o3, hdp] <;> exact hes
  · refine ends_plan [.pack (GD.att { a with asked := true, ra := ⟨7, t, v⟩, at_ := 0, nx := 0 }) 7 [12, 13], .pack (GD.eng (askS s 1 ⟨7, t, v⟩)) 0 [1, 2, 3, 4, 5, 6, 8, 7, 9, 10]] [0] ?_ ?_ ?_ <;> simp [frag_att, frag_eng, Att.ask, askS, setT, ha, slotO_some, o1, o2, o3, hdp] <;> exact hes
  · refine ends_plan [.pack (GD.att { a with asked := true, ra := ⟨7, t, v⟩, at_ := 0, nx := 0 }) 7 [12, 13], .pack (GD.eng (askS s 2 ⟨7, t, v⟩)) 0 [1, 2, 3, 4, 5, 6, 8, 9, 7, 10]] [0] ?_ ?_ ?_ <;> simp [frag_att, frag_eng, Att.ask, askS, setT, ha, slotO_some, o1, o2, o3, hdp] <;> exact hes
  · refine ends_plan [.pack (GD.att { a with asked := true, ra := ⟨7, t, v⟩, at_ := 0, nx := 0 }) 7 [12, 13], .pack (GD.eng (askS s 3 ⟨7, t, v⟩)) 0 [1, 2, 3, 4, 5, 6, 8, 9, 10, 7]] [0] ?_ ?_ ?_ <;> simp [frag_att, frag_eng, Att.ask, askS, setT, ha, slotO_some, o1, o2, o3, hdp] <;> exact hes
theorem ask_busy (s : NS) (th : Nat) (hth : th < 4) (hb : s.ts th = none ∨ ∃ a, s.ts th = some a ∧ a.asked = true ∧ 1 ≤ a.ra.k) (x : Ak) : Runs Tryz.prog cfg 27 [.pointer (some ⟨0, 0, none⟩), .int .i64 th, .agg #[.int .u8 x.k, .int .i64 x.t, .int .u64 x.v]] (AH.of [some (.hi (.eng s))])
    fun r H' => r = .ret (.int .i64 (askC s th x)) ∧ H' = AH.of [some (.hi (.eng s))] := by
  refine Runs.ends ?_
  refine Runs.openEng hth fun es cc hes => ?_
  have ft := find_th hth hes
  have z1 : ¬ (th : Int) < 0 := by omega
  have z2 : ¬ 4 ≤ (th : Int) := by omega
  rcases hb with ha | ⟨a, ha, hk, hk1⟩
  · refine runs_by (tbl := []) (by simp) 0 3 (af := a27) rfl ?_
    rw [a27, b27, run_eq]
    refine ⟨by simp, ?_⟩
    simp (implicitDefEqProofs := false) [engL, forms79, a79, b79, z1, z2, ha, ft, tptr]
    rcases th_cases hth with rfl | rfl | rfl | rfl
    · refine ends_plan [.pack (GD.eng s) 0 [1, 2, 3, 4, 5, 6, 7, 8, 9, 10]] [0] ?_ ?_ ?_ <;> simp [frag_eng, ha, o1, o2, o3, askC] <;> exact hes
    · refine ends_plan [.pack (GD.eng s) 0 [1, 2, 3, 4, 5, 6, 8, 7, 9, 10]] [0] ?_ ?_ ?_ <;> simp [frag_eng, ha, o1, o2, o3, askC] <;> exact hes
    · refine ends_plan [.pack (GD.eng s) 0 [1, 2, 3, 4, 5, 6, 8, 9, 7, 10]] [0] ?_ ?_ ?_ <;> simp [frag_eng, ha, o1, o2, o3, askC] <;> exact hes
    · refine ends_plan [.pack (GD.eng s) 0 [1, 2, 3, 4, 5, 6, 8, 9, 10, 7]] [0] ?_ ?_ ?_ <;> simp [frag_eng, ha, o1, o2, o3, askC] <;> exact hes
  · have hac := ask_cells1 a hk
    have hk0 : ¬ a.ra.k = 0 := by omega
    refine runs_by (tbl := []) (by simp) 0 3 (af := a27) rfl ?_
    rw [a27, b27, run_eq]
    refine ⟨by simp, ?_⟩
    simp (implicitDefEqProofs := false) [engL, forms79, a79, b79, z1, z2, ha, ft, tptr, slotO_some, frag_att, hac, hk0]
    rcases th_cases hth with rfl | rfl | rfl | rfl
    · refine ends_plan [.pack (GD.att a) 7 [12, 13], .pack (GD.eng s) 0 [1, 2, 3, 4, 5, 6, 7, 8, 9, 10]] [0] ?_ ?_ ?_ <;> simp [frag_att, frag_eng, hac, ha, slotO_some, o1, o2, o3, askC, hk] <;> exact hes
    · refine ends_plan [.pack (GD.att a) 7 [12, 13], .pack (GD.eng s) 0 [1, 2, 3, 4, 5, 6, 8, 7, 9, 10]] [0] ?_ ?_ ?_ <;> simp [frag_att, frag_eng, hac, ha, slotO_some, o1, o2, o3, askC, hk] <;> exact hes
    · refine ends_plan [.pack (GD.att a) 7 [12, 13], .pack (GD.eng s) 0 [1, 2, 3, 4, 5, 6, 8, 9, 7, 10]] [0] ?_ ?_ ?_ <;> simp [frag_att, frag_eng, hac, ha, slotO_some, o1, o2, o3, askC, hk] <;> exact hes
    · refine ends_plan [.pack (GD.att a) 7 [12, 13], .pack (GD.eng s) 0 [1, 2, 3, 4, 5, 6, 8, 9, 10, 7]] [0] ?_ ?_ ?_ <;> simp [frag_att, frag_eng, hac, ha, slotO_some, o1, o2, o3, askC, hk] <;> exact hes
theorem ask_range (d : GD) (t : Int) (ht : t < 0 ∨ 4 ≤ t) (x : Ak) : Runs Tryz.prog cfg 27 [.pointer (some ⟨0, 0, none⟩), .int .i64 t, .agg #[.int .u8 x.k, .int .i64 x.t, .int .u64 x.v]] (AH.of [some (.hi d)])
    fun r H' => r = .ret (.int .i64 2) ∧ H' = AH.of [some (.hi d)] := by
  refine Runs.ends ?_
  have ht' : ¬ t < 0 → 4 ≤ t := fun h => by omega
  refine runs_by (tbl := []) (by simp) 0 3 (af := a27) rfl ?_
  rw [a27, b27, run_eq]
  refine ⟨by simp, ?_⟩
  by_cases h1 : t < 0
  · simp (implicitDefEqProofs := false) [forms79, a79, b79, h1]
    refine ends_plan [] [0] ?_ ?_ ?_ <;> simp
  · simp (implicitDefEqProofs := false) [forms79, a79, b79, h1, ht' h1]
    refine ends_plan [] [0] ?_ ?_ ?_ <;> simp

end YtnemoimbeefngaaGreat
end Go.Proofs
/-
  NOREC: Ask, all together.
-/
set_option linter.unusedSimpArgs false
set_option linter.unusedVariables false
set_option linter.unnecessarySimpa false
set_option linter.unusedSectionVars false
namespace Go.Proofs
namespace YtnemoimbeefngaaGreat
open Go.Abs
set_option linter.unusedSimpArgs false

theorem runs_ask_free (s : NS) (hs : s.Ok) (th : Nat) (hth : th < 4) (a : Att) (ha : s.ts th = some a) (hf : a.asked = false) (x : Ak) (hk0 : 0 ≤ x.k) : Runs Tryz.prog cfg 27 [.pointer (some ⟨0, 0, none⟩), .int .i64 th, .agg #[.int .u8 x.k, .int .i64 x.t, .int .u64 x.v]] (AH.of [some (.hi (.eng s))])
    fun r H' => r = .ret (.int .i64 (wantC a s.hp.length x)) ∧ H' = AH.of [some (.hi (.eng (if wantC a s.hp.length x = 0 then askS s th x else s)))] := by
  have hl1 : 1 ≤ a.fs.length := by
    have := (hs.ts th a ha).fs.1
    cases h : a.fs with
    | nil => exact absurd h this
    | cons f fs => simp
  obtain ⟨k, t, v⟩ := x
  simp only at hk0 ⊢
  have hd : a.fs.length = 1 ∨ (a.fs.length ≠ 1 ∧ 1 ≤ a.fs.length ∧ a.fs.length < 5) ∨ a.fs.length ≥ 5 := by omega
  have ht : t < 0 ∨ (0 ≤ t ∧ (s.hp.length : Int) ≤ t) ∨ (0 ≤ t ∧ t < s.hp.length) := by omega
  have go : ∀ {c : Int} {s' : NS}, wantC a s.hp.length ⟨k, t, v⟩ = c → (if c = 0 then askS s th ⟨k, t, v⟩ else s) = s' → Runs Tryz.prog cfg 27 [.pointer (some ⟨0, 0, none⟩), .int .i64 th, .agg #[.int .u8 k, .int .i64 t, .int .u64 v]] (AH.of [some (.hi (.eng s))]) (fun r H' => r = .ret (.int .i64 c) ∧ H' = AH.of [some (.hi (.eng s'))]) →
      Runs Tryz.prog cfg 27 [.pointer (some ⟨0, 0, none⟩), .int .i64 th, .agg #[.int .u8 k, .int .i64 t, .int .u64 v]] (AH.of [some (.hi (.eng s))]) (fun r H' => r = .ret (.int .i64 (wantC a s.hp.length ⟨k, t, v⟩)) ∧ H' = AH.of [some (.hi (.eng (if wantC a s.hp.length ⟨k, t, v⟩ = 0 then askS s th ⟨k, t, v⟩ else s)))]) := by
    intro c s' h1 h2 h3
    rw [h1, h2]; exact h3
  have hk : k = 0 ∨ 7 < k ∨ k = 1 ∨ k = 2 ∨ k = 3 ∨ k = 4 ∨ k = 5 ∨ k = 6 ∨ k = 7 := by omega
  rcases hk with rfl | hk | rfl | rfl | rfl | rfl | rfl | rfl | rfl
  · exact go (by simp [wantC]) rfl (ask_0 s hs th hth a ha hf t v)
  · exact go (by simp [wantC, hk]) rfl (ask_9 s hs th hth a ha hf k hk t v)
  · rcases ht with ht | ht | ht
    · exact go (by simp [wantC, ht]) rfl (ask_1n s hs th hth a ha hf t v ht)
    · exact go (by simp [wantC, ht.2]) rfl (ask_1h s hs th hth a ha hf t v ht)
    · have t1 : ¬ t < 0 := by omega
      have t2 : ¬ (s.hp.length : Int) ≤ t := by omega
      have hw : wantC a s.hp.length ⟨1, t, v⟩ = 0 := by simp [wantC, t1, t2]
      rcases hd with hd | hd | hd
      · exact go hw rfl (ask_1z s hs th hth a ha hf t v ht hd)
      · exact go hw rfl (ask_1m s hs th hth a ha hf t v ht hd)
      · exact go hw rfl (ask_1g s hs th hth a ha hf t v ht hd)
  · rcases ht with ht | ht | ht
    · exact go (by simp [wantC, ht]) rfl (ask_2n s hs th hth a ha hf t v ht)
    · exact go (by simp [wantC, ht.2]) rfl (ask_2h s hs th hth a ha hf t v ht)
    · have t1 : ¬ t < 0 := by omega
      have t2 : ¬ (s.hp.length : Int) ≤ t := by omega
      cases hr : rightB v with
      | false => exact go (by simp [wantC, t1, t2, hr]) rfl (ask_2r s hs th hth a ha hf t v ht hr)
      | true =>
        have hw : wantC a s.hp.length ⟨2, t, v⟩ = 0 := by simp [wantC, t1, t2, hr]
        rcases hd with hd | hd | hd
        · exact go hw rfl (ask_2z s hs th hth a ha hf t v ht hr hd)
        · exact go hw rfl (ask_2m s hs th hth a ha hf t v ht hr hd)
        · exact go hw rfl (ask_2g s hs th hth a ha hf t v ht hr hd)
  · rcases hd with hd | hd | hd
    · exact go (by simp [wantC]; omega) rfl (ask_3z s hs th hth a ha hf t v hd)
    · exact go (by simp [wantC]; omega) rfl (ask_3m s hs th hth a ha hf t v hd)
    · have h5 : 5 ≤ a.fs.length := hd
      exact go (by simp [wantC, h5]) rfl (ask_3g s hs th hth a ha hf t v hd)
  · rcases hd with hd | hd | hd
    · exact go (by simp [wantC, hd]) rfl (ask_4z s hs th hth a ha hf t v hd)
    · exact go (by simp [wantC, hd.1]) rfl (ask_4m s hs th hth a ha hf t v hd)
    · have h5 : ¬ a.fs.length = 1 := by omega
      exact go (by simp [wantC, h5]) rfl (ask_4g s hs th hth a ha hf t v hd)
  · rcases hd with hd | hd | hd
    · exact go (by simp [wantC, hd]) rfl (ask_5z s hs th hth a ha hf t v hd)
    · exact go (by simp [wantC, hd.1]) rfl (ask_5m s hs th hth a ha hf t v hd)
    · have h5 : ¬ a.fs.length = 1 := by omega
      exact go (by simp [wantC, h5]) rfl (ask_5g s hs th hth a ha hf t v hd)
  · rcases hd with hd | hd | hd
    · exact go (by simp [wantC, hd]) rfl (ask_6z s hs th hth a ha hf t v hd)
    · have h5 : 1 < a.fs.length := by omega
      exact go (by simp [wantC, h5]) rfl (ask_6m s hs th hth a ha hf t v hd)
    · have h5 : 1 < a.fs.length := by omega
      exact go (by simp [wantC, h5]) rfl (ask_6g s hs th hth a ha hf t v hd)
  · rcases hd with hd | hd | hd
    · exact go (by simp [wantC]) rfl (ask_7z s hs th hth a ha hf t v hd)
    · exact go (by simp [wantC]) rfl (ask_7m s hs th hth a ha hf t v hd)
    · exact go (by simp [wantC]) rfl (ask_7g s hs th hth a ha hf t v hd)
def askR (s : NS) (t : Int) (x : Ak) : Int := match thOf t with
  | none => 2
  | some th => askC s th x
def askX (s : NS) (t : Int) (x : Ak) : NS := match thOf t with
  | none => s
  | some th => if askC s th x = 0 then askS s th x else s
def d27 : DStep
  | .eng s, [.int .i64 t, .agg ⟨[.int .u8 k, .int .i64 tv, .int .u64 v]⟩] => some (s.Ok ∧ 0 ≤ k, .int .i64 (askR s t ⟨k, tv, v⟩), .eng (askX s t ⟨k, tv, v⟩))
  | _, _ => none
theorem st27_ok : CStepOk Tryz.prog cfg 27 (dataSt d27) := data_ok fun d rest p v d' h hp => by
  unfold d27 at h
  split at h
  case h_2 => cases h
  rename_i s t k tv v
  cases h
  refine ⟨rfl, rfl, ?_⟩
  cases ht : thOf t with
  | none => simp only [askR, askX, ht]; exact ask_range _ _ (thOf_none ht) ⟨k, tv, v⟩
  | some th =>
    obtain ⟨h1, rfl⟩ := thOf_some ht
    simp only [askR, askX, ht]
    cases ha : s.ts th with
    | none =>
      have e : askC s th ⟨k, tv, v⟩ = 8 := by simp [askC, ha]
      rw [if_neg (by rw [e]; decide)]
      exact ask_busy s th h1 (.inl ha) ⟨k, tv, v⟩
    | some a =>
      cases hf : a.asked with
      | true =>
        have e : askC s th ⟨k, tv, v⟩ = 7 := by simp [askC, ha, hf]
        rw [if_neg (by rw [e]; decide)]
        exact ask_busy s th h1 (.inr ⟨a, ha, hf, ((hp.1.ts th a ha).ask hf).1⟩) ⟨k, tv, v⟩
      | false =>
        have e : askC s th ⟨k, tv, v⟩ = wantC a s.hp.length ⟨k, tv, v⟩ := by simp [askC, ha, hf]
        rw [e]
        exact runs_ask_free s hp.1 th h1 a ha hf ⟨k, tv, v⟩ hp.2
end YtnemoimbeefngaaGreat
end Go.Proofs
