/-
  THE DATA, and how each lies.
-/
import Derived.Test.YtmhkpababjdnbaaDoorPF
import Derived.Test.YtmhkpababjdnbaaDoorPA3
set_option linter.unusedSimpArgs false
set_option linter.unusedVariables false
set_option linter.unnecessarySimpa false
set_option linter.unusedSectionVars false
namespace Go.Proofs
namespace YtmhkpababjdnbaaDoor
open Go.Abs

structure Ent where
  t : Int
  v : Int
  n : Int
  deriving DecidableEq

/-- A variable and a value. -/
structure Pr where
  t : Int
  v : Int
  deriving DecidableEq
/-- An event. -/
structure Ev where
  k : Int
  a : Int
  t : Int
  v : Int
  deriving DecidableEq
/-- What is asked for. -/
structure Ak where
  k : Int
  t : Int
  v : Int
  deriving DecidableEq
/-- An attempt of norec: its number, snapshot, reads, frames (the uppermost first), what is asked for, and how far it is. -/
structure Att where
  n : Nat
  snap : Int
  es : List Ent
  fs : List (List Pr)
  asked : Bool
  ra : Ak
  at_ : Nat
  back : Nat
  nx : Nat
  seen : Int
  val : Int
  dec : Bool
  deriving DecidableEq
/-- norec: who has the lock, what it counts, the heap, the threads, events, keys, reasons. -/
structure NS where
  o : Option Int
  c : Int
  hp : List Int
  ts : Nat → Option Att
  ev : List Ev
  ky : List Int
  wy : List Int

/-- An attempt of tl2: its number, clock at first, new version, reads, frames, what is asked for, its phase, how far it is, what a read has seen (word, value, steps), whether it is decided. -/
structure TA where
  n : Nat
  rv : Int
  wv : Int
  es : List Ent
  fs : List (List Pr)
  ra : Ak
  ph : Nat
  nx : Nat
  sw : Int
  sv : Int
  ss : Nat
  dec : Bool
  deriving DecidableEq
/-- What is told of an attempt for ever. -/
structure Fate where
  n : Nat
  key : Int
  why : Int
  deriving DecidableEq
/-- tl2: words, clock, heap, threads, events, fates. -/
structure TS where
  ws : List Int
  c : Int
  hp : List Int
  ts : Nat → Option TA
  ev : List Ev
  ft : List Fate

inductive GD where
  | lk (o : Option Int) (c : Int)
  | rlk (o : Option Int) (c : Int)
  | stk (fs : List (List Pr))
  | log (fs : List (List Pr))
  | rlog (fs : List (List Pr))
  | att (a : Att)
  | ratt (a : Att)
  | eng (s : NS)
  | reng (s : NS)
  | set (c : Nat) (l : List Ent)
  | rset (l : List Ent)
  | tab (ws : List Int) (c : Int)
  | rtab (ws : List Int) (c : Int)
  | vints (l : List Int)
  | tatt (a : TA)
  | teng (s : TS)

def Fate.cells (f : Fate) : List Value := [.int .i64 f.n, .int .u64 f.key, .int .u8 f.why]
def fates (l : List Fate) : List Value := l.flatMap Fate.cells
def Ent.cells (e : Ent) : List Value := [.int .i64 e.t, .int .u64 e.v, .int .u64 e.n]
def Ent.val (e : Ent) : Value := .agg e.cells.toArray
def epairs (l : List Ent) : List (Value × Value) := l.map fun e => (.int .i64 e.t, e.val)
def tvars (l : List Ent) : List Value := l.map fun e => .int .i64 e.t
def rows (l : List Ent) : List Value := l.flatMap Ent.cells
def us (h : List Int) : List Value := h.map fun v => .int .u64 v

def Pr.cells (p : Pr) : List Value := [.int .i64 p.t, .int .u64 p.v]
def prs (l : List Pr) : List Value := l.flatMap Pr.cells
def Ev.cells (e : Ev) : List Value := [.int .u8 e.k, .int .i64 e.a, .int .i64 e.t, .int .u64 e.v]
def evs (l : List Ev) : List Value := l.flatMap Ev.cells
def u8s (l : List Int) : List Value := l.map fun v => .int .u8 v
/-- What the program keeps of it. -/
def Att.ask (a : Att) : Ak := if a.asked then a.ra else ⟨0, 0, 0⟩
def nextP : List (List Pr) → Value
  | [] => .pointer none
  | _ :: _ => .pointer (some ⟨2, 0, none⟩)
def nextO : List (List Pr) → List (AObj GD)
  | [] => []
  | f :: fs => [.hi (.stk (f :: fs))]
def stkO : List (List Pr) → List (AObj GD)
  | [] => [.arr 112 []]
  | f :: fs => .arr 112 [.slice (some ⟨1, 0, none⟩) f.length 1, nextP fs] :: .arr 117 (prs f) :: nextO fs
def lkO : Option Int → Int → List (AObj GD)
  | none, c => [.arr 0 [.pointer none, .int .u64 c]]
  | some x, c => [.arr 0 [.pointer (some ⟨1, 0, none⟩), .int .u64 c], .arr 3 [.int .i64 x]]
/-- A frame's value of a variable. -/
def getP (f : List Pr) (t : Int) : Option Int := (f.find? fun p => p.t == t).map (·.v)
def tv12 : List Int := [0, 1, 2, 3, 4, 5, 6, 7, 8, 9, 10, 11]
def frameC (f : List Pr) : List Value := (tv12.map fun t => .bool (getP f t).isSome) ++ tv12.map fun t => .int .u64 ((getP f t).getD 0)
def slotO : Option Att → AObj GD
  | some a => .hi (.att a)
  | none => .arr 0 []
def rslotO : Option Att → AObj GD
  | some a => .hi (.ratt a)
  | none => .arr 0 []
def tp1 (i : Int) (k : Nat) : Option Att → List (Value × Value)
  | some _ => [(.int .i64 i, .pointer (some ⟨k, 0, none⟩))]
  | none => []
/-- The threads' map. -/
def tpK (k0 k1 k2 k3 : Nat) (ts : Nat → Option Att) : List (Value × Value) := tp1 0 k0 (ts 0) ++ (tp1 1 k1 (ts 1) ++ (tp1 2 k2 (ts 2) ++ tp1 3 k3 (ts 3)))
def rptr (k : Nat) : Option Att → Value
  | some _ => .pointer (some ⟨k, 0, none⟩)
  | none => .pointer none
def tslotO : Option TA → AObj GD
  | some a => .hi (.tatt a)
  | none => .arr 0 []
def teptr (k : Nat) : Option TA → Value
  | some _ => .pointer (some ⟨k, 0, none⟩)
  | none => .pointer none
/-- A key and a reason, as the reference keeps them. -/
def keyC (ky wy : List Int) : List Value := (ky.zip wy).flatMap fun x => [.int .u64 x.1, .int .u8 x.2]

def frag : GD → List (AObj GD)
  | .lk o c => lkO o c
  | .rlk o c => [.arr 0 [.int .u64 c, .bool o.isSome, .int .i64 (o.getD 0)]]
  | .stk fs => stkO fs
  | .log fs => [.arr 100 [.pointer (some ⟨1, 0, none⟩), .int .i64 ((fs.length : Int) - 1)], .hi (.stk fs)]
  | .rlog fs => [.arr 125 [.slice (some ⟨1, 0, none⟩) fs.length 1], .arr 134 (fs.reverse.flatMap frameC)]
  | .att a => [.arr 0 [.pointer (some ⟨1, 0, none⟩), .pointer (some ⟨2, 0, none⟩), .int .i64 a.n, .int .u64 a.snap, .int .u8 a.ask.k, .int .i64 a.ask.t, .int .u64 a.ask.v, .int .i64 a.at_, .int .i64 a.back, .int .i64 a.nx, .int .u64 a.seen, .int .u64 a.val, .bool a.dec],
      .hi (.set 0 a.es), .hi (.log a.fs)]
  | .ratt a => [.arr 0 [.int .i64 a.n, .int .u64 a.snap, .pointer (some ⟨1, 0, none⟩), .pointer (some ⟨2, 0, none⟩), .bool a.asked, .int .u8 a.ra.k, .int .i64 a.ra.t, .int .u64 a.ra.v, .int .i64 (if a.at_ < 4 then a.at_ else a.at_ + 6), .int .i64 a.back, .int .i64 a.nx, .int .u64 a.seen, .int .u64 a.val, .bool a.dec],
      .hi (.rset a.es), .hi (.rlog a.fs)]
  | .eng s => [.arr 0 [.pointer (some ⟨1, 0, none⟩), .slice (some ⟨2, 0, none⟩) s.hp.length 1, .map (some 3), .slice (some ⟨4, 0, none⟩) s.ev.length 1, .slice (some ⟨5, 0, none⟩) s.ky.length 1, .slice (some ⟨6, 0, none⟩) s.wy.length 1],
      .hi (.lk s.o s.c), .arr 41 (us s.hp), .mapq (tpK 7 8 9 10 s.ts), .arr 43 (evs s.ev), .arr 40 (us s.ky), .arr 0 (u8s s.wy), slotO (s.ts 0), slotO (s.ts 1), slotO (s.ts 2), slotO (s.ts 3)]
  | .reng s => [.arr 0 [.slice (some ⟨1, 0, none⟩) s.hp.length 1, .pointer (some ⟨2, 0, none⟩), rptr 5 (s.ts 0), rptr 6 (s.ts 1), rptr 7 (s.ts 2), rptr 8 (s.ts 3), .slice (some ⟨3, 0, none⟩) s.ev.length 1, .slice (some ⟨4, 0, none⟩) s.ky.length 1],
      .arr 41 (us s.hp), .hi (.rlk s.o s.c), .arr 43 (evs s.ev), .arr 0 (keyC s.ky s.wy), rslotO (s.ts 0), rslotO (s.ts 1), rslotO (s.ts 2), rslotO (s.ts 3)]
  | .set c l => [.arr 0 [.slice (some ⟨1, 0, none⟩) l.length 1, .map (some 2)], .arr 3 (tvars l), .mapq (epairs l)]
  | .rset l => [.arr 0 [.slice (some ⟨1, 0, none⟩) l.length 1], .arr 0 (rows l)]
  | .tab ws c => [.arr 0 [.int .u64 c, .slice (some ⟨1, 0, none⟩) ws.length 1], .arr 40 (us ws)]
  | .rtab ws c => [.arr 0 [.slice (some ⟨1, 0, none⟩) ws.length 1, .int .u64 c], .arr 40 (us ws)]
  | .vints l => [.arr 31 [.slice (some ⟨1, 0, none⟩) l.length 1], .arr 3 (ints l)]
  | .tatt a => [.arr 0 [.pointer (some ⟨1, 0, none⟩), .pointer (some ⟨2, 0, none⟩), .int .i64 a.n, .int .u64 a.rv, .int .u64 a.wv, .int .u8 a.ra.k, .int .i64 a.ra.t, .int .u64 a.ra.v, .int .i64 a.ph, .int .i64 a.nx, .int .u64 a.sw, .int .u64 a.sv, .int .i64 a.ss, .bool a.dec],
      .hi (.set 0 a.es), .hi (.log a.fs)]
  | .teng s => [.arr 0 [.pointer (some ⟨1, 0, none⟩), .slice (some ⟨2, 0, none⟩) s.hp.length 1, teptr 5 (s.ts 0), teptr 6 (s.ts 1), teptr 7 (s.ts 2), teptr 8 (s.ts 3), .slice (some ⟨3, 0, none⟩) s.ev.length 1, .slice (some ⟨4, 0, none⟩) s.ft.length 1],
      .hi (.tab s.ws s.c), .arr 41 (us s.hp), .arr 43 (evs s.ev), .arr 0 (fates s.ft), tslotO (s.ts 0), tslotO (s.ts 1), tslotO (s.ts 2), tslotO (s.ts 3)]

theorem frag_stk1 (f : List Pr) : frag (.stk [f]) = [.arr 112 [.slice (some ⟨1, 0, none⟩) f.length 1, .pointer none], .arr 117 (prs f)] := rfl
theorem frag_stk2 (f g : List Pr) (fs : List (List Pr)) : frag (.stk (f :: g :: fs)) = [.arr 112 [.slice (some ⟨1, 0, none⟩) f.length 1, .pointer (some ⟨2, 0, none⟩)], .arr 117 (prs f), .hi (.stk (g :: fs))] := rfl
theorem frag_log (fs : List (List Pr)) : frag (.log fs) = [.arr 100 [.pointer (some ⟨1, 0, none⟩), .int .i64 ((fs.length : Int) - 1)], .hi (.stk fs)] := rfl
abbrev cfg := cfgOf Tryd.prog frag
abbrev G := gX Tryd.prog frag

/-- The rule, over this seat's forms. -/
theorem runs_by {tbl : List (FuncId × CStep GD)} (h : ∀ x ∈ tbl, CStepOk Tryd.prog cfg x.1 x.2) (F d : Nat) {f : FuncId} {af : AF} (hf : forms f = some af) {args : List Value} {H : AH GD} {K : AEnd → AH GD → Prop}
    (hr : af.run (G (callX G (tabS (SeesG Tryd.prog cfg) tbl) forms F d noY) (callX G (tabS (SeesG Tryd.prog cfg) tbl) forms F d)) F args H K) : Runs Tryd.prog cfg f args H K :=
  runs_of gX_ok hmix hext (tabS_ok h) forms_ok F d hf hr
end YtmhkpababjdnbaaDoor
end Go.Proofs
/-
  WHAT IS READ off arguments and heaps.
-/
set_option linter.unusedSimpArgs false
set_option linter.unusedVariables false
set_option linter.unnecessarySimpa false
set_option linter.unusedSectionVars false
namespace Go.Proofs
namespace YtmhkpababjdnbaaDoor
open Go.Abs
set_option linter.unusedSimpArgs false

def ptr0 : Value → Option Nat
  | .pointer (some ⟨k, 0, none⟩) => some k
  | _ => none
theorem ptr0_eq (k : Nat) : ptr0 (.pointer (some ⟨k, 0, none⟩)) = some k := rfl
def asU : Value → Option Int
  | .int .u64 v => some v
  | _ => none
def asI : Value → Option Int
  | .int .i64 v => some v
  | _ => none
theorem asU_eq (v : Int) : asU (.int .u64 v) = some v := rfl
theorem asI_eq (v : Int) : asI (.int .i64 v) = some v := rfl
theorem asU_inv {x : Value} {v : Int} (h : asU x = some v) : x = .int .u64 v := by
  unfold asU at h
  split at h
  · cases h; rfl
  · cases h
theorem upd_get {H : AH GD} {k : Nat} {o : AObj GD} (h : H.get k = some o) : H.upd k o = H := by
  refine AH.ext' rfl fun j => ?_
  rw [AH.get_upd]
  split
  · rename_i e; subst e; exact h.symm
  · rfl
theorem us_ground (h : List Int) : grounds (us h) = true := by
  induction h with
  | nil => rfl
  | cons v h ih => simp [us, grounds, ground] at ih ⊢; exact ih
theorem ren_us (θ : Nat → Nat) (h : List Int) : rens θ (us h) = us h := rens_ground θ _ (us_ground h)
def sl0 : Value → Option (Nat × Nat × Nat)
  | .slice (some ⟨k, 0, none⟩) n c => some (k, n, c)
  | _ => none
theorem sl0_eq (k n c : Nat) : sl0 (.slice (some ⟨k, 0, none⟩) n c) = some (k, n, c) := rfl
def asUs : List Value → Option (List Int)
  | [] => some []
  | .int .u64 v :: l => (asUs l).map (v :: ·)
  | _ => none
theorem asUs_us : ∀ h : List Int, asUs (us h) = some h
  | [] => rfl
  | v :: h => by
    show (asUs (us h)).map (v :: ·) = _
    rw [asUs_us h]; rfl
theorem upd_upd (H : AH GD) (k : Nat) (o o' : AObj GD) : (H.upd k o).upd k o' = H.upd k o' := by
  refine AH.ext' rfl fun j => ?_
  simp only [AH.get_upd]
  split <;> rfl
def asInts : List Value → Option (List Int)
  | [] => some []
  | .int .i64 v :: l => (asInts l).map (v :: ·)
  | _ => none
theorem asInts_ints : ∀ h : List Int, asInts (ints h) = some h
  | [] => rfl
  | v :: h => by
    show (asInts (ints h)).map (v :: ·) = _
    rw [asInts_ints h]; rfl
theorem asInts_inv : ∀ {cs : List Value} {h : List Int}, asInts cs = some h → cs = ints h
  | [], h, e => by cases e; rfl
  | v :: cs, h, e => by
    unfold asInts at e
    split at e
    · simp_all
    · rename_i v' l heq
      cases heq
      simp only [Option.map_eq_some_iff] at e
      obtain ⟨h', e1, rfl⟩ := e
      rw [asInts_inv e1]; rfl
    · cases e
theorem ints_at {h : List Int} {i : Nat} {v : Int} (hv : h[i]? = some v) : (ints h)[i]? = some (.int .i64 v) := by simp [ints, hv]
theorem ints_get {h : List Int} {i : Nat} {v : Int} (hv : h[i]? = some v) (p : i < (ints h).length) : (ints h)[i]'p = .int .i64 v := by
  have := ints_at hv
  rw [List.getElem?_eq_getElem p] at this
  exact Option.some.inj this
theorem ints_append (a b : List Int) : ints (a ++ b) = ints a ++ ints b := by simp [ints]
theorem take_ints (l : List Int) : (ints l).take l.length = ints l := List.take_of_length_le (by simp)
/-- A row of whole numbers. -/
def getInts (H : AH GD) (k : Nat) : Option (TypeId × List Int) :=
  match H.get k with
  | some (.arr e cs) => (asInts cs).map fun h => (e, h)
  | _ => none
theorem getInts_inv {H : AH GD} {k : Nat} {x : TypeId × List Int} (hg : getInts H k = some x) : H.get k = some (.arr x.1 (ints x.2)) := by
  unfold getInts at hg
  split at hg
  · rename_i e cs he
    simp only [Option.map_eq_some_iff] at hg
    obtain ⟨h, h1, rfl⟩ := hg
    rw [he, asInts_inv h1]
  · cases hg
theorem inc_i64 {i n : Nat} (hi : i < n) (hn : n ≤ 1000000) : IntKind.i64.wrap ((i : Int) + 1) = ((i + 1 : Nat) : Int) := by rw [wrap_i64 (by omega) (by omega)]; omega
theorem ints_single (v : Int) : ints [v] = [.int .i64 v] := rfl
theorem ptr0_nil : ptr0 (.pointer none) = none := rfl
def isNil : Value → Option Unit
  | .pointer none => some ()
  | _ => none
theorem isNil_eq : isNil (.pointer none) = some () := rfl
theorem isNil_ptr (k o : Nat) : isNil (.pointer (some ⟨k, o, none⟩)) = none := rfl
abbrev PStep := List Value → Option (Prop × Value)
def pureStep (f : PStep) : CStep GD := fun args H => (f args).map fun x => (x.1, .ret x.2, H)
theorem pure_ok {fid : FuncId} {f : PStep} (h : ∀ args p v, f args = some (p, v) → p → grounds args = true ∧ ground v = true ∧ Runs Tryd.prog cfg fid args (AH.of []) fun r H' => r = .ret v ∧ H' = AH.of []) : CStepOk Tryd.prog cfg fid (pureStep f) := by
  intro args H p r H' he hp
  simp only [pureStep, Option.map_eq_some_iff] at he
  obtain ⟨⟨p', v⟩, h1, h2⟩ := he
  cases h2
  obtain ⟨g1, g2, hr⟩ := h args p' v h1 hp
  exact hr.atK (ro_none rfl) [] (by simp) (by simp) trivial (by rw [rens_ground _ _ g1]) (by rw [renE_ret, ren_ground _ _ g2]) (by simp)
abbrev DStep := GD → List Value → Option (Prop × Value × GD)
def dataSt (g : DStep) : CStep GD := fun args H => match args with
  | .pointer (some ⟨k, 0, none⟩) :: rest => match H.get k with
    | some (.hi d) => (g d rest).map fun x => (x.1, .ret x.2.1, H.upd k (.hi x.2.2))
    | _ => none
  | _ => none
theorem data_ok {fid : FuncId} {g : DStep} (h : ∀ d rest p v d', g d rest = some (p, v, d') → p → grounds rest = true ∧ ground v = true ∧ Runs Tryd.prog cfg fid (.pointer (some ⟨0, 0, none⟩) :: rest) (AH.of [some (.hi d)]) fun r H' => r = .ret v ∧ H' = AH.of [some (.hi d')]) : CStepOk Tryd.prog cfg fid (dataSt g) := by
  intro args H p r H' he hp
  unfold dataSt at he
  split at he
  case h_2 => cases he
  split at he
  case h_2 => cases he
  simp only [Option.map_eq_some_iff] at he
  obtain ⟨⟨p', v, d'⟩, h1, h2⟩ := he
  rename_i k rest x d hk
  cases h2
  obtain ⟨g1, g2, hr⟩ := h d rest p' v d' h1 hp
  exact hr.atK (ro_none rfl) [k] (by simp) (by simp) (by simp [hk]) (by rw [rens, rens_ground _ _ g1]; simp) (by rw [renE_ret, ren_ground _ _ g2]) (by simp)
attribute [simp] ren_us ptr0_eq ptr0_nil asU_eq asI_eq sl0_eq asUs_us asUs asInts_ints isNil_eq isNil_ptr
end YtmhkpababjdnbaaDoor
end Go.Proofs
/-
  WRITES: frames.
-/
set_option linter.unusedSimpArgs false
set_option linter.unusedVariables false
set_option linter.unnecessarySimpa false
set_option linter.unusedSectionVars false
namespace Go.Proofs
namespace YtmhkpababjdnbaaDoor
open Go.Abs
set_option linter.unusedSimpArgs false

def putF : List Pr → Pr → List Pr
  | [], p => [p]
  | q :: f, p => if q.t = p.t then ⟨q.t, p.v⟩ :: f else q :: putF f p
theorem prs_cons (p : Pr) (l : List Pr) : prs (p :: l) = .int .i64 p.t :: .int .u64 p.v :: prs l := rfl
theorem prs_length (l : List Pr) : (prs l).length = l.length * 2 := by
  induction l with
  | nil => rfl
  | cons e l ih => rw [prs_cons, List.length_cons, List.length_cons, ih, List.length_cons]; omega
theorem prs_append (a b : List Pr) : prs (a ++ b) = prs a ++ prs b := by simp [prs]
theorem prs_ground (l : List Pr) : grounds (prs l) = true := by
  induction l with
  | nil => rfl
  | cons e l ih => rw [prs_cons]; simp [grounds, ground, ih]
theorem ren_prs (θ : Nat → Nat) (l : List Pr) : rens θ (prs l) = prs l := rens_ground θ _ (prs_ground l)
theorem take_prs (l : List Pr) : (prs l).take (l.length * 2) = prs l := List.take_of_length_le (by simp [prs_length])
theorem many_prs {i : Nat} {x : Pr} : ∀ {l : List Pr}, l[i]? = some x → ((prs l).drop (i * 2)).take 2 = x.cells := by
  induction i with
  | zero =>
    intro l h
    cases l with
    | nil => simp at h
    | cons e l => simp at h; subst h; rfl
  | succ i ih =>
    intro l h
    cases l with
    | nil => simp at h
    | cons e l =>
      rw [prs_cons, show (i + 1) * 2 = i * 2 + 1 + 1 by omega]
      simpa using ih (l := l) (by simpa using h)
theorem prs_at {l : List Pr} {i : Nat} {x : Pr} (h : l[i]? = some x) : (prs l)[i * 2]? = some (.int .i64 x.t) ∧ (prs l)[i * 2 + 1]? = some (.int .u64 x.v) := by
  have h3 := many_prs h
  have g : ∀ j, j < 2 → (prs l)[i * 2 + j]? = x.cells[j]? := fun j hj => by
    rw [← h3, List.getElem?_take, if_pos hj, List.getElem?_drop]
  exact ⟨g 0 (by omega), g 1 (by omega)⟩
theorem prs_single (p : Pr) : prs [p] = [.int .i64 p.t, .int .u64 p.v] := rfl
attribute [simp] ren_prs

/-- A value of a variable, as it is told. -/
def optR (o : Option Int) : Value := .tuple #[.int .u64 (o.getD 0), .bool o.isSome]
theorem getP_first {f : List Pr} {t : Int} {i : Nat} {x : Pr} (hpre : ∀ (j : Nat) (y : Pr), j < i → f[j]? = some y → y.t ≠ t) (hx : f[i]? = some x) (ht : x.t = t) : getP f t = some x.v := by
  induction f generalizing i with
  | nil => simp at hx
  | cons a f ih =>
    cases i with
    | zero => simp at hx; subst hx; simp [getP, ht]
    | succ i =>
      have ha : a.t ≠ t := hpre 0 a (by omega) rfl
      have : getP (a :: f) t = getP f t := by simp [getP, ha]
      rw [this]
      exact ih (i := i) (fun j y hj hy => hpre (j + 1) y (by omega) (by simpa using hy)) (by simpa using hx)
theorem getP_none {f : List Pr} {t : Int} (h : ∀ (j : Nat) (y : Pr), f[j]? = some y → y.t ≠ t) : getP f t = none := by
  have : f.find? (fun p => p.t == t) = none := by
    rw [List.find?_eq_none]
    intro x hx
    obtain ⟨j, hj⟩ := List.mem_iff_getElem?.1 hx
    simpa using h j x hj
  simp [getP, this]
theorem putF_at {f : List Pr} {p : Pr} {i : Nat} {x : Pr} (hpre : ∀ (j : Nat) (y : Pr), j < i → f[j]? = some y → y.t ≠ p.t) (hx : f[i]? = some x) (ht : x.t = p.t) : putF f p = f.set i p := by
  induction f generalizing i with
  | nil => simp at hx
  | cons a f ih =>
    cases i with
    | zero =>
      simp at hx; subst hx
      have : p = ⟨a.t, p.v⟩ := by cases p; simp_all
      simp [putF, ht]
    | succ i =>
      have ha : a.t ≠ p.t := hpre 0 a (by omega) rfl
      simp only [putF, if_neg ha, List.set_cons_succ]
      rw [ih (i := i) (fun j y hj hy => hpre (j + 1) y (by omega) (by simpa using hy)) (by simpa using hx)]
theorem putF_new {f : List Pr} {p : Pr} (h : ∀ (j : Nat) (y : Pr), f[j]? = some y → y.t ≠ p.t) : putF f p = f ++ [p] := by
  induction f with
  | nil => rfl
  | cons a f ih =>
    have ha : a.t ≠ p.t := h 0 a rfl
    simp only [putF, if_neg ha, List.cons_append]
    rw [ih fun j y hj => h (j + 1) y (by simpa using hj)]
theorem putF_length_le (f : List Pr) (p : Pr) : (putF f p).length ≤ f.length + 1 := by
  induction f with
  | nil => simp [putF]
  | cons a f ih =>
    simp only [putF]
    split
    · simp
    · simp; omega
theorem prs_set {f : List Pr} {i : Nat} {x p : Pr} (hx : f[i]? = some x) (ht : x.t = p.t) : (prs f).set (i * 2 + 1) (.int .u64 p.v) = prs (f.set i p) := by
  induction f generalizing i with
  | nil => simp at hx
  | cons a f ih =>
    cases i with
    | zero =>
      simp at hx; subst hx
      simp [prs_cons, ht]
    | succ i =>
      rw [prs_cons, show (i + 1) * 2 + 1 = i * 2 + 1 + 1 + 1 by omega, List.set_cons_succ, List.set_cons_succ, ih (by simpa using hx), List.set_cons_succ, prs_cons]

set_option maxHeartbeats 1000000 in
theorem runs71 (e : TypeId) (f : List Pr) (tg : Nat) (t : Int) (hl : f.length ≤ 1000) : Runs Tryd.prog cfg 71 [.slice (some ⟨0, 0, none⟩) f.length tg, .int .i64 t] (AH.of [some (.arr e (prs f))])
    fun r H' => r = .ret (optR (getP f t)) ∧ H' = AH.of [some (.arr e (prs f))] := by
  refine Runs.ends ?_
  obtain ⟨n, hn⟩ : ∃ n, f.length = n := ⟨_, rfl⟩
  rw [hn]
  refine runs_by (tbl := []) (by simp) 1001 0 (af := a71) rfl ?_
  rw [a71, b71, run_eq]
  refine ⟨by simp, ?_⟩
  simp (implicitDefEqProofs := false)
  refine loop_view (sg_mono gX_ok (tabS_ok (by simp)) _ _ noY noY_mono) (fun m tm H => ∃ i : Nat, m + i = n ∧ (∀ (j : Nat) (y : Pr), j < i → f[j]? = some y → y.t ≠ t) ∧ tm 1 = .int .i64 t ∧ tm 8 = .slice (some ⟨0, 0, none⟩) n tg ∧ tm 9 = .int .i64 n ∧ tm 10 = .int .i64 i ∧ H = AH.of [some (.arr e (prs f))]) (m := n) ?_ (by omega) ?_
  · refine round_plan [] [0] [some (.arr e (prs f))] n (by omega) ?_ ?_ ⟨0, by omega, fun j y hj => by omega, ?_, ?_, ?_, ?_, rfl⟩ <;> simp
  rintro m tm H ⟨i, hm, hpre, t1, t8, t9, t10, rfl⟩
  by_cases hi : i < n
  · obtain ⟨x, hx⟩ : ∃ x, f[i]? = some x := ⟨f[i]'(by omega), List.getElem?_eq_getElem (by omega)⟩
    have hi' : (i : Int) < n := by omega
    have hwr := inc_i64 hi (by omega)
    have rx := many_prs hx
    have lx : i * 2 + 2 ≤ (prs f).length := by rw [prs_length]; omega
    by_cases hxt : x.t = t
    · have hg := getP_first hpre hx hxt
      simp (implicitDefEqProofs := false) [t1, t8, t9, t10, hi, hi', rx, lx, Pr.cells, hxt]
      refine ends_plan [] [0] ?_ ?_ ?_ <;> simp [hg, optR]
    · have hpre2 : ∀ (j : Nat) (y : Pr), j < i + 1 → f[j]? = some y → y.t ≠ t := fun j y hj hy => by
        by_cases e : j = i
        · subst e; rw [hx] at hy; cases hy; exact hxt
        · exact hpre j y (by omega) hy
      simp (implicitDefEqProofs := false) [t1, t8, t9, t10, hi, hi', rx, lx, Pr.cells, hxt, hwr]
      refine round_plan [] [0] [some (.arr e (prs f))] (m - 1) (by omega) ?_ ?_ ⟨i + 1, by omega, hpre2, ?_, ?_, ?_, ?_, rfl⟩ <;> simp [t1, t8, t9]
  · have hie : i = n := by omega
    subst hie
    have hg : getP f t = none := getP_none fun j y hy => hpre j y (by
      have := (List.getElem?_eq_some_iff.1 hy).1; omega) hy
    simp (implicitDefEqProofs := false) [t1, t8, t9, t10]
    refine ends_plan [] [0] ?_ ?_ ?_ <;> simp [hg, optR]
def asPrs : List Value → Option (List Pr)
  | [] => some []
  | .int .i64 t :: .int .u64 v :: l => (asPrs l).map (⟨t, v⟩ :: ·)
  | _ => none
theorem asPrs_prs : ∀ l : List Pr, asPrs (prs l) = some l
  | [] => rfl
  | e :: l => by rw [prs_cons, asPrs, asPrs_prs l]; rfl
theorem asPrs_inv : ∀ {cs : List Value} {l : List Pr}, asPrs cs = some l → cs = prs l
  | cs, l, e => by
    unfold asPrs at e
    split at e
    · cases e; rfl
    · simp only [Option.map_eq_some_iff] at e
      obtain ⟨l', e1, rfl⟩ := e
      rw [asPrs_inv e1]; rfl
    · cases e
/-- A row of pairs. -/
def getPrs (H : AH GD) (k : Nat) : Option (TypeId × List Pr) :=
  match H.get k with
  | some (.arr e cs) => (asPrs cs).map fun h => (e, h)
  | _ => none
theorem getPrs_inv {H : AH GD} {k : Nat} {x : TypeId × List Pr} (hg : getPrs H k = some x) : H.get k = some (.arr x.1 (prs x.2)) := by
  unfold getPrs at hg
  split at hg
  · rename_i e cs he
    simp only [Option.map_eq_some_iff] at hg
    obtain ⟨h, h1, rfl⟩ := hg
    rw [he, asPrs_inv h1]
  · cases hg
attribute [simp] asPrs_prs getPrs
def st71 : CStep GD := fun args H => match args with
  | [.slice (some ⟨k, 0, none⟩) n _, .int .i64 t] => (getPrs H k).map fun x => (n = x.2.length ∧ x.2.length ≤ 1000, .ret (optR (getP x.2 t)), H)
  | _ => none
theorem st71_ok : CStepOk Tryd.prog cfg 71 st71 := by
  intro args H p r H' h hp
  unfold st71 at h
  split at h
  case h_2 => cases h
  simp only [Option.map_eq_some_iff] at h
  obtain ⟨x, hx, h⟩ := h
  rename_i k n tg t
  cases h
  rw [hp.1]
  exact (runs71 x.1 x.2 tg t hp.2).atK (ro_none rfl) [k] (by simp) (by simp) (by simp [getPrs_inv hx]) (by simp) (by simp [optR]) (by simp [upd_get (getPrs_inv hx)])

set_option maxHeartbeats 1000000 in
theorem runs84 (e : TypeId) (l : List Pr) (tg : Nat) (hl : l.length ≤ 1000) : Runs Tryd.prog cfg 84 [.slice (some ⟨0, 0, none⟩) l.length tg] (AH.of [some (.arr e (prs l))])
    fun r H' => r = .ret (.slice (some ⟨1, 0, none⟩) l.length 1) ∧ H' = AH.of [some (.arr e (prs l)), some (.arr 117 (prs l))] := by
  refine Runs.ends ?_
  refine runs_by (tbl := []) (by simp) 0 0 (af := a84) rfl ?_
  rw [a84, b84, run_eq]
  refine ⟨by simp, ?_⟩
  have h1 : l.length * 16 ≤ 140737488355328 ∧ l.length ≤ 9223372036854775807 := by omega
  have h2 := take_prs l
  have h3 : l.length * 2 ≤ (prs l).length := by rw [prs_length]; omega
  simp (implicitDefEqProofs := false) [h1, h2, h3]
  repeat' (first | with_reducible apply And.intro | with_reducible intro _)
  all_goals first
    | (refine ends_plan [] [0, 2] ?_ ?_ ?_ <;> simp; done)
    | (have : l = [] := by assumption
       subst this
       refine ends_wk (r' := .ret (.slice (some ⟨1, 0, none⟩) 0 1)) (leR_ret (by simp)) (ends_plan [.nil 117] [0, 1] ?_ ?_ ?_) <;> simp [prs])
def st84 : CStep GD := fun args H => match args with
  | [.slice (some ⟨k, 0, none⟩) n _] => (getPrs H k).map fun x => (n = x.2.length ∧ x.2.length ≤ 1000, .ret (.slice (some ⟨H.next, 0, none⟩) x.2.length 1), H.add (.arr 117 (prs x.2)))
  | _ => none
theorem st84_ok : CStepOk Tryd.prog cfg 84 st84 := by
  intro args H p r H' h hp
  unfold st84 at h
  split at h
  case h_2 => cases h
  simp only [Option.map_eq_some_iff] at h
  obtain ⟨x, hx, h⟩ := h
  rename_i k n tg
  cases h
  rw [hp.1]
  exact (runs84 x.1 x.2 tg hp.2).atK (ro_none rfl) [k] (by simp) (by simp) (by simp [getPrs_inv hx]) (by simp) (by simp) (by simp [upd_get (getPrs_inv hx)])

def tblPut : List (FuncId × CStep GD) := [(84, st84)]
theorem tblPut_ok : ∀ x ∈ tblPut, CStepOk Tryd.prog cfg x.1 x.2 := by simp [tblPut, st84_ok]
set_option maxHeartbeats 2000000 in
theorem runs73 (e : TypeId) (f : List Pr) (tg : Nat) (p : Pr) (hl : f.length ≤ 1000) : Runs Tryd.prog cfg 73 [.slice (some ⟨0, 0, none⟩) f.length tg, .agg #[.int .i64 p.t, .int .u64 p.v]] (AH.of [some (.arr e (prs f))])
    fun r H' => r = .ret (.slice (some ⟨1, 0, none⟩) (putF f p).length 1) ∧ H' = AH.of [some (.arr e (prs f)), some (.arr 117 (prs (putF f p)))] := by
  refine Runs.ends ?_
  obtain ⟨n, hn⟩ : ∃ n, f.length = n := ⟨_, rfl⟩
  rw [hn]
  have hn2 : n ≤ 1000 := by omega
  refine runs_by (tbl := tblPut) tblPut_ok 1001 0 (af := a73) rfl ?_
  rw [a73, b73, run_eq]
  refine ⟨by simp, ?_⟩
  simp (implicitDefEqProofs := false) [tblPut, st84, hn, hn2]
  refine loop_inv (sg_mono gX_ok (tabS_ok tblPut_ok) _ _ noY noY_mono) (fun m tm H => ∃ i : Nat, m + i = n ∧ (∀ (j : Nat) (y : Pr), j < i → f[j]? = some y → y.t ≠ p.t) ∧ tm 3 = .pointer (some ⟨1, 0, none⟩) ∧ tm 5 = .slice (some ⟨2, 0, none⟩) n 1 ∧ tm 10 = .int .i64 n ∧ tm 11 = .int .i64 i ∧ H = AH.of [some (.arr e (prs f)), some (.arr 117 [.int .i64 p.t, .int .u64 p.v]), some (.arr 117 (prs f))]) (m := n) ⟨0, by simp⟩ (by omega) ?_
  rintro m tm H ⟨i, hm, hpre, t3, t5, t10, t11, rfl⟩
  by_cases hi : i < n
  · obtain ⟨x, hx⟩ : ∃ x, f[i]? = some x := ⟨f[i]'(by omega), List.getElem?_eq_getElem (by omega)⟩
    have hi' : (i : Int) < n := by omega
    have hwr := inc_i64 hi (by omega)
    have rx := (prs_at hx).1
    have lx : i * 2 + 1 < (prs f).length := by rw [prs_length]; omega
    have lx2 : i * 2 + 2 ≤ (prs f).length := by rw [prs_length]; omega
    by_cases hxt : x.t = p.t
    · have hg := putF_at hpre hx hxt
      have hset := prs_set hx hxt
      simp (implicitDefEqProofs := false) [t3, t5, t10, t11, hi, hi', rx, lx, lx2, hxt, hset]
      refine ends_plan [] [0, 2] ?_ ?_ ?_ <;> simp [hg, hn]
    · have hpre2 : ∀ (j : Nat) (y : Pr), j < i + 1 → f[j]? = some y → y.t ≠ p.t := fun j y hj hy => by
        by_cases e : j = i
        · subst e; rw [hx] at hy; cases hy; exact hxt
        · exact hpre j y (by omega) hy
      simp (implicitDefEqProofs := false) [t3, t5, t10, t11, hi, hi', rx, lx, hxt, hwr]
      exact ⟨m - 1, by omega, i + 1, by omega, hpre2, by omega⟩
  · have hie : i = n := by omega
    subst hie
    have hg : putF f p = f ++ [p] := putF_new fun j y hy => hpre j y (by
      have := (List.getElem?_eq_some_iff.1 hy).1; omega) hy
    have h1 : (i + 1) * 16 ≤ 140737488355328 ∧ i ≤ 9223372036854775806 := by omega
    have h2 : (prs f).take (i * 2) = prs f := by rw [← hn]; exact take_prs f
    have h3 : i * 2 ≤ (prs f).length := by rw [prs_length]; omega
    simp (implicitDefEqProofs := false) [t3, t5, t10, t11, h1, h2, h3]
    refine ends_plan [] [0, 4] ?_ ?_ ?_ <;> simp [hg, hn, prs_append, prs_single]
def st73 : CStep GD := fun args H => match args with
  | [.slice (some ⟨k, 0, none⟩) n _, .agg ⟨[.int .i64 t, .int .u64 v]⟩] => (getPrs H k).map fun x => (n = x.2.length ∧ x.2.length ≤ 1000, .ret (.slice (some ⟨H.next, 0, none⟩) (putF x.2 ⟨t, v⟩).length 1), H.add (.arr 117 (prs (putF x.2 ⟨t, v⟩))))
  | _ => none
theorem st73_ok : CStepOk Tryd.prog cfg 73 st73 := by
  intro args H p r H' h hp
  unfold st73 at h
  split at h
  case h_2 => cases h
  simp only [Option.map_eq_some_iff] at h
  obtain ⟨x, hx, h⟩ := h
  rename_i k n tg t v
  cases h
  rw [hp.1]
  exact (runs73 x.1 x.2 tg ⟨t, v⟩ hp.2).atK (ro_none rfl) [k] (by simp) (by simp) (by simp [getPrs_inv hx]) (by simp) (by simp) (by simp [upd_get (getPrs_inv hx)])
end YtmhkpababjdnbaaDoor
end Go.Proofs
/-
  WRITES: New, Push, Drop, Depth.
-/
set_option linter.unusedSimpArgs false
set_option linter.unusedVariables false
set_option linter.unnecessarySimpa false
set_option linter.unusedSectionVars false
namespace Go.Proofs
namespace YtmhkpababjdnbaaDoor
open Go.Abs
set_option linter.unusedSimpArgs false

theorem runs46 : Runs Tryd.prog cfg 46 [] (AH.of []) fun r H' => r = .ret (.pointer (some ⟨0, 0, none⟩)) ∧ H' = AH.of [some (.hi (.log [[]]))] := by
  refine Runs.ends ?_
  refine runs_by (tbl := []) (by simp) 0 2 (af := a46) rfl ?_
  rw [a46, b46, run_eq]
  refine ⟨by simp, ?_⟩
  simp (implicitDefEqProofs := false) [forms58, a58, b58]
  refine ends_plan [.nil 117, .pack (GD.stk [[]]) 0 [2], .pack (GD.log [[]]) 1 [0]] [1] ?_ ?_ ?_ <;> simp [frag_stk1, frag_log, AObj.mine, prs]
def st46 : CStep GD := fun args H => match args with
  | [] => some (True, .ret (.pointer (some ⟨H.next, 0, none⟩)), H.add (.hi (.log [[]])))
  | _ => none
theorem st46_ok : CStepOk Tryd.prog cfg 46 st46 := by
  intro args H p r H' h hp
  unfold st46 at h
  split at h
  case h_2 => cases h
  cases h
  exact runs46.atK (ro_none rfl) [] (by simp) (by simp) trivial (by simp) (by simp) (by simp)

theorem runs60 (f : List Pr) (fs : List (List Pr)) (hl : fs.length ≤ 100) : Runs Tryd.prog cfg 60 [.pointer (some ⟨0, 0, none⟩)] (AH.of [some (.hi (.log (f :: fs)))])
    fun r H' => r = .ret (.int .i64 (if 4 ≤ fs.length then 4 else 0)) ∧ H' = AH.of [some (.hi (if 4 ≤ fs.length then .log (f :: fs) else .log ([] :: f :: fs)))] := by
  refine Runs.ends ?_
  by_cases h : 4 ≤ fs.length
  · have h' : (4 : Int) ≤ fs.length := by omega
    refine runs_by (tbl := []) (by simp) 0 2 (af := a60) rfl ?_
    rw [a60, b60, run_eq]
    refine ⟨by simp, ?_⟩
    simp (implicitDefEqProofs := false) [forms58, a58, b58, frag_log, h, h']
    refine ends_plan [.pack (GD.log (f :: fs)) 0 [1]] [0] ?_ ?_ ?_ <;> simp [frag_log, AObj.mine, h]
  · have h' : ¬ (4 : Int) ≤ fs.length := by omega
    have hw : IntKind.i64.wrap ((fs.length : Int) + 1) = (fs.length : Int) + 1 := wrap_i64 (by omega) (by omega)
    refine runs_by (tbl := []) (by simp) 0 2 (af := a60) rfl ?_
    rw [a60, b60, run_eq]
    refine ⟨by simp, ?_⟩
    simp (implicitDefEqProofs := false) [forms58, a58, b58, frag_log, h, h', hw]
    refine ends_plan [.nil 117, .pack (GD.stk ([] :: f :: fs)) 2 [3, 1], .pack (GD.log ([] :: f :: fs)) 0 [2]] [0] ?_ ?_ ?_ <;> simp [frag_log, frag_stk2, AObj.mine, prs, h]
def d60 : DStep
  | .log (f :: fs), [] => some (fs.length ≤ 100, .int .i64 (if 4 ≤ fs.length then 4 else 0), if 4 ≤ fs.length then .log (f :: fs) else .log ([] :: f :: fs))
  | _, _ => none
theorem st60_ok : CStepOk Tryd.prog cfg 60 (dataSt d60) := data_ok fun d rest p v d' h hp => by
  unfold d60 at h
  split at h
  · cases h; exact ⟨rfl, rfl, runs60 _ _ hp⟩
  · cases h

theorem runs61 (f : List Pr) (fs : List (List Pr)) (hl : fs.length ≤ 100) : Runs Tryd.prog cfg 61 [.pointer (some ⟨0, 0, none⟩)] (AH.of [some (.hi (.log (f :: fs)))])
    fun r H' => r = .ret (.int .i64 (if fs = [] then 8 else 0)) ∧ H' = AH.of [some (.hi (if fs = [] then .log (f :: fs) else .log fs))] := by
  refine Runs.ends ?_
  cases fs with
  | nil =>
    refine runs_by (tbl := []) (by simp) 0 2 (af := a61) rfl ?_
    rw [a61, b61, run_eq]
    refine ⟨by simp, ?_⟩
    simp (implicitDefEqProofs := false) [forms74, a74, b74, frag_log]
    refine ends_plan [.pack (GD.log [f]) 0 [1]] [0] ?_ ?_ ?_ <;> simp [frag_log, AObj.mine]
  | cons g fs =>
    have hne : ¬ ((fs.length : Int) + 1 = 0) := by omega
    have hl' : fs.length + 1 ≤ 100 := hl
    have hw : IntKind.i64.wrap (fs.length : Int) = fs.length := wrap_i64 (by omega) (by omega)
    refine runs_by (tbl := []) (by simp) 0 2 (af := a61) rfl ?_
    rw [a61, b61, run_eq]
    refine ⟨by simp, ?_⟩
    simp (implicitDefEqProofs := false) [forms74, a74, b74, frag_log, frag_stk2, hne, hw]
    refine ends_plan [.pack (GD.log (g :: fs)) 0 [3]] [0] ?_ ?_ ?_ <;> simp [frag_log, AObj.mine]
def d61 : DStep
  | .log (f :: fs), [] => some (fs.length ≤ 100, .int .i64 (if fs = [] then 8 else 0), if fs = [] then .log (f :: fs) else .log fs)
  | _, _ => none
theorem st61_ok : CStepOk Tryd.prog cfg 61 (dataSt d61) := data_ok fun d rest p v d' h hp => by
  unfold d61 at h
  split at h
  · cases h; exact ⟨rfl, rfl, runs61 _ _ hp⟩
  · cases h

theorem runs49 (fs : List (List Pr)) : Runs Tryd.prog cfg 49 [.pointer (some ⟨0, 0, none⟩)] (AH.of [some (.hi (.log fs))])
    fun r H' => r = .ret (.int .i64 ((fs.length : Int) - 1)) ∧ H' = AH.of [some (.hi (.log fs))] := by
  refine Runs.ends ?_
  refine runs_by (tbl := []) (by simp) 0 2 (af := a49) rfl ?_
  rw [a49, b49, run_eq]
  refine ⟨by simp, ?_⟩
  simp (implicitDefEqProofs := false) [frag_log]
  refine ends_plan [.pack (GD.log fs) 0 [1]] [0] ?_ ?_ ?_ <;> simp [frag_log, AObj.mine]
def d49 : DStep
  | .log fs, [] => some (True, .int .i64 ((fs.length : Int) - 1), .log fs)
  | _, _ => none
theorem st49_ok : CStepOk Tryd.prog cfg 49 (dataSt d49) := data_ok fun d rest p v d' h hp => by
  unfold d49 at h
  split at h
  · cases h; exact ⟨rfl, rfl, runs49 _⟩
  · cases h
end YtmhkpababjdnbaaDoor
end Go.Proofs
/-
  WRITES: Get, down the frames.
-/
set_option linter.unusedSimpArgs false
set_option linter.unusedVariables false
set_option linter.unnecessarySimpa false
set_option linter.unusedSectionVars false
namespace Go.Proofs
namespace YtmhkpababjdnbaaDoor
open Go.Abs
set_option linter.unusedSimpArgs false

/-- How many entries all have. -/
def lenLog (fs : List (List Pr)) : Int := ((fs.map List.length).sum : Nat)
theorem lenLog_nil : lenLog [] = 0 := rfl
theorem lenLog_cons (f : List Pr) (fs : List (List Pr)) : lenLog (f :: fs) = f.length + lenLog fs := by simp [lenLog]
theorem lenLog_nonneg (fs : List (List Pr)) : 0 ≤ lenLog fs := by simp [lenLog]
theorem lenLog_mem {f : List Pr} : ∀ {fs : List (List Pr)}, f ∈ fs → (f.length : Int) ≤ lenLog fs
  | g :: fs, h => by
    rw [lenLog_cons]
    rcases List.mem_cons.1 h with rfl | h
    · have := lenLog_nonneg fs; omega
    · have := lenLog_mem h; omega
/-- One frame at least, five at most, at most sixteen writes. -/
def GoodLog (fs : List (List Pr)) : Prop := fs ≠ [] ∧ fs.length ≤ 5 ∧ lenLog fs ≤ 16
theorem GoodLog.le {fs : List (List Pr)} (h : GoodLog fs) : ∀ f ∈ fs, f.length ≤ 1000 := fun f hf => by
  have := lenLog_mem hf
  have := h.2.2
  omega

inductive GW (fs : List (List Pr)) (t dd : Int) (r : Loop) : Nat → AH GD → Prop
  | c0 (f : List Pr) (rs : List (List Pr)) (h : fs = f :: rs) : GW fs t dd r 5 (AH.of [some (.arr 100 [.pointer (some ⟨4, 0, none⟩), .int .i64 dd]), some (.arr 3 [.int .i64 t]), some (.arr 41 [.int .u64 0]), some (.arr 4 [.bool false]), some (.hi (.stk (f :: rs))), some (.arr 95 [.pointer (some ⟨4, 0, none⟩)]), some (.loopr r 0 none)])
  | c1 (g1 f : List Pr) (rs : List (List Pr)) (h : fs = g1 :: f :: rs) (n1 : getP g1 t = none) : GW fs t dd r 4 (AH.of [some (.arr 100 [.pointer (some ⟨4, 0, none⟩), .int .i64 dd]), some (.arr 3 [.int .i64 t]), some (.arr 41 [.int .u64 0]), some (.arr 4 [.bool false]), some (.arr 112 [.slice (some ⟨7, 0, none⟩) g1.length 1, .pointer (some ⟨8, 0, none⟩)]), some (.arr 95 [.pointer (some ⟨8, 0, none⟩)]), some (.loopr r 0 none), some (.arr 117 (prs g1)), some (.hi (.stk (f :: rs)))])
  | n1 (g1 : List Pr) (h : fs = [g1]) (n1 : getP g1 t = none) : GW fs t dd r 4 (AH.of [some (.arr 100 [.pointer (some ⟨4, 0, none⟩), .int .i64 dd]), some (.arr 3 [.int .i64 t]), some (.arr 41 [.int .u64 0]), some (.arr 4 [.bool false]), some (.arr 112 [.slice (some ⟨7, 0, none⟩) g1.length 1, .pointer none]), some (.arr 95 [.pointer none]), some (.loopr r 0 none), some (.arr 117 (prs g1))])
  | c2 (g1 g2 f : List Pr) (rs : List (List Pr)) (h : fs = g1 :: g2 :: f :: rs) (n1 : getP g1 t = none) (n2 : getP g2 t = none) : GW fs t dd r 3 (AH.of [some (.arr 100 [.pointer (some ⟨4, 0, none⟩), .int .i64 dd]), some (.arr 3 [.int .i64 t]), some (.arr 41 [.int .u64 0]), some (.arr 4 [.bool false]), some (.arr 112 [.slice (some ⟨7, 0, none⟩) g1.length 1, .pointer (some ⟨8, 0, none⟩)]), some (.arr 95 [.pointer (some ⟨10, 0, none⟩)]), some (.loopr r 0 none), some (.arr 117 (prs g1)), some (.arr 112 [.slice (some ⟨9, 0, none⟩) g2.length 1, .pointer (some ⟨10, 0, none⟩)]), some (.arr 117 (prs g2)), some (.hi (.stk (f :: rs)))])
  | n2 (g1 g2 : List Pr) (h : fs = [g1, g2]) (n1 : getP g1 t = none) (n2 : getP g2 t = none) : GW fs t dd r 3 (AH.of [some (.arr 100 [.pointer (some ⟨4, 0, none⟩), .int .i64 dd]), some (.arr 3 [.int .i64 t]), some (.arr 41 [.int .u64 0]), some (.arr 4 [.bool false]), some (.arr 112 [.slice (some ⟨7, 0, none⟩) g1.length 1, .pointer (some ⟨8, 0, none⟩)]), some (.arr 95 [.pointer none]), some (.loopr r 0 none), some (.arr 117 (prs g1)), some (.arr 112 [.slice (some ⟨9, 0, none⟩) g2.length 1, .pointer none]), some (.arr 117 (prs g2))])
  | c3 (g1 g2 g3 f : List Pr) (rs : List (List Pr)) (h : fs = g1 :: g2 :: g3 :: f :: rs) (n1 : getP g1 t = none) (n2 : getP g2 t = none) (n3 : getP g3 t = none) : GW fs t dd r 2 (AH.of [some (.arr 100 [.pointer (some ⟨4, 0, none⟩), .int .i64 dd]), some (.arr 3 [.int .i64 t]), some (.arr 41 [.int .u64 0]), some (.arr 4 [.bool false]), some (.arr 112 [.slice (some ⟨7, 0, none⟩) g1.length 1, .pointer (some ⟨8, 0, none⟩)]), some (.arr 95 [.pointer (some ⟨12, 0, none⟩)]), some (.loopr r 0 none), some (.arr 117 (prs g1)), some (.arr 112 [.slice (some ⟨9, 0, none⟩) g2.length 1, .pointer (some ⟨10, 0, none⟩)]), some (.arr 117 (prs g2)), some (.arr 112 [.slice (some ⟨11, 0, none⟩) g3.length 1, .pointer (some ⟨12, 0, none⟩)]), some (.arr 117 (prs g3)), some (.hi (.stk (f :: rs)))])
  | n3 (g1 g2 g3 : List Pr) (h : fs = [g1, g2, g3]) (n1 : getP g1 t = none) (n2 : getP g2 t = none) (n3 : getP g3 t = none) : GW fs t dd r 2 (AH.of [some (.arr 100 [.pointer (some ⟨4, 0, none⟩), .int .i64 dd]), some (.arr 3 [.int .i64 t]), some (.arr 41 [.int .u64 0]), some (.arr 4 [.bool false]), some (.arr 112 [.slice (some ⟨7, 0, none⟩) g1.length 1, .pointer (some ⟨8, 0, none⟩)]), some (.arr 95 [.pointer none]), some (.loopr r 0 none), some (.arr 117 (prs g1)), some (.arr 112 [.slice (some ⟨9, 0, none⟩) g2.length 1, .pointer (some ⟨10, 0, none⟩)]), some (.arr 117 (prs g2)), some (.arr 112 [.slice (some ⟨11, 0, none⟩) g3.length 1, .pointer none]), some (.arr 117 (prs g3))])
  | c4 (g1 g2 g3 g4 f : List Pr) (rs : List (List Pr)) (h : fs = g1 :: g2 :: g3 :: g4 :: f :: rs) (n1 : getP g1 t = none) (n2 : getP g2 t = none) (n3 : getP g3 t = none) (n4 : getP g4 t = none) : GW fs t dd r 1 (AH.of [some (.arr 100 [.pointer (some ⟨4, 0, none⟩), .int .i64 dd]), some (.arr 3 [.int .i64 t]), some (.arr 41 [.int .u64 0]), some (.arr 4 [.bool false]), some (.arr 112 [.slice (some ⟨7, 0, none⟩) g1.length 1, .pointer (some ⟨8, 0, none⟩)]), some (.arr 95 [.pointer (some ⟨14, 0, none⟩)]), some (.loopr r 0 none), some (.arr 117 (prs g1)), some (.arr 112 [.slice (some ⟨9, 0, none⟩) g2.length 1, .pointer (some ⟨10, 0, none⟩)]), some (.arr 117 (prs g2)), some (.arr 112 [.slice (some ⟨11, 0, none⟩) g3.length 1, .pointer (some ⟨12, 0, none⟩)]), some (.arr 117 (prs g3)), some (.arr 112 [.slice (some ⟨13, 0, none⟩) g4.length 1, .pointer (some ⟨14, 0, none⟩)]), some (.arr 117 (prs g4)), some (.hi (.stk (f :: rs)))])
  | n4 (g1 g2 g3 g4 : List Pr) (h : fs = [g1, g2, g3, g4]) (n1 : getP g1 t = none) (n2 : getP g2 t = none) (n3 : getP g3 t = none) (n4 : getP g4 t = none) : GW fs t dd r 1 (AH.of [some (.arr 100 [.pointer (some ⟨4, 0, none⟩), .int .i64 dd]), some (.arr 3 [.int .i64 t]), some (.arr 41 [.int .u64 0]), some (.arr 4 [.bool false]), some (.arr 112 [.slice (some ⟨7, 0, none⟩) g1.length 1, .pointer (some ⟨8, 0, none⟩)]), some (.arr 95 [.pointer none]), some (.loopr r 0 none), some (.arr 117 (prs g1)), some (.arr 112 [.slice (some ⟨9, 0, none⟩) g2.length 1, .pointer (some ⟨10, 0, none⟩)]), some (.arr 117 (prs g2)), some (.arr 112 [.slice (some ⟨11, 0, none⟩) g3.length 1, .pointer (some ⟨12, 0, none⟩)]), some (.arr 117 (prs g3)), some (.arr 112 [.slice (some ⟨13, 0, none⟩) g4.length 1, .pointer none]), some (.arr 117 (prs g4))])
  | n5 (g1 g2 g3 g4 g5 : List Pr) (h : fs = [g1, g2, g3, g4, g5]) (n1 : getP g1 t = none) (n2 : getP g2 t = none) (n3 : getP g3 t = none) (n4 : getP g4 t = none) (n5 : getP g5 t = none) : GW fs t dd r 0 (AH.of [some (.arr 100 [.pointer (some ⟨4, 0, none⟩), .int .i64 dd]), some (.arr 3 [.int .i64 t]), some (.arr 41 [.int .u64 0]), some (.arr 4 [.bool false]), some (.arr 112 [.slice (some ⟨7, 0, none⟩) g1.length 1, .pointer (some ⟨8, 0, none⟩)]), some (.arr 95 [.pointer none]), some (.loopr r 0 none), some (.arr 117 (prs g1)), some (.arr 112 [.slice (some ⟨9, 0, none⟩) g2.length 1, .pointer (some ⟨10, 0, none⟩)]), some (.arr 117 (prs g2)), some (.arr 112 [.slice (some ⟨11, 0, none⟩) g3.length 1, .pointer (some ⟨12, 0, none⟩)]), some (.arr 117 (prs g3)), some (.arr 112 [.slice (some ⟨13, 0, none⟩) g4.length 1, .pointer (some ⟨14, 0, none⟩)]), some (.arr 117 (prs g4)), some (.arr 112 [.slice (some ⟨15, 0, none⟩) g5.length 1, .pointer none]), some (.arr 117 (prs g5))])

end YtmhkpababjdnbaaDoor
end Go.Proofs
/-
  WRITES: Len, down the frames.
-/
set_option linter.unusedSimpArgs false
set_option linter.unusedVariables false
set_option linter.unnecessarySimpa false
set_option linter.unusedSectionVars false
namespace Go.Proofs
namespace YtmhkpababjdnbaaDoor
open Go.Abs
set_option linter.unusedSimpArgs false

inductive LW (fs : List (List Pr)) (dd : Int) (r : Loop) : Nat → AH GD → Prop
  | c0 (f : List Pr) (rs : List (List Pr)) (h : fs = f :: rs) (s : Int) (hs : s = 0) : LW fs dd r 5 (AH.of [some (.arr 100 [.pointer (some ⟨2, 0, none⟩), .int .i64 dd]), some (.arr 3 [.int .i64 s]), some (.hi (.stk (f :: rs))), some (.arr 95 [.pointer (some ⟨2, 0, none⟩)]), some (.loopr r 0 none)])
  | c1 (g1 f : List Pr) (rs : List (List Pr)) (h : fs = g1 :: f :: rs) (s : Int) (hs : s = (g1.length : Int)) : LW fs dd r 4 (AH.of [some (.arr 100 [.pointer (some ⟨2, 0, none⟩), .int .i64 dd]), some (.arr 3 [.int .i64 s]), some (.arr 112 [.slice (some ⟨5, 0, none⟩) g1.length 1, .pointer (some ⟨6, 0, none⟩)]), some (.arr 95 [.pointer (some ⟨6, 0, none⟩)]), some (.loopr r 0 none), some (.arr 117 (prs g1)), some (.hi (.stk (f :: rs)))])
  | n1 (g1 : List Pr) (h : fs = [g1]) (s : Int) (hs : s = (g1.length : Int)) : LW fs dd r 4 (AH.of [some (.arr 100 [.pointer (some ⟨2, 0, none⟩), .int .i64 dd]), some (.arr 3 [.int .i64 s]), some (.arr 112 [.slice (some ⟨5, 0, none⟩) g1.length 1, .pointer none]), some (.arr 95 [.pointer none]), some (.loopr r 0 none), some (.arr 117 (prs g1))])
  | c2 (g1 g2 f : List Pr) (rs : List (List Pr)) (h : fs = g1 :: g2 :: f :: rs) (s : Int) (hs : s = (g1.length : Int) + (g2.length : Int)) : LW fs dd r 3 (AH.of [some (.arr 100 [.pointer (some ⟨2, 0, none⟩), .int .i64 dd]), some (.arr 3 [.int .i64 s]), some (.arr 112 [.slice (some ⟨5, 0, none⟩) g1.length 1, .pointer (some ⟨6, 0, none⟩)]), some (.arr 95 [.pointer (some ⟨8, 0, none⟩)]), some (.loopr r 0 none), some (.arr 117 (prs g1)), some (.arr 112 [.slice (some ⟨7, 0, none⟩) g2.length 1, .pointer (some ⟨8, 0, none⟩)]), some (.arr 117 (prs g2)), some (.hi (.stk (f :: rs)))])
  | n2 (g1 g2 : List Pr) (h : fs = [g1, g2]) (s : Int) (hs : s = (g1.length : Int) + (g2.length : Int)) : LW fs dd r 3 (AH.of [some (.arr 100 [.pointer (some ⟨2, 0, none⟩), .int .i64 dd]), some (.arr 3 [.int .i64 s]), some (.arr 112 [.slice (some ⟨5, 0, none⟩) g1.length 1, .pointer (some ⟨6, 0, none⟩)]), some (.arr 95 [.pointer none]), some (.loopr r 0 none), some (.arr 117 (prs g1)), some (.arr 112 [.slice (some ⟨7, 0, none⟩) g2.length 1, .pointer none]), some (.arr 117 (prs g2))])
  | c3 (g1 g2 g3 f : List Pr) (rs : List (List Pr)) (h : fs = g1 :: g2 :: g3 :: f :: rs) (s : Int) (hs : s = (g1.length : Int) + (g2.length : Int) + (g3.length : Int)) : LW fs dd r 2 (AH.of [some (.arr 100 [.pointer (some ⟨2, 0, none⟩), .int .i64 dd]), some (.arr 3 [.int .i64 s]), some (.arr 112 [.slice (some ⟨5, 0, none⟩) g1.length 1, .pointer (some ⟨6, 0, none⟩)]), some (.arr 95 [.pointer (some ⟨10, 0, none⟩)]), some (.loopr r 0 none), some (.arr 117 (prs g1)), some (.arr 112 [.slice (some ⟨7, 0, none⟩) g2.length 1, .pointer (some ⟨8, 0, none⟩)]), some (.arr 117 (prs g2)), some (.arr 112 [.slice (some ⟨9, 0, none⟩) g3.length 1, .pointer (some ⟨10, 0, none⟩)]), some (.arr 117 (prs g3)), some (.hi (.stk (f :: rs)))])
  | n3 (g1 g2 g3 : List Pr) (h : fs = [g1, g2, g3]) (s : Int) (hs : s = (g1.length : Int) + (g2.length : Int) + (g3.length : Int)) : LW fs dd r 2 (AH.of [some (.arr 100 [.pointer (some ⟨2, 0, none⟩), .int .i64 dd]), some (.arr 3 [.int .i64 s]), some (.arr 112 [.slice (some ⟨5, 0, none⟩) g1.length 1, .pointer (some ⟨6, 0, none⟩)]), some (.arr 95 [.pointer none]), some (.loopr r 0 none), some (.arr 117 (prs g1)), some (.arr 112 [.slice (some ⟨7, 0, none⟩) g2.length 1, .pointer (some ⟨8, 0, none⟩)]), some (.arr 117 (prs g2)), some (.arr 112 [.slice (some ⟨9, 0, none⟩) g3.length 1, .pointer none]), some (.arr 117 (prs g3))])
  | c4 (g1 g2 g3 g4 f : List Pr) (rs : List (List Pr)) (h : fs = g1 :: g2 :: g3 :: g4 :: f :: rs) (s : Int) (hs : s = (g1.length : Int) + (g2.length : Int) + (g3.length : Int) + (g4.length : Int)) : LW fs dd r 1 (AH.of [some (.arr 100 [.pointer (some ⟨2, 0, none⟩), .int .i64 dd]), some (.arr 3 [.int .i64 s]), some (.arr 112 [.slice (some ⟨5, 0, none⟩) g1.length 1, .pointer (some ⟨6, 0, none⟩)]), some (.arr 95 [.pointer (some ⟨12, 0, none⟩)]), some (.loopr r 0 none), some (.arr 117 (prs g1)), some (.arr 112 [.slice (some ⟨7, 0, none⟩) g2.length 1, .pointer (some ⟨8, 0, none⟩)]), some (.arr 117 (prs g2)), some (.arr 112 [.slice (some ⟨9, 0, none⟩) g3.length 1, .pointer (some ⟨10, 0, none⟩)]), some (.arr 117 (prs g3)), some (.arr 112 [.slice (some ⟨11, 0, none⟩) g4.length 1, .pointer (some ⟨12, 0, none⟩)]), some (.arr 117 (prs g4)), some (.hi (.stk (f :: rs)))])
  | n4 (g1 g2 g3 g4 : List Pr) (h : fs = [g1, g2, g3, g4]) (s : Int) (hs : s = (g1.length : Int) + (g2.length : Int) + (g3.length : Int) + (g4.length : Int)) : LW fs dd r 1 (AH.of [some (.arr 100 [.pointer (some ⟨2, 0, none⟩), .int .i64 dd]), some (.arr 3 [.int .i64 s]), some (.arr 112 [.slice (some ⟨5, 0, none⟩) g1.length 1, .pointer (some ⟨6, 0, none⟩)]), some (.arr 95 [.pointer none]), some (.loopr r 0 none), some (.arr 117 (prs g1)), some (.arr 112 [.slice (some ⟨7, 0, none⟩) g2.length 1, .pointer (some ⟨8, 0, none⟩)]), some (.arr 117 (prs g2)), some (.arr 112 [.slice (some ⟨9, 0, none⟩) g3.length 1, .pointer (some ⟨10, 0, none⟩)]), some (.arr 117 (prs g3)), some (.arr 112 [.slice (some ⟨11, 0, none⟩) g4.length 1, .pointer none]), some (.arr 117 (prs g4))])
  | n5 (g1 g2 g3 g4 g5 : List Pr) (h : fs = [g1, g2, g3, g4, g5]) (s : Int) (hs : s = (g1.length : Int) + (g2.length : Int) + (g3.length : Int) + (g4.length : Int) + (g5.length : Int)) : LW fs dd r 0 (AH.of [some (.arr 100 [.pointer (some ⟨2, 0, none⟩), .int .i64 dd]), some (.arr 3 [.int .i64 s]), some (.arr 112 [.slice (some ⟨5, 0, none⟩) g1.length 1, .pointer (some ⟨6, 0, none⟩)]), some (.arr 95 [.pointer none]), some (.loopr r 0 none), some (.arr 117 (prs g1)), some (.arr 112 [.slice (some ⟨7, 0, none⟩) g2.length 1, .pointer (some ⟨8, 0, none⟩)]), some (.arr 117 (prs g2)), some (.arr 112 [.slice (some ⟨9, 0, none⟩) g3.length 1, .pointer (some ⟨10, 0, none⟩)]), some (.arr 117 (prs g3)), some (.arr 112 [.slice (some ⟨11, 0, none⟩) g4.length 1, .pointer (some ⟨12, 0, none⟩)]), some (.arr 117 (prs g4)), some (.arr 112 [.slice (some ⟨13, 0, none⟩) g5.length 1, .pointer none]), some (.arr 117 (prs g5))])


set_option maxHeartbeats 8000000 in
theorem runs72 (fs : List (List Pr)) (hne : fs ≠ []) (hl : fs.length ≤ 5) (hf : ∀ f ∈ fs, f.length ≤ 1000) : Runs Tryd.prog cfg 72 [.pointer (some ⟨0, 0, none⟩)] (AH.of [some (.hi (.log fs))])
    fun r H' => r = .ret (.int .i64 (lenLog fs)) ∧ H' = AH.of [some (.hi (.log fs))] := by
  refine Runs.ends ?_
  obtain ⟨dd, hdd⟩ : ∃ dd, (fs.length : Int) - 1 = dd := ⟨_, rfl⟩
  refine runs_by (tbl := []) (by simp) 6 4 (af := a72) rfl ?_
  rw [a72, b72, run_eq]
  refine ⟨by simp, ?_⟩
  simp (implicitDefEqProofs := false) [forms83, a83, b83, forms92, a92, b92, frag_log, hdd]
  intro r
  refine loop_inv (sg_mono gX_ok (tabS_ok (by simp)) _ _ _ (yldX_mono (sg_mono gX_ok (tabS_ok (by simp)) _ _ noY noY_mono))) (fun m tm H => tm 0 = .func (.yield 4) #[] #[] ∧ tm 1 = .pointer (some ⟨3, 0, none⟩) ∧ LW fs dd r m H) (m := 5) ?_ (by omega) ?_
  · cases fs with
    | nil => exact (hne rfl).elim
    | cons f rs => exact ⟨by simp, by simp, .c0 f rs rfl 0 rfl⟩
  rintro m tm H ⟨t0, t1, hw⟩
  cases hw with
  | c0 f rs h s hs =>
    subst h
    have hfl : f.length ≤ 1000 := hf f (by simp)
    have hs0 : ∀ x ∈ (f :: rs : List (List Pr)), x.length ≤ 1000 := hf
    have hwr : IntKind.i64.wrap (s + f.length) = s + f.length := wrap_i64 (by omega) (by omega)
    cases rs with
    | nil =>
      simp (implicitDefEqProofs := false) [t0, t1, hwr, frag_stk1]
      exact ⟨4, by omega, .n1 f rfl (s + f.length) (by omega)⟩
    | cons q rs =>
      simp (implicitDefEqProofs := false) [t0, t1, hwr, frag_stk2]
      exact ⟨4, by omega, .c1 f q rs rfl (s + f.length) (by omega)⟩
  | c1 g1 f rs h s hs =>
    subst h
    have hfl : f.length ≤ 1000 := hf f (by simp)
    have hs0 : ∀ x ∈ (g1 :: f :: rs : List (List Pr)), x.length ≤ 1000 := hf
    have hg1 : g1.length ≤ 1000 := hf g1 (by simp)
    have hwr : IntKind.i64.wrap (s + f.length) = s + f.length := wrap_i64 (by omega) (by omega)
    cases rs with
    | nil =>
      simp (implicitDefEqProofs := false) [t0, t1, hwr, frag_stk1]
      exact ⟨3, by omega, .n2 g1 f rfl (s + f.length) (by omega)⟩
    | cons q rs =>
      simp (implicitDefEqProofs := false) [t0, t1, hwr, frag_stk2]
      exact ⟨3, by omega, .c2 g1 f q rs rfl (s + f.length) (by omega)⟩
  | n1 g1 h s hs =>
    subst h
    simp (implicitDefEqProofs := false) [t0, t1]
    refine ends_plan [.pack (GD.stk [g1]) 2 [5], .pack (GD.log (g1 :: [])) 0 [2]] [0] ?_ ?_ ?_ <;> simp [frag_stk1, frag_stk2, frag_log, AObj.mine, lenLog_cons, lenLog_nil, ← hdd] <;> omega
  | c2 g1 g2 f rs h s hs =>
    subst h
    have hfl : f.length ≤ 1000 := hf f (by simp)
    have hs0 : ∀ x ∈ (g1 :: g2 :: f :: rs : List (List Pr)), x.length ≤ 1000 := hf
    have hg1 : g1.length ≤ 1000 := hf g1 (by simp)
    have hg2 : g2.length ≤ 1000 := hf g2 (by simp)
    have hwr : IntKind.i64.wrap (s + f.length) = s + f.length := wrap_i64 (by omega) (by omega)
    cases rs with
    | nil =>
      simp (implicitDefEqProofs := false) [t0, t1, hwr, frag_stk1]
      exact ⟨2, by omega, .n3 g1 g2 f rfl (s + f.length) (by omega)⟩
    | cons q rs =>
      simp (implicitDefEqProofs := false) [t0, t1, hwr, frag_stk2]
      exact ⟨2, by omega, .c3 g1 g2 f q rs rfl (s + f.length) (by omega)⟩
  | n2 g1 g2 h s hs =>
    subst h
    simp (implicitDefEqProofs := false) [t0, t1]
    refine ends_plan [.pack (GD.stk [g2]) 6 [7], .pack (GD.stk (g1 :: g2 :: [])) 2 [5, 6], .pack (GD.log (g1 :: g2 :: [])) 0 [2]] [0] ?_ ?_ ?_ <;> simp [frag_stk1, frag_stk2, frag_log, AObj.mine, lenLog_cons, lenLog_nil, ← hdd] <;> omega
  | c3 g1 g2 g3 f rs h s hs =>
    subst h
    have hfl : f.length ≤ 1000 := hf f (by simp)
    have hs0 : ∀ x ∈ (g1 :: g2 :: g3 :: f :: rs : List (List Pr)), x.length ≤ 1000 := hf
    have hg1 : g1.length ≤ 1000 := hf g1 (by simp)
    have hg2 : g2.length ≤ 1000 := hf g2 (by simp)
    have hg3 : g3.length ≤ 1000 := hf g3 (by simp)
    have hwr : IntKind.i64.wrap (s + f.length) = s + f.length := wrap_i64 (by omega) (by omega)
    cases rs with
    | nil =>
      simp (implicitDefEqProofs := false) [t0, t1, hwr, frag_stk1]
      exact ⟨1, by omega, .n4 g1 g2 g3 f rfl (s + f.length) (by omega)⟩
    | cons q rs =>
      simp (implicitDefEqProofs := false) [t0, t1, hwr, frag_stk2]
      exact ⟨1, by omega, .c4 g1 g2 g3 f q rs rfl (s + f.length) (by omega)⟩
  | n3 g1 g2 g3 h s hs =>
    subst h
    simp (implicitDefEqProofs := false) [t0, t1]
    refine ends_plan [.pack (GD.stk [g3]) 8 [9], .pack (GD.stk (g2 :: g3 :: [])) 6 [7, 8], .pack (GD.stk (g1 :: g2 :: g3 :: [])) 2 [5, 6], .pack (GD.log (g1 :: g2 :: g3 :: [])) 0 [2]] [0] ?_ ?_ ?_ <;> simp [frag_stk1, frag_stk2, frag_log, AObj.mine, lenLog_cons, lenLog_nil, ← hdd] <;> omega
  | c4 g1 g2 g3 g4 f rs h s hs =>
    subst h
    have hfl : f.length ≤ 1000 := hf f (by simp)
    have hs0 : ∀ x ∈ (g1 :: g2 :: g3 :: g4 :: f :: rs : List (List Pr)), x.length ≤ 1000 := hf
    have hg1 : g1.length ≤ 1000 := hf g1 (by simp)
    have hg2 : g2.length ≤ 1000 := hf g2 (by simp)
    have hg3 : g3.length ≤ 1000 := hf g3 (by simp)
    have hg4 : g4.length ≤ 1000 := hf g4 (by simp)
    have hwr : IntKind.i64.wrap (s + f.length) = s + f.length := wrap_i64 (by omega) (by omega)
    cases rs with
    | nil =>
      simp (implicitDefEqProofs := false) [t0, t1, hwr, frag_stk1]
      exact .n5 g1 g2 g3 g4 f rfl (s + f.length) (by omega)
    | cons q rs =>
      simp at hl
  | n4 g1 g2 g3 g4 h s hs =>
    subst h
    simp (implicitDefEqProofs := false) [t0, t1]
    refine ends_plan [.pack (GD.stk [g4]) 10 [11], .pack (GD.stk (g3 :: g4 :: [])) 8 [9, 10], .pack (GD.stk (g2 :: g3 :: g4 :: [])) 6 [7, 8], .pack (GD.stk (g1 :: g2 :: g3 :: g4 :: [])) 2 [5, 6], .pack (GD.log (g1 :: g2 :: g3 :: g4 :: [])) 0 [2]] [0] ?_ ?_ ?_ <;> simp [frag_stk1, frag_stk2, frag_log, AObj.mine, lenLog_cons, lenLog_nil, ← hdd] <;> omega
  | n5 g1 g2 g3 g4 g5 h s hs =>
    subst h
    simp (implicitDefEqProofs := false) [t0, t1]
    refine ends_plan [.pack (GD.stk [g5]) 12 [13], .pack (GD.stk (g4 :: g5 :: [])) 10 [11, 12], .pack (GD.stk (g3 :: g4 :: g5 :: [])) 8 [9, 10], .pack (GD.stk (g2 :: g3 :: g4 :: g5 :: [])) 6 [7, 8], .pack (GD.stk (g1 :: g2 :: g3 :: g4 :: g5 :: [])) 2 [5, 6], .pack (GD.log (g1 :: g2 :: g3 :: g4 :: g5 :: [])) 0 [2]] [0] ?_ ?_ ?_ <;> simp [frag_stk1, frag_stk2, frag_log, AObj.mine, lenLog_cons, lenLog_nil, ← hdd] <;> omega
def d72 : DStep
  | .log fs, [] => some (GoodLog fs, .int .i64 (lenLog fs), .log fs)
  | _, _ => none
theorem st72_ok : CStepOk Tryd.prog cfg 72 (dataSt d72) := data_ok fun d rest p v d' h hp => by
  unfold d72 at h
  split at h
  · cases h; exact ⟨rfl, rfl, runs72 _ hp.1 hp.2.1 hp.le⟩
  · cases h
end YtmhkpababjdnbaaDoor
end Go.Proofs
/-
  VALUES: which are right; which are the same.
-/
set_option linter.unusedSimpArgs false
set_option linter.unusedVariables false
set_option linter.unnecessarySimpa false
set_option linter.unusedSectionVars false
namespace Go.Proofs
namespace YtmhkpababjdnbaaDoor
open Go.Abs
set_option linter.unusedSimpArgs false

def rightB (v : Int) : Bool := decide (bAndNot .u64 v 9223372036854775808 ≤ 9218868437227405312) || decide (v = 9221120237041090560)
theorem runs47 (v : Int) (H : AH GD) : Runs Tryd.prog cfg 47 [.int .u64 v] H fun r H' => r = .ret (.bool (rightB v)) ∧ H' = H := by
  refine runs_by (tbl := []) (by simp) 0 0 (af := a47) rfl ?_
  rw [a47, b47, run_eq]
  refine ⟨by simp, ?_⟩
  simp (implicitDefEqProofs := false)
  repeat' (first | with_reducible apply And.intro | with_reducible intro _)
  all_goals (simp [rightB, *] <;> omega)
def st47 : CStep GD := fun args H => match args with
  | [x] => (asU x).map fun v => (True, .ret (.bool (rightB v)), H)
  | _ => none
theorem st47_ok : CStepOk Tryd.prog cfg 47 st47 := by
  intro args H p r H' h hp
  unfold st47 at h
  split at h
  case h_2 => cases h
  simp only [Option.map_eq_some_iff] at h
  obtain ⟨v, hv, h⟩ := h
  cases h
  rw [asU_inv hv]
  exact runs47 v H
theorem runs64 (v : Int) (h0 : 0 ≤ v) (h1 : v < 18446744073709551616) (H : AH GD) : Runs Tryd.prog cfg 64 [.int .u64 v] H fun r H' => r = .ret (.bool (rightB v)) ∧ H' = H := by
  refine runs_by (tbl := []) (by simp) 0 0 (af := a64) rfl ?_
  rw [a64, b64, run_eq]
  refine ⟨by simp, ?_⟩
  have e : abin .eql (.float .f64 v.toNat) (.float .f64 v.toNat) = some (.bool (decide (bAndNot .u64 v 9223372036854775808 ≤ 9218868437227405312))) := by
    simp only [abin, order_self, bAndNot_sign h0 h1]
    simp
    omega
  simp (implicitDefEqProofs := false) [e]
  repeat' (first | with_reducible apply And.intro | with_reducible intro _)
  all_goals (simp [rightB, *] <;> omega)
def st64 : CStep GD := fun args H => match args with
  | [x] => (asU x).map fun v => (0 ≤ v ∧ v < 18446744073709551616, .ret (.bool (rightB v)), H)
  | _ => none
theorem st64_ok : CStepOk Tryd.prog cfg 64 st64 := by
  intro args H p r H' h hp
  unfold st64 at h
  split at h
  case h_2 => cases h
  simp only [Option.map_eq_some_iff] at h
  obtain ⟨v, hv, h⟩ := h
  cases h
  rw [asU_inv hv]
  exact runs64 v hp.1 hp.2 H
end YtmhkpababjdnbaaDoor
end Go.Proofs
/-
  WRITES: Put.
-/
set_option linter.unusedSimpArgs false
set_option linter.unusedVariables false
set_option linter.unnecessarySimpa false
set_option linter.unusedSectionVars false
namespace Go.Proofs
namespace YtmhkpababjdnbaaDoor
open Go.Abs
set_option linter.unusedSimpArgs false

def putCode (f : List Pr) (fs : List (List Pr)) (t v : Int) : Int :=
  if t < 0 ∨ 12 ≤ t then 2 else if rightB v = false then 3 else if (getP f t).isNone = true ∧ 16 ≤ lenLog (f :: fs) then 4 else 0
def tblP : List (FuncId × CStep GD) := [(71, st71), (73, st73), (72, dataSt d72), (47, st47)]
theorem tblP_ok : ∀ x ∈ tblP, CStepOk Tryd.prog cfg x.1 x.2 := by simp [tblP, st71_ok, st73_ok, st72_ok, st47_ok]
set_option maxHeartbeats 4000000 in
theorem runs59 (f : List Pr) (fs : List (List Pr)) (t v : Int) (hg : GoodLog (f :: fs)) (hv : 0 ≤ v ∧ v < 18446744073709551616) : Runs Tryd.prog cfg 59 [.pointer (some ⟨0, 0, none⟩), .int .i64 t, .int .u64 v] (AH.of [some (.hi (.log (f :: fs)))])
    fun r H' => r = .ret (.int .i64 (putCode f fs t v)) ∧ H' = AH.of [some (.hi (if putCode f fs t v = 0 then .log (putF f ⟨t, v⟩ :: fs) else .log (f :: fs)))] := by
  refine Runs.ends ?_
  have hfl : f.length ≤ 1000 := hg.le f (by simp)
  have hgg : GoodLog (f :: fs) := hg
  by_cases h1 : t < 0
  · refine runs_by (tbl := tblP) tblP_ok 0 2 (af := a59) rfl ?_
    rw [a59, b59, run_eq]
    refine ⟨by simp, ?_⟩
    simp (implicitDefEqProofs := false) [h1]
    refine ends_plan [] [0] ?_ ?_ ?_ <;> simp [putCode, h1]
  by_cases h2 : 12 ≤ t
  · refine runs_by (tbl := tblP) tblP_ok 0 2 (af := a59) rfl ?_
    rw [a59, b59, run_eq]
    refine ⟨by simp, ?_⟩
    simp (implicitDefEqProofs := false) [h1, h2]
    refine ends_plan [] [0] ?_ ?_ ?_ <;> simp [putCode, h1, h2]
  cases h3 : rightB v with
  | false =>
    refine runs_by (tbl := tblP) tblP_ok 0 2 (af := a59) rfl ?_
    rw [a59, b59, run_eq]
    refine ⟨by simp, ?_⟩
    simp (implicitDefEqProofs := false) [h1, h2, h3, tblP, st47, hv.1, hv.2]
    refine ends_plan [] [0] ?_ ?_ ?_ <;> simp [putCode, h1, h2, h3]
  | true =>
    have done : ∀ (hc : putCode f fs t v = 0), (GD.log (putF f ⟨t, v⟩ :: fs)) = if putCode f fs t v = 0 then .log (putF f ⟨t, v⟩ :: fs) else .log (f :: fs) := fun hc => by rw [if_pos hc]
    cases h4 : getP f t with
    | some w =>
      have hc : putCode f fs t v = 0 := by simp [putCode, h1, h2, h3, h4]
      cases fs with
      | nil =>
        refine runs_by (tbl := tblP) tblP_ok 0 2 (af := a59) rfl ?_
        rw [a59, b59, run_eq]
        refine ⟨by simp, ?_⟩
        simp (implicitDefEqProofs := false) [h1, h2, h3, h4, tblP, st47, hv.1, hv.2, st71, st73, hfl, optR, forms58, a58, b58, frag_log, frag_stk1]
        refine ends_plan [.pack (GD.stk [putF f ⟨t, v⟩]) 4 [3], .pack (GD.log [putF f ⟨t, v⟩]) 0 [4]] [0] ?_ ?_ ?_ <;> simp [hc, frag_stk1, frag_log, AObj.mine]
      | cons q rs =>
        refine runs_by (tbl := tblP) tblP_ok 0 2 (af := a59) rfl ?_
        rw [a59, b59, run_eq]
        refine ⟨by simp, ?_⟩
        simp (implicitDefEqProofs := false) [h1, h2, h3, h4, tblP, st47, hv.1, hv.2, st71, st73, hfl, optR, forms58, a58, b58, frag_log, frag_stk2]
        refine ends_plan [.pack (GD.stk (putF f ⟨t, v⟩ :: q :: rs)) 5 [4, 3], .pack (GD.log (putF f ⟨t, v⟩ :: q :: rs)) 0 [5]] [0] ?_ ?_ ?_ <;> simp [hc, frag_stk2, frag_log, AObj.mine]
    | none =>
      by_cases h5 : 16 ≤ lenLog (f :: fs)
      · have hc : putCode f fs t v = 4 := by simp [putCode, h1, h2, h3, h4, h5]
        cases fs with
        | nil =>
          refine runs_by (tbl := tblP) tblP_ok 0 2 (af := a59) rfl ?_
          rw [a59, b59, run_eq]
          refine ⟨by simp, ?_⟩
          simp (implicitDefEqProofs := false) [h1, h2, h3, h4, tblP, st47, hv.1, hv.2, st71, st73, hfl, optR, forms58, a58, b58, frag_log, frag_stk1]
          refine pack_first [.pack (GD.stk [f]) 1 [2], .pack (GD.log [f]) 0 [1]] ?_ ?_
          · simp [frag_stk1, frag_log, AObj.mine]
          simp (implicitDefEqProofs := false) [tblP, dataSt, d72, hgg, h5]
          refine ends_plan [] [0] ?_ ?_ ?_ <;> simp [hc]
        | cons q rs =>
          refine runs_by (tbl := tblP) tblP_ok 0 2 (af := a59) rfl ?_
          rw [a59, b59, run_eq]
          refine ⟨by simp, ?_⟩
          simp (implicitDefEqProofs := false) [h1, h2, h3, h4, tblP, st47, hv.1, hv.2, st71, st73, hfl, optR, forms58, a58, b58, frag_log, frag_stk2]
          refine pack_first [.pack (GD.stk (f :: q :: rs)) 1 [2, 3], .pack (GD.log (f :: q :: rs)) 0 [1]] ?_ ?_
          · simp [frag_stk2, frag_log, AObj.mine]
          simp (implicitDefEqProofs := false) [tblP, dataSt, d72, hgg, h5]
          refine ends_plan [] [0] ?_ ?_ ?_ <;> simp [hc]
      · have hc : putCode f fs t v = 0 := by simp [putCode, h1, h2, h3, h4, h5]
        cases fs with
        | nil =>
          refine runs_by (tbl := tblP) tblP_ok 0 2 (af := a59) rfl ?_
          rw [a59, b59, run_eq]
          refine ⟨by simp, ?_⟩
          simp (implicitDefEqProofs := false) [h1, h2, h3, h4, tblP, st47, hv.1, hv.2, st71, st73, hfl, optR, forms58, a58, b58, frag_log, frag_stk1]
          refine pack_first [.pack (GD.stk [f]) 1 [2], .pack (GD.log [f]) 0 [1]] ?_ ?_
          · simp [frag_stk1, frag_log, AObj.mine]
          simp (implicitDefEqProofs := false) [tblP, dataSt, d72, hgg, h5, st73, hfl, forms58, a58, b58, frag_log, frag_stk1]
          refine ends_plan [.pack (GD.stk [putF f ⟨t, v⟩]) 6 [5], .pack (GD.log [putF f ⟨t, v⟩]) 0 [6]] [0] ?_ ?_ ?_ <;> simp [hc, frag_stk1, frag_log, AObj.mine]
        | cons q rs =>
          refine runs_by (tbl := tblP) tblP_ok 0 2 (af := a59) rfl ?_
          rw [a59, b59, run_eq]
          refine ⟨by simp, ?_⟩
          simp (implicitDefEqProofs := false) [h1, h2, h3, h4, tblP, st47, hv.1, hv.2, st71, st73, hfl, optR, forms58, a58, b58, frag_log, frag_stk2]
          refine pack_first [.pack (GD.stk (f :: q :: rs)) 1 [2, 3], .pack (GD.log (f :: q :: rs)) 0 [1]] ?_ ?_
          · simp [frag_stk2, frag_log, AObj.mine]
          simp (implicitDefEqProofs := false) [tblP, dataSt, d72, hgg, h5, st73, hfl, forms58, a58, b58, frag_log, frag_stk2]
          refine ends_plan [.pack (GD.stk (putF f ⟨t, v⟩ :: q :: rs)) 8 [7, 6], .pack (GD.log (putF f ⟨t, v⟩ :: q :: rs)) 0 [8]] [0] ?_ ?_ ?_ <;> simp [hc, frag_stk2, frag_log, AObj.mine]
def d59 : DStep
  | .log (f :: fs), [.int .i64 t, .int .u64 v] => some (GoodLog (f :: fs) ∧ 0 ≤ v ∧ v < 18446744073709551616, .int .i64 (putCode f fs t v), if putCode f fs t v = 0 then .log (putF f ⟨t, v⟩ :: fs) else .log (f :: fs))
  | _, _ => none
theorem st59_ok : CStepOk Tryd.prog cfg 59 (dataSt d59) := data_ok fun d rest p v d' h hp => by
  unfold d59 at h
  split at h
  · cases h; exact ⟨rfl, rfl, runs59 _ _ _ _ hp.1 hp.2⟩
  · cases h
end YtmhkpababjdnbaaDoor
end Go.Proofs
/-
  WRITES: Merge, All.
-/
set_option linter.unusedSimpArgs false
set_option linter.unusedVariables false
set_option linter.unnecessarySimpa false
set_option linter.unusedSectionVars false
namespace Go.Proofs
namespace YtmhkpababjdnbaaDoor
open Go.Abs
set_option linter.unusedSimpArgs false

def mergeF (g f : List Pr) : List Pr := f.foldl putF g
theorem mergeF_succ {g f : List Pr} {i : Nat} {x : Pr} (h : f[i]? = some x) : mergeF g (f.take (i + 1)) = putF (mergeF g (f.take i)) x := by
  unfold mergeF
  rw [List.take_add_one, h, List.foldl_append]
  rfl
theorem mergeF_le (g f : List Pr) : (mergeF g f).length ≤ g.length + f.length := by
  unfold mergeF
  induction f generalizing g with
  | nil => simp
  | cons a f ih =>
    have h1 := ih (putF g a)
    have h2 := putF_length_le g a
    simp only [List.foldl_cons, List.length_cons]
    omega
def tblM : List (FuncId × CStep GD) := [(73, st73)]
theorem tblM_ok : ∀ x ∈ tblM, CStepOk Tryd.prog cfg x.1 x.2 := by simp [tblM, st73_ok]
theorem runs62_1 (f : List Pr) : Runs Tryd.prog cfg 62 [.pointer (some ⟨0, 0, none⟩)] (AH.of [some (.hi (.log [f]))])
    fun r H' => r = .ret (.int .i64 8) ∧ H' = AH.of [some (.hi (.log [f]))] := by
  refine Runs.ends ?_
  refine runs_by (tbl := []) (by simp) 0 2 (af := a62) rfl ?_
  rw [a62, b62, run_eq]
  refine ⟨by simp, ?_⟩
  simp (implicitDefEqProofs := false) [forms74, a74, b74, frag_log]
  refine ends_plan [.pack (GD.log [f]) 0 [1]] [0] ?_ ?_ ?_ <;> simp [frag_log, AObj.mine]
set_option maxHeartbeats 4000000 in
theorem runs62_2 (f g : List Pr) (rs : List (List Pr)) (hl : rs.length ≤ 100) (hfg : f.length + g.length ≤ 1000) : Runs Tryd.prog cfg 62 [.pointer (some ⟨0, 0, none⟩)] (AH.of [some (.hi (.log (f :: g :: rs)))])
    fun r H' => r = .ret (.int .i64 0) ∧ H' = AH.of [some (.hi (.log (mergeF g f :: rs)))] := by
  refine Runs.ends ?_
  have hne : ¬ ((rs.length : Int) + 1 = 0) := by omega
  have hw : IntKind.i64.wrap (rs.length : Int) = rs.length := wrap_i64 (by omega) (by omega)
  obtain ⟨n, hn⟩ : ∃ n, f.length = n := ⟨_, rfl⟩
  cases rs with
  | nil =>
    refine runs_by (tbl := tblM) tblM_ok 1001 2 (af := a62) rfl ?_
    rw [a62, b62, run_eq]
    refine ⟨by simp, ?_⟩
    have hw0 : IntKind.i64.wrap 0 = 0 := by decide
    simp (implicitDefEqProofs := false) [forms74, a74, b74, frag_log, frag_stk2, frag_stk1, hn, hw0]
    refine loop_view (sg_mono gX_ok (tabS_ok tblM_ok) _ _ noY noY_mono) (fun m tm H => ∃ i : Nat, m + i = n ∧ tm 0 = .pointer (some ⟨0, 0, none⟩) ∧ tm 23 = .slice (some ⟨2, 0, none⟩) n 1 ∧ tm 24 = .int .i64 n ∧ tm 25 = .int .i64 i ∧ ∃ q : Nat, tm 5 = .slice (some ⟨q, 0, none⟩) (mergeF g (f.take i)).length 1 ∧
      ((q = 4 ∧ mergeF g (f.take i) = g ∧ H = AH.of [some (.arr 100 [.pointer (some ⟨3, 0, none⟩), .int .i64 0]), none, some (.arr 117 (prs f)), some (.arr 112 [.slice (some ⟨4, 0, none⟩) g.length 1, .pointer none]), some (.arr 117 (prs g))]) ∨
       (q = 5 ∧ H = AH.of [some (.arr 100 [.pointer (some ⟨3, 0, none⟩), .int .i64 0]), none, some (.arr 117 (prs f)), some (.arr 112 [.slice (some ⟨4, 0, none⟩) g.length 1, .pointer none]), some (.arr 117 (prs g)), some (.arr 117 (prs (mergeF g (f.take i))))]))) (m := n) ?_ (by omega) ?_
    · refine round_plan [] [0, 1, 2, 3, 4] [some (.arr 100 [.pointer (some ⟨3, 0, none⟩), .int .i64 0]), none, some (.arr 117 (prs f)), some (.arr 112 [.slice (some ⟨4, 0, none⟩) g.length 1, .pointer none]), some (.arr 117 (prs g))] n (by omega) ?_ ?_ ⟨0, by omega, ?_, ?_, ?_, ?_, 4, ?_, .inl ⟨rfl, rfl, rfl⟩⟩ <;> simp [mergeF]
    rintro m tm H ⟨i, hm, t0, t23, t24, t25, q, t5, hH⟩
    have hml : (mergeF g (f.take i)).length ≤ 1000 := by
      have := mergeF_le g (f.take i)
      rw [List.length_take] at this
      omega
    by_cases hi : i < n
    · obtain ⟨x, hx⟩ : ∃ x, f[i]? = some x := ⟨f[i]'(by omega), List.getElem?_eq_getElem (by omega)⟩
      have hi' : (i : Int) < n := by omega
      have hwr := inc_i64 hi (by omega)
      have rx := many_prs hx
      have lx : i * 2 + 2 ≤ (prs f).length := by rw [prs_length]; omega
      have hsuc := mergeF_succ (g := g) hx
      rcases hH with ⟨rfl, hg, rfl⟩ | ⟨rfl, rfl⟩
      · rw [hg] at t5 hsuc hml
        simp (implicitDefEqProofs := false) [tblM, st73, t0, t5, t23, t24, t25, hi, hi', rx, lx, Pr.cells, hwr, hml]
        refine round_plan [] [0, 1, 2, 3, 4, 6] [some (.arr 100 [.pointer (some ⟨3, 0, none⟩), .int .i64 0]), none, some (.arr 117 (prs f)), some (.arr 112 [.slice (some ⟨4, 0, none⟩) g.length 1, .pointer none]), some (.arr 117 (prs g)), some (.arr 117 (prs (mergeF g (f.take (i + 1)))))] (m - 1) (by omega) ?_ ?_ ⟨i + 1, by omega, ?_, ?_, ?_, ?_, 5, ?_, .inr ⟨rfl, rfl⟩⟩ <;> simp [t0, t23, t24, hsuc]
      · simp (implicitDefEqProofs := false) [tblM, st73, t0, t5, t23, t24, t25, hi, hi', rx, lx, Pr.cells, hwr, hml]
        refine round_plan [] [0, 1, 2, 3, 4, 7] [some (.arr 100 [.pointer (some ⟨3, 0, none⟩), .int .i64 0]), none, some (.arr 117 (prs f)), some (.arr 112 [.slice (some ⟨4, 0, none⟩) g.length 1, .pointer none]), some (.arr 117 (prs g)), some (.arr 117 (prs (mergeF g (f.take (i + 1)))))] (m - 1) (by omega) ?_ ?_ ⟨i + 1, by omega, ?_, ?_, ?_, ?_, 5, ?_, .inr ⟨rfl, rfl⟩⟩ <;> simp [t0, t23, t24, hsuc]
    · have hie : i = n := by omega
      subst hie
      have hf : f.take i = f := List.take_of_length_le (by omega)
      rw [hf] at t5 hH
      rcases hH with ⟨rfl, hg, rfl⟩ | ⟨rfl, rfl⟩
      · rw [hg] at t5
        simp (implicitDefEqProofs := false) [t0, t5, t23, t24, t25, forms58, a58, b58]
        refine ends_plan [.pack (GD.stk [g]) 5 [4], .pack (GD.log [g]) 0 [5]] [0] ?_ ?_ ?_ <;> simp [frag_stk1, frag_log, AObj.mine, hg]
      · simp (implicitDefEqProofs := false) [t0, t5, t23, t24, t25, forms58, a58, b58]
        refine ends_plan [.pack (GD.stk [mergeF g f]) 6 [5], .pack (GD.log [mergeF g f]) 0 [6]] [0] ?_ ?_ ?_ <;> simp [frag_stk1, frag_log, AObj.mine]
  | cons p rs =>
    obtain ⟨dd, hdd⟩ : ∃ dd, (rs.length : Int) + 1 = dd := ⟨_, rfl⟩
    have hw2 : IntKind.i64.wrap ((rs.length : Int) + 1) = (rs.length : Int) + 1 := wrap_i64 (by omega) (by simp at hl; omega)
    have hne2 : ¬ (dd + 1 = 0) := by omega
    rw [hdd] at hw2
    refine runs_by (tbl := tblM) tblM_ok 1001 2 (af := a62) rfl ?_
    rw [a62, b62, run_eq]
    refine ⟨by simp, ?_⟩
    simp (implicitDefEqProofs := false) [forms74, a74, b74, frag_log, frag_stk2, hn, hdd, hw2, hne2]
    refine loop_view (sg_mono gX_ok (tabS_ok tblM_ok) _ _ noY noY_mono) (fun m tm H => ∃ i : Nat, m + i = n ∧ tm 0 = .pointer (some ⟨0, 0, none⟩) ∧ tm 23 = .slice (some ⟨2, 0, none⟩) n 1 ∧ tm 24 = .int .i64 n ∧ tm 25 = .int .i64 i ∧ ∃ q : Nat, tm 5 = .slice (some ⟨q, 0, none⟩) (mergeF g (f.take i)).length 1 ∧
      ((q = 4 ∧ mergeF g (f.take i) = g ∧ H = AH.of [some (.arr 100 [.pointer (some ⟨3, 0, none⟩), .int .i64 dd]), none, some (.arr 117 (prs f)), some (.arr 112 [.slice (some ⟨4, 0, none⟩) g.length 1, .pointer (some ⟨5, 0, none⟩)]), some (.arr 117 (prs g)), some (.hi (.stk (p :: rs)))]) ∨
       (q = 6 ∧ H = AH.of [some (.arr 100 [.pointer (some ⟨3, 0, none⟩), .int .i64 dd]), none, some (.arr 117 (prs f)), some (.arr 112 [.slice (some ⟨4, 0, none⟩) g.length 1, .pointer (some ⟨5, 0, none⟩)]), some (.arr 117 (prs g)), some (.hi (.stk (p :: rs))), some (.arr 117 (prs (mergeF g (f.take i))))]))) (m := n) ?_ (by omega) ?_
    · refine round_plan [] [0, 1, 2, 3, 4, 5] [some (.arr 100 [.pointer (some ⟨3, 0, none⟩), .int .i64 dd]), none, some (.arr 117 (prs f)), some (.arr 112 [.slice (some ⟨4, 0, none⟩) g.length 1, .pointer (some ⟨5, 0, none⟩)]), some (.arr 117 (prs g)), some (.hi (.stk (p :: rs)))] n (by omega) ?_ ?_ ⟨0, by omega, ?_, ?_, ?_, ?_, 4, ?_, .inl ⟨rfl, rfl, rfl⟩⟩ <;> simp [mergeF]
    rintro m tm H ⟨i, hm, t0, t23, t24, t25, q, t5, hH⟩
    have hml : (mergeF g (f.take i)).length ≤ 1000 := by
      have := mergeF_le g (f.take i)
      rw [List.length_take] at this
      omega
    by_cases hi : i < n
    · obtain ⟨x, hx⟩ : ∃ x, f[i]? = some x := ⟨f[i]'(by omega), List.getElem?_eq_getElem (by omega)⟩
      have hi' : (i : Int) < n := by omega
      have hwr := inc_i64 hi (by omega)
      have rx := many_prs hx
      have lx : i * 2 + 2 ≤ (prs f).length := by rw [prs_length]; omega
      have hsuc := mergeF_succ (g := g) hx
      rcases hH with ⟨rfl, hg, rfl⟩ | ⟨rfl, rfl⟩
      · rw [hg] at t5 hsuc hml
        simp (implicitDefEqProofs := false) [tblM, st73, t0, t5, t23, t24, t25, hi, hi', rx, lx, Pr.cells, hwr, hml]
        refine round_plan [] [0, 1, 2, 3, 4, 5, 7] [some (.arr 100 [.pointer (some ⟨3, 0, none⟩), .int .i64 dd]), none, some (.arr 117 (prs f)), some (.arr 112 [.slice (some ⟨4, 0, none⟩) g.length 1, .pointer (some ⟨5, 0, none⟩)]), some (.arr 117 (prs g)), some (.hi (.stk (p :: rs))), some (.arr 117 (prs (mergeF g (f.take (i + 1)))))] (m - 1) (by omega) ?_ ?_ ⟨i + 1, by omega, ?_, ?_, ?_, ?_, 6, ?_, .inr ⟨rfl, rfl⟩⟩ <;> simp [t0, t23, t24, hsuc]
      · simp (implicitDefEqProofs := false) [tblM, st73, t0, t5, t23, t24, t25, hi, hi', rx, lx, Pr.cells, hwr, hml]
        refine round_plan [] [0, 1, 2, 3, 4, 5, 8] [some (.arr 100 [.pointer (some ⟨3, 0, none⟩), .int .i64 dd]), none, some (.arr 117 (prs f)), some (.arr 112 [.slice (some ⟨4, 0, none⟩) g.length 1, .pointer (some ⟨5, 0, none⟩)]), some (.arr 117 (prs g)), some (.hi (.stk (p :: rs))), some (.arr 117 (prs (mergeF g (f.take (i + 1)))))] (m - 1) (by omega) ?_ ?_ ⟨i + 1, by omega, ?_, ?_, ?_, ?_, 6, ?_, .inr ⟨rfl, rfl⟩⟩ <;> simp [t0, t23, t24, hsuc]
    · have hie : i = n := by omega
      subst hie
      have hf : f.take i = f := List.take_of_length_le (by omega)
      rw [hf] at t5 hH
      rcases hH with ⟨rfl, hg, rfl⟩ | ⟨rfl, rfl⟩
      · rw [hg] at t5
        simp (implicitDefEqProofs := false) [t0, t5, t23, t24, t25, forms58, a58, b58]
        refine ends_plan [.pack (GD.stk (g :: p :: rs)) 6 [4, 5], .pack (GD.log (g :: p :: rs)) 0 [6]] [0] ?_ ?_ ?_ <;> simp [frag_stk2, frag_log, AObj.mine, hg, hdd]
      · simp (implicitDefEqProofs := false) [t0, t5, t23, t24, t25, forms58, a58, b58]
        refine ends_plan [.pack (GD.stk (mergeF g f :: p :: rs)) 7 [6, 5], .pack (GD.log (mergeF g f :: p :: rs)) 0 [7]] [0] ?_ ?_ ?_ <;> simp [frag_stk2, frag_log, AObj.mine, hdd]
/-- Merge: the error, and the frames behind it. -/
def d62 : DStep
  | .log [f], [] => some (True, .int .i64 8, .log [f])
  | .log (f :: g :: rs), [] => some (GoodLog (f :: g :: rs), .int .i64 0, .log (mergeF g f :: rs))
  | _, _ => none
theorem st62_ok : CStepOk Tryd.prog cfg 62 (dataSt d62) := data_ok fun d rest p v d' h hp => by
  unfold d62 at h
  split at h
  · cases h; exact ⟨rfl, rfl, runs62_1 _⟩
  · cases h
    refine ⟨rfl, rfl, runs62_2 _ _ _ ?_ ?_⟩
    · have := hp.2.1; simp at this; omega
    · have := hp.2.2; rw [lenLog_cons, lenLog_cons] at this
      have := lenLog_nonneg ‹List (List Pr)›
      omega
  · cases h

end YtmhkpababjdnbaaDoor
end Go.Proofs
/-
  WRITES: what is good stays so.
-/
set_option linter.unusedSimpArgs false
set_option linter.unusedVariables false
set_option linter.unnecessarySimpa false
set_option linter.unusedSectionVars false
namespace Go.Proofs
namespace YtmhkpababjdnbaaDoor
open Go.Abs
set_option linter.unusedSimpArgs false

theorem good_log_nil : GoodLog [[]] := ⟨by simp, by simp, by simp [lenLog]⟩
theorem putF_len {f : List Pr} {p : Pr} : (putF f p).length = f.length ∨ (getP f p.t = none ∧ (putF f p).length = f.length + 1) := by
  induction f with
  | nil => exact .inr ⟨rfl, rfl⟩
  | cons a f ih =>
    simp only [putF]
    split
    · exact .inl rfl
    · rename_i h
      have e : getP (a :: f) p.t = getP f p.t := by simp [getP, h]
      rcases ih with h1 | ⟨h1, h2⟩
      · exact .inl (by simp [h1])
      · exact .inr ⟨by rw [e]; exact h1, by simp [h2]⟩
theorem put_good {f : List Pr} {fs : List (List Pr)} {t v : Int} (h : GoodLog (f :: fs)) (hc : putCode f fs t v = 0) : GoodLog (putF f ⟨t, v⟩ :: fs) := by
  refine ⟨by simp, by simpa using h.2.1, ?_⟩
  have h16 := h.2.2
  rw [lenLog_cons] at h16 ⊢
  rcases putF_len (f := f) (p := ⟨t, v⟩) with h1 | ⟨h1, h2⟩
  · rw [h1]; exact h16
  · unfold putCode at hc
    split at hc
    · cases hc
    · split at hc
      · cases hc
      · split at hc
        · cases hc
        · rename_i h3
          have h1' : getP f t = none := h1
          rw [h1', lenLog_cons] at h3
          simp at h3
          rw [h2]
          omega
theorem merge_good {f g : List Pr} {fs : List (List Pr)} (h : GoodLog (f :: g :: fs)) : GoodLog (mergeF g f :: fs) := by
  refine ⟨by simp, by have := h.2.1; simp at this ⊢; omega, ?_⟩
  have h16 := h.2.2
  have := mergeF_le g f
  rw [lenLog_cons, lenLog_cons] at h16
  rw [lenLog_cons]
  omega
theorem drop_good {f g : List Pr} {fs : List (List Pr)} (h : GoodLog (f :: g :: fs)) : GoodLog (g :: fs) := by
  refine ⟨by simp, by have := h.2.1; simp at this ⊢; omega, ?_⟩
  have h16 := h.2.2
  rw [lenLog_cons] at h16
  omega
theorem push_good {f : List Pr} {fs : List (List Pr)} (h : GoodLog (f :: fs)) (hl : (f :: fs).length < 5) : GoodLog ([] :: f :: fs) := by
  refine ⟨by simp, by simp at hl ⊢; omega, ?_⟩
  have h16 := h.2.2
  rw [lenLog_cons]
  simpa using h16
end YtmhkpababjdnbaaDoor
end Go.Proofs
/-
  THE DOCUMENT's LOG: New, Depth, Push, Drop.
-/
set_option linter.unusedSimpArgs false
set_option linter.unusedVariables false
set_option linter.unnecessarySimpa false
set_option linter.unusedSectionVars false
namespace Go.Proofs
namespace YtmhkpababjdnbaaDoor
open Go.Abs
set_option linter.unusedSimpArgs false

def rf (fs : List (List Pr)) : List Value := fs.reverse.flatMap frameC
theorem frag_rlg (fs : List (List Pr)) : frag (.rlog fs) = [.arr 125 [.slice (some ⟨1, 0, none⟩) fs.length 1], .arr 134 (rf fs)] := rfl
theorem rf_cons (f : List Pr) (r : List (List Pr)) : rf (f :: r) = rf r ++ frameC f := by simp [rf]
theorem frameC_len (f : List Pr) : (frameC f).length = 24 := by simp [frameC, tv12]
theorem rf_len (fs : List (List Pr)) : (rf fs).length = fs.length * 24 := by
  induction fs with
  | nil => rfl
  | cons f r ih => rw [rf_cons, List.length_append, ih, frameC_len, List.length_cons]; omega
theorem frameC_ground (f : List Pr) : grounds (frameC f) = true := by
  have h : ∀ l m : List Value, grounds l = true → grounds m = true → grounds (l ++ m) = true := by
    intro l m h1 h2
    induction l with
    | nil => exact h2
    | cons x l ih =>
      simp only [grounds, Bool.and_eq_true, List.cons_append] at h1 ⊢
      exact ⟨h1.1, ih h1.2⟩
  refine h _ _ ?_ ?_ <;> simp [tv12, grounds, ground]
theorem rf_ground (fs : List (List Pr)) : grounds (rf fs) = true := by
  have h : ∀ l m : List Value, grounds l = true → grounds m = true → grounds (l ++ m) = true := by
    intro l m h1 h2
    induction l with
    | nil => exact h2
    | cons x l ih =>
      simp only [grounds, Bool.and_eq_true, List.cons_append] at h1 ⊢
      exact ⟨h1.1, ih h1.2⟩
  induction fs with
  | nil => rfl
  | cons f r ih => rw [rf_cons]; exact h _ _ ih (frameC_ground f)
theorem ren_rf (θ : Nat → Nat) (fs : List (List Pr)) : rens θ (rf fs) = rf fs := rens_ground θ _ (rf_ground fs)
theorem take_rf (fs : List (List Pr)) : (rf fs).take (fs.length * 24) = rf fs := List.take_of_length_le (by rw [rf_len]; omega)
theorem rf_new : rf [[]] = [.bool false, .bool false, .bool false, .bool false, .bool false, .bool false, .bool false, .bool false, .bool false, .bool false, .bool false, .bool false, .int .u64 0, .int .u64 0, .int .u64 0, .int .u64 0, .int .u64 0, .int .u64 0, .int .u64 0, .int .u64 0, .int .u64 0, .int .u64 0, .int .u64 0, .int .u64 0] := rfl
theorem rf_push (fs : List (List Pr)) : rf ([] :: fs) = rf fs ++ [.bool false, .bool false, .bool false, .bool false, .bool false, .bool false, .bool false, .bool false, .bool false, .bool false, .bool false, .bool false, .int .u64 0, .int .u64 0, .int .u64 0, .int .u64 0, .int .u64 0, .int .u64 0, .int .u64 0, .int .u64 0, .int .u64 0, .int .u64 0, .int .u64 0, .int .u64 0] := rf_cons [] fs
attribute [simp] ren_rf
theorem runs75 : Runs Tryd.prog cfg 75 [] (AH.of []) fun r H' => r = .ret (.pointer (some ⟨0, 0, none⟩)) ∧ H' = AH.of [some (.hi (.rlog [[]]))] := by
  refine Runs.ends ?_
  refine runs_by (tbl := []) (by simp) 0 0 (af := a75) rfl ?_
  rw [a75, b75, run_eq]
  refine ⟨by simp, ?_⟩
  simp (implicitDefEqProofs := false)
  refine ends_plan [.pack (GD.rlog [[]]) 1 [0]] [1] ?_ ?_ ?_ <;> simp [frag_rlg, rf_new, AObj.mine]
def st75 : CStep GD := fun args H => match args with
  | [] => some (True, .ret (.pointer (some ⟨H.next, 0, none⟩)), H.add (.hi (.rlog [[]])))
  | _ => none
theorem st75_ok : CStepOk Tryd.prog cfg 75 st75 := by
  intro args H p r H' h hp
  unfold st75 at h
  split at h
  case h_2 => cases h
  cases h
  exact runs75.atK (ro_none rfl) [] (by simp) (by simp) trivial (by simp) (by simp) (by simp)

theorem runs66 (fs : List (List Pr)) (hl : fs.length ≤ 1000) : Runs Tryd.prog cfg 66 [.pointer (some ⟨0, 0, none⟩)] (AH.of [some (.hi (.rlog fs))])
    fun r H' => r = .ret (.int .i64 ((fs.length : Int) - 1)) ∧ H' = AH.of [some (.hi (.rlog fs))] := by
  refine Runs.ends ?_
  have hw : IntKind.i64.wrap ((fs.length : Int) - 1) = (fs.length : Int) - 1 := wrap_i64 (by omega) (by omega)
  refine runs_by (tbl := []) (by simp) 0 0 (af := a66) rfl ?_
  rw [a66, b66, run_eq]
  refine ⟨by simp, ?_⟩
  simp (implicitDefEqProofs := false) [frag_rlg, hw]
  refine ends_plan [.pack (GD.rlog fs) 0 [1]] [0] ?_ ?_ ?_ <;> simp [frag_rlg, AObj.mine]
def d66 : DStep
  | .rlog fs, [] => some (fs.length ≤ 1000, .int .i64 ((fs.length : Int) - 1), .rlog fs)
  | _, _ => none
theorem st66_ok : CStepOk Tryd.prog cfg 66 (dataSt d66) := data_ok fun d rest p v d' h hp => by
  unfold d66 at h
  split at h
  · cases h; exact ⟨rfl, rfl, runs66 _ hp⟩
  · cases h

set_option maxHeartbeats 4000000 in
theorem runs78 (f : List Pr) (r : List (List Pr)) (hl : r.length ≤ 100) : Runs Tryd.prog cfg 78 [.pointer (some ⟨0, 0, none⟩)] (AH.of [some (.hi (.rlog (f :: r)))])
    fun x H' => x = .ret (.int .i64 (if 4 ≤ r.length then 4 else 0)) ∧ H' = AH.of [some (.hi (if 4 ≤ r.length then .rlog (f :: r) else .rlog ([] :: f :: r)))] := by
  refine Runs.ends ?_
  obtain ⟨fs, hfs⟩ : ∃ fs, f :: r = fs := ⟨_, rfl⟩
  have hlen : fs.length = r.length + 1 := by rw [← hfs]; rfl
  rw [hfs]
  have hw : IntKind.i64.wrap ((fs.length : Int) - 1) = (r.length : Int) := by rw [wrap_i64 (by omega) (by omega)]; omega
  refine runs_by (tbl := []) (by simp) 0 1 (af := a78) rfl ?_
  rw [a78, b78, run_eq]
  refine ⟨by simp, ?_⟩
  by_cases h4 : 4 ≤ r.length
  · have h4' : (4 : Int) ≤ r.length := by omega
    rw [if_pos h4, if_pos h4]
    simp (implicitDefEqProofs := false) [frag_rlg, forms66, a66, b66, hw, h4']
    refine ends_plan [.pack (GD.rlog fs) 0 [1]] [0] ?_ ?_ ?_ <;> simp [frag_rlg, AObj.mine]
  · have h4' : ¬ (4 : Int) ≤ r.length := by omega
    rw [if_neg h4, if_neg h4]
    obtain ⟨n, hn⟩ : ∃ n, fs.length = n := ⟨_, rfl⟩
    have tk := take_rf fs
    have rl := rf_len fs
    rw [hn] at tk hw rl
    have z1 : n * 112 ≤ 140737488355328 ∧ n ≤ 9223372036854775807 := by omega
    have z2 : (n + 1) * 112 ≤ 140737488355328 ∧ n ≤ 9223372036854775806 := by omega
    have hpu := rf_push fs
    simp (implicitDefEqProofs := false) [frag_rlg, hn, forms66, a66, b66, hw, h4', tk, rl, z1, z2]
    refine ends_plan [.pack (GD.rlog ([] :: fs)) 0 [5]] [0] ?_ ?_ ?_ <;> simp [frag_rlg, hn, AObj.mine, hpu]
def d78 : DStep
  | .rlog (f :: r), [] => some (r.length ≤ 100, .int .i64 (if 4 ≤ r.length then 4 else 0), if 4 ≤ r.length then .rlog (f :: r) else .rlog ([] :: f :: r))
  | _, _ => none
theorem st78_ok : CStepOk Tryd.prog cfg 78 (dataSt d78) := data_ok fun d rest p v d' h hp => by
  unfold d78 at h
  split at h
  · cases h; exact ⟨rfl, rfl, runs78 _ _ hp⟩
  · cases h

set_option maxHeartbeats 4000000 in
theorem runs79 (f : List Pr) (r : List (List Pr)) (hl : r.length ≤ 100) : Runs Tryd.prog cfg 79 [.pointer (some ⟨0, 0, none⟩)] (AH.of [some (.hi (.rlog (f :: r)))])
    fun x H' => x = .ret (.int .i64 (if r = [] then 8 else 0)) ∧ H' = AH.of [some (.hi (if r = [] then .rlog (f :: r) else .rlog r))] := by
  refine Runs.ends ?_
  have hw : IntKind.i64.wrap (((r.length : Int) + 1) - 1) = (r.length : Int) := by rw [wrap_i64 (by omega) (by omega)]; omega
  refine runs_by (tbl := []) (by simp) 0 1 (af := a79) rfl ?_
  rw [a79, b79, run_eq]
  refine ⟨by simp, ?_⟩
  by_cases h0 : r = []
  · rw [if_pos h0, if_pos h0]
    subst h0
    have hw0 : IntKind.i64.wrap 0 = 0 := by decide
    simp (implicitDefEqProofs := false) [frag_rlg, forms66, a66, b66, hw0]
    refine ends_plan [.pack (GD.rlog [f]) 0 [1]] [0] ?_ ?_ ?_ <;> simp [frag_rlg, AObj.mine]
  · rw [if_neg h0, if_neg h0]
    have h1 : ¬ (r.length : Int) = 0 := by
      have : r.length ≠ 0 := fun h => h0 (List.eq_nil_of_length_eq_zero h)
      omega
    obtain ⟨n, hn⟩ : ∃ n, r.length = n := ⟨_, rfl⟩
    have tk : (rf (f :: r)).take (n * 24) = rf r := by rw [rf_cons, ← hn, List.take_append_of_le_length (by rw [rf_len]; omega)]; exact take_rf r
    have rl := rf_len (f :: r)
    rw [hn] at hw h1
    have hn1 : (f :: r).length = n + 1 := by simp [hn]
    rw [hn1] at rl
    have z1 : n * 112 ≤ 140737488355328 ∧ n ≤ 9223372036854775807 := by omega
    have hw2 : IntKind.i64.wrap (n : Int) = n := wrap_i64 (by omega) (by omega)
    have z2 : n * 24 ≤ (n + 1) * 24 := by omega
    have z3 : (n : Int) ≤ (n : Int) + 1 := by omega
    have z4 : ¬ n = 0 := by omega
    simp (implicitDefEqProofs := false) [frag_rlg, hn, forms66, a66, b66, hw, hw2, h1, tk, rl, z1, z2, z3, z4, bound]
    refine ends_plan [.pack (GD.rlog r) 0 [3]] [0] ?_ ?_ ?_ <;> simp [frag_rlg, hn, AObj.mine]
def d79 : DStep
  | .rlog (f :: r), [] => some (r.length ≤ 100, .int .i64 (if r = [] then 8 else 0), if r = [] then .rlog (f :: r) else .rlog r)
  | _, _ => none
theorem st79_ok : CStepOk Tryd.prog cfg 79 (dataSt d79) := data_ok fun d rest p v d' h hp => by
  unfold d79 at h
  split at h
  · cases h; exact ⟨rfl, rfl, runs79 _ _ hp⟩
  · cases h
end YtmhkpababjdnbaaDoor
end Go.Proofs
/-
  THE DOCUMENT's LOG: Len, set, Put.
-/
set_option linter.unusedSimpArgs false
set_option linter.unusedVariables false
set_option linter.unnecessarySimpa false
set_option linter.unusedSectionVars false
namespace Go.Proofs
namespace YtmhkpababjdnbaaDoor
open Go.Abs
set_option linter.unusedSimpArgs false

theorem frameC_has (g : List Pr) {t : Nat} (h : t < 12) : (frameC g)[t]? = some (.bool (getP g t).isSome) := by
  unfold frameC
  rw [List.getElem?_append_left (by simp [tv12]; omega), List.getElem?_map]
  have : tv12[t]? = some (t : Int) := by
    match t, h with
    | 0, _ | 1, _ | 2, _ | 3, _ | 4, _ | 5, _ | 6, _ | 7, _ | 8, _ | 9, _ | 10, _ | 11, _ => rfl
  rw [this]; rfl
theorem frameC_val (g : List Pr) {t : Nat} (h : t < 12) : (frameC g)[12 + t]? = some (.int .u64 ((getP g t).getD 0)) := by
  unfold frameC
  rw [List.getElem?_append_right (by simp [tv12]), List.getElem?_map]
  have : tv12[12 + t - (tv12.map fun t => Value.bool (getP g t).isSome).length]? = some (t : Int) := by
    match t, h with
    | 0, _ | 1, _ | 2, _ | 3, _ | 4, _ | 5, _ | 6, _ | 7, _ | 8, _ | 9, _ | 10, _ | 11, _ => rfl
  rw [this]; rfl
theorem flat_at {α : Type} {f : α → List Value} {k : Nat} (hk : ∀ x, (f x).length = k) : ∀ {l : List α} {i : Nat} {g : α}, l[i]? = some g → ((l.flatMap f).drop (i * k)).take k = f g
  | [], i, g, h => by simp at h
  | x :: l, 0, g, h => by
    simp at h; subst h
    rw [Nat.zero_mul, List.drop_zero, List.flatMap_cons, List.take_append_of_le_length (by rw [hk]; omega), List.take_of_length_le (by rw [hk]; omega)]
  | x :: l, i + 1, g, h => by
    rw [List.flatMap_cons, Nat.succ_mul, Nat.add_comm, ← List.drop_drop, List.drop_left' (hk x)]
    exact flat_at hk (by simpa using h)
theorem rf_at {fs : List (List Pr)} {i : Nat} {g : List Pr} (h : fs.reverse[i]? = some g) : ((rf fs).drop (i * 24)).take 24 = frameC g := flat_at frameC_len h
theorem rf_get {fs : List (List Pr)} {i : Nat} {g : List Pr} (h : fs.reverse[i]? = some g) {j : Nat} (hj : j < 24) : (rf fs)[i * 24 + j]? = (frameC g)[j]? := by
  rw [← rf_at h, List.getElem?_take, if_pos hj, List.getElem?_drop]
/-- How many variables a frame has. -/
def cntF (g : List Pr) (n : Nat) : Nat := (List.range n).countP fun t => (getP g (t : Nat)).isSome
def cntLg (fr : List (List Pr)) : Nat := (fr.map fun g => cntF g 12).sum
theorem cntF_succ (g : List Pr) (n : Nat) : cntF g (n + 1) = cntF g n + if (getP g (n : Nat)).isSome = true then 1 else 0 := by
  unfold cntF
  rw [List.range_succ, List.countP_append]
  simp [List.countP_cons]
theorem cntF_le (g : List Pr) (n : Nat) : cntF g n ≤ n := by
  have := List.countP_le_length (p := fun t : Nat => (getP g (t : Nat)).isSome) (l := List.range n)
  simpa [cntF] using this
theorem cntLg_succ {fr : List (List Pr)} {i : Nat} {g : List Pr} (h : fr[i]? = some g) : cntLg (fr.take (i + 1)) = cntLg (fr.take i) + cntF g 12 := by
  unfold cntLg
  rw [List.take_add_one, h, List.map_append, List.sum_append]
  simp
theorem cntLg_le (fr : List (List Pr)) : cntLg fr ≤ 12 * fr.length := by
  unfold cntLg
  induction fr with
  | nil => simp
  | cons g fr ih =>
    have := cntF_le g 12
    simp only [List.map_cons, List.sum_cons, List.length_cons]
    omega
/-- How many values all frames have. -/
def cntAll (fs : List (List Pr)) : Nat := cntLg fs.reverse
def lenI (fs : List (List Pr)) (m : Nat) (tm : Nat → Value) (H : AH GD) : Prop := ∃ i : Nat, m + i = fs.length ∧ tm 0 = .pointer (some ⟨0, 0, none⟩) ∧ tm 3 = .int .i64 (cntLg (fs.reverse.take i)) ∧ tm 4 = .int .i64 i ∧ H = AH.of [some (.arr 125 [.slice (some ⟨1, 0, none⟩) fs.length 1]), some (.arr 134 (rf fs))]
def lenJ (fs : List (List Pr)) (g : List Pr) (i m : Nat) (tm : Nat → Value) (H : AH GD) : Prop := ∃ j : Nat, m + j = 12 ∧ tm 0 = .pointer (some ⟨0, 0, none⟩) ∧ tm 3 = .int .i64 ((cntLg (fs.reverse.take i) + cntF g j : Nat) : Int) ∧ tm 4 = .int .i64 i ∧ tm 5 = .int .i64 j ∧ H = AH.of [some (.arr 125 [.slice (some ⟨1, 0, none⟩) fs.length 1]), some (.arr 134 (rf fs))]
set_option maxHeartbeats 8000000 in
theorem runs85 (fs : List (List Pr)) (hl : fs.length ≤ 100) : Runs Tryd.prog cfg 85 [.pointer (some ⟨0, 0, none⟩)] (AH.of [some (.hi (.rlog fs))])
    fun r H' => r = .ret (.int .i64 (cntAll fs)) ∧ H' = AH.of [some (.hi (.rlog fs))] := by
  refine Runs.ends ?_
  refine Runs.opn 0 (H1 := AH.of [some (.arr 125 [.slice (some ⟨1, 0, none⟩) fs.length 1]), some (.arr 134 (rf fs))]) (by simp [openK, frag_rlg]) ?_
  have hrl := rf_len fs
  refine runs_by (tbl := []) (by simp) 101 0 (af := a85) rfl ?_
  rw [a85, b85, run_eq]
  refine ⟨by simp, ?_⟩
  simp (implicitDefEqProofs := false)
  refine loop_inv (sg_mono gX_ok (tabS_ok (by simp)) _ _ noY noY_mono) (lenI fs) (m := fs.length) ⟨0, by omega, by simp [cntLg]⟩ (by omega) ?_
  rintro m tm H ⟨i, hm, t0, t3, t4, rfl⟩
  by_cases hi : i < fs.length
  · obtain ⟨g, hg⟩ : ∃ g, fs.reverse[i]? = some g := ⟨fs.reverse[i]'(by simpa using hi), List.getElem?_eq_getElem (by simpa using hi)⟩
    have hi' : (i : Int) < fs.length := by omega
    have hwr := inc_i64 hi (by omega)
    have hsuc := cntLg_succ hg
    have hb := cntLg_le (fs.reverse.take i)
    rw [List.length_take, List.length_reverse] at hb
    simp (implicitDefEqProofs := false) [t0, t3, t4, hi']
    refine loop_inv (sg_mono gX_ok (tabS_ok (by simp)) _ _ noY noY_mono) (lenJ fs g i) (m := 12) ⟨0, by omega, by simp [t0, t3, t4, cntF]⟩ (by omega) ?_
    rintro m2 tm H ⟨j, hm2, t0, t3, t4, t5, rfl⟩
    by_cases hj : j < 12
    · have hj' : (j : Int) < 12 := by omega
      have hwj := inc_i64 hj (by omega)
      have hc := rf_get hg (j := j) (by omega)
      rw [frameC_has g hj] at hc
      have hcs := cntF_succ g j
      have hcl := cntF_le g j
      have hw3 := inc_i64 (i := cntLg (fs.reverse.take i) + cntF g j) (n := 10000) (by omega) (by omega)
      obtain ⟨C, hC⟩ : ∃ C, cntLg (fs.reverse.take i) + cntF g j = C := ⟨_, rfl⟩
      rw [hC] at t3 hw3
      cases hh : (getP g (j : Nat)).isSome with
      | true =>
        rw [hh] at hc hcs
        have hcs' : cntLg (fs.reverse.take i) + cntF g (j + 1) = C + 1 := by rw [hcs, ← hC]; simp; omega
        simp (implicitDefEqProofs := false) [t0, t3, t4, t5, hi, hi', hj', hwj, hc, hw3]
        exact ⟨m2 - 1, by omega, j + 1, by omega, by simp [t0, t4, hcs']⟩
      | false =>
        rw [hh] at hc hcs
        have hcs' : cntLg (fs.reverse.take i) + cntF g (j + 1) = C := by rw [hcs, ← hC]; simp
        simp (implicitDefEqProofs := false) [t0, t3, t4, t5, hi, hi', hj', hwj, hc]
        exact ⟨m2 - 1, by omega, j + 1, by omega, by simp [t0, t3, t4, hcs']⟩
    · have hje : j = 12 := by omega
      have hj' : ¬ (j : Int) < 12 := by omega
      rw [hje, ← hsuc] at t3
      simp (implicitDefEqProofs := false) [t0, t3, t4, t5, hj', hwr]
      exact ⟨m - 1, by omega, i + 1, by omega, by simp [t0, t3]⟩
  · have hie : i = fs.length := by omega
    have hi' : ¬ (i : Int) < fs.length := by omega
    have ht : fs.reverse.take i = fs.reverse := List.take_of_length_le (by simp; omega)
    rw [ht] at t3
    change tm 3 = .int .i64 (cntAll fs) at t3
    simp (implicitDefEqProofs := false) [t0, t3, t4, hi']
    refine ends_plan [.pack (GD.rlog fs) 0 [1]] [0] ?_ ?_ ?_ <;> simp [frag_rlg, AObj.mine]
def d85 : DStep
  | .rlog fs, [] => some (fs.length ≤ 100, .int .i64 (cntAll fs), .rlog fs)
  | _, _ => none
theorem st85_ok : CStepOk Tryd.prog cfg 85 (dataSt d85) := data_ok fun d rest p v d' h hp => by
  unfold d85 at h
  split at h
  · cases h; exact ⟨rfl, rfl, runs85 _ hp⟩
  · cases h
end YtmhkpababjdnbaaDoor
end Go.Proofs
/-
  THE DOCUMENT's LOG: Put.
-/
set_option linter.unusedSimpArgs false
set_option linter.unusedVariables false
set_option linter.unnecessarySimpa false
set_option linter.unusedSectionVars false
namespace Go.Proofs
namespace YtmhkpababjdnbaaDoor
open Go.Abs
set_option linter.unusedSimpArgs false

theorem getP_cons (p : Pr) (f : List Pr) (t : Int) : getP (p :: f) t = if p.t = t then some p.v else getP f t := by
  by_cases h : p.t = t <;> simp [getP, h]
theorem getP_put (f : List Pr) (p : Pr) (t : Int) : getP (putF f p) t = if p.t = t then some p.v else getP f t := by
  induction f with
  | nil => rw [putF, getP_cons]
  | cons q f ih =>
    rw [putF]
    by_cases h : q.t = p.t
    · rw [if_pos h, getP_cons]
      simp only [h]
      by_cases h2 : p.t = t
      · simp [h2]
      · have : ¬ q.t = t := by omega
        simp [h2, getP_cons, this]
    · rw [if_neg h, getP_cons, ih]
      by_cases h2 : q.t = t
      · have : ¬ p.t = t := by omega
        simp [h2, this, getP_cons]
      · simp [h2, getP_cons]
theorem frame_ext {f g : List Pr} {cs : List Value} (hl : cs.length = 24) (h1 : ∀ t : Nat, t < 12 → cs[t]? = some (.bool (getP f t).isSome)) (h2 : ∀ t : Nat, t < 12 → cs[12 + t]? = some (.int .u64 ((getP f t).getD 0))) : cs = frameC f := by
  refine List.ext_getElem? fun j => ?_
  by_cases hj : j < 12
  · rw [h1 j hj, frameC_has f hj]
  · by_cases hj2 : j < 24
    · have e : j = 12 + (j - 12) := by omega
      rw [e, h2 _ (by omega), frameC_val f (by omega)]
    · rw [List.getElem?_eq_none (by omega), List.getElem?_eq_none (by rw [frameC_len]; omega)]
theorem frameC_put (f : List Pr) {t : Nat} (ht : t < 12) (v : Int) : ((frameC f).set t (.bool true)).set (12 + t) (.int .u64 v) = frameC (putF f ⟨t, v⟩) := by
  refine frame_ext (f := putF f ⟨t, v⟩) (g := f) (by simp [frameC_len]) (fun s hs => ?_) (fun s hs => ?_)
  · rw [List.getElem?_set, if_neg (by omega), List.getElem?_set, frameC_has f hs, getP_put]
    by_cases h : t = s
    · subst h
      simp [frameC_len]; omega
    · have : ¬ (t : Int) = s := by omega
      simp [h, this]
  · rw [List.getElem?_set, List.length_set, frameC_len, List.getElem?_set, frameC_val f hs, getP_put]
    by_cases h : t = s
    · subst h
      simp; omega
    · have : ¬ (t : Int) = s := by omega
      have h2 : ¬ 12 + t = 12 + s := by omega
      have h3 : ¬ t = 12 + s := by omega
      simp [h2, h3, this, h]
theorem frameC_one (f : List Pr) : (frameC f).all (·.oneCell') = true := by simp [frameC, tv12, Value.oneCell']
theorem setMany_at : ∀ (C A B : List Value), B.length = C.length → setMany (A ++ B) A.length C = A ++ C
  | [], A, B, h => by
    have : B = [] := List.eq_nil_of_length_eq_zero (by simpa using h)
    rw [this]; rfl
  | c :: C, A, B, h => by
    cases B with
    | nil => simp at h
    | cons b B =>
      rw [setMany]
      have e : (A ++ b :: B).set A.length c = (A ++ [c]) ++ B := by
        rw [List.set_append_right _ _ (Nat.le_refl _)]
        simp
      have := setMany_at C (A ++ [c]) B (by simpa using h)
      rw [List.length_append] at this
      rw [e, show A.length + 1 = A.length + [c].length from rfl, this]
      simp
theorem setMany_all {A C : List Value} (h : A.length = C.length) : setMany A 0 C = C := by
  have := setMany_at C [] A h
  simpa using this
theorem setMany_top (f g : List Pr) (r : List (List Pr)) {k : Nat} (hk : k = r.length * 24) : setMany (rf (f :: r)) k (frameC g) = rf (g :: r) := by
  subst hk
  rw [rf_cons, rf_cons, ← rf_len r]
  exact setMany_at _ _ _ (by rw [frameC_len, frameC_len])
theorem rf_top (f : List Pr) (r : List (List Pr)) {k : Nat} (hk : k = r.length * 24) : ((rf (f :: r)).drop k).take 24 = frameC f := by
  subst hk
  rw [rf_cons, ← rf_len r, List.drop_left, List.take_of_length_le (by rw [frameC_len]; omega)]
/-- Good frames: each variable once, and of the few. -/
def GoodFr (f : List Pr) : Prop := (f.map (·.t)).Nodup ∧ ∀ p ∈ f, 0 ≤ p.t ∧ p.t < 12
theorem getP_no {f : List Pr} {t : Int} (h : ∀ p ∈ f, p.t ≠ t) : getP f t = none := by
  induction f with
  | nil => rfl
  | cons p f ih => rw [getP_cons, if_neg (h p (by simp)), ih fun q hq => h q (List.mem_cons_of_mem _ hq)]
theorem cntF_good {f : List Pr} (h : GoodFr f) : cntF f 12 = f.length := by
  have hz : ∀ n, cntF [] n = 0 := by
    intro n
    induction n with
    | zero => rfl
    | succ n ih => rw [cntF_succ, ih]; rfl
  induction f with
  | nil => exact hz 12
  | cons p f ih =>
    obtain ⟨h1, h2⟩ := h
    simp only [List.map_cons, List.nodup_cons] at h1
    have ih := ih ⟨h1.2, fun q hq => h2 q (List.mem_cons_of_mem _ hq)⟩
    obtain ⟨t, ht⟩ : ∃ t : Nat, p.t = t := ⟨p.t.toNat, by have := h2 p (by simp); omega⟩
    have hlt : t < 12 := by have := h2 p (by simp); omega
    have hno : getP f t = none := getP_no fun q hq e => h1.1 (by rw [ht, ← e]; exact List.mem_map.2 ⟨q, hq, rfl⟩)
    have key : ∀ n, cntF (p :: f) n = cntF f n + if t < n then 1 else 0 := by
      intro n
      induction n with
      | zero => simp [cntF]
      | succ n ihn =>
        rw [cntF_succ, cntF_succ, ihn, getP_cons, ht]
        by_cases h : t = n
        · subst h
          rw [if_pos rfl, hno]
          simp
        · have h' : ¬ (t : Int) = n := by omega
          rw [if_neg h']
          have e1 : (t < n + 1) ↔ (t < n) := by omega
          simp only [e1]
          omega
    rw [key 12, if_pos hlt, ih, List.length_cons]
theorem cntLg_good {fs : List (List Pr)} (h : ∀ f ∈ fs, GoodFr f) : (cntAll fs : Int) = lenLog fs := by
  unfold cntAll cntLg lenLog
  have e : (fs.reverse.map fun g => cntF g 12).sum = (fs.map List.length).sum := by
    rw [List.map_reverse, List.sum_reverse]
    congr 1
    exact List.map_congr_left fun f hf => cntF_good (h f hf)
  rw [e]
def tblRP : List (FuncId × CStep GD) := [(64, st64), (85, dataSt d85)]
theorem tblRP_ok : ∀ x ∈ tblRP, CStepOk Tryd.prog cfg x.1 x.2 := by simp [tblRP, st64_ok, st85_ok]
set_option maxRecDepth 10000 in
set_option maxHeartbeats 16000000 in
theorem runs77 (f : List Pr) (r : List (List Pr)) (t v : Int) (hg : GoodLog (f :: r)) (hf : ∀ g ∈ f :: r, GoodFr g) (hv : 0 ≤ v ∧ v < 18446744073709551616) : Runs Tryd.prog cfg 77 [.pointer (some ⟨0, 0, none⟩), .int .i64 t, .int .u64 v] (AH.of [some (.hi (.rlog (f :: r)))])
    fun x H' => x = .ret (.int .i64 (putCode f r t v)) ∧ H' = AH.of [some (.hi (if putCode f r t v = 0 then .rlog (putF f ⟨t, v⟩ :: r) else .rlog (f :: r)))] := by
  refine Runs.ends ?_
  have hl5 : r.length ≤ 4 := by have := hg.2.1; simp at this; omega
  have hcnt := cntLg_good hf
  refine runs_by (tbl := tblRP) tblRP_ok 0 2 (af := a77) rfl ?_
  rw [a77, b77, run_eq]
  refine ⟨by simp, ?_⟩
  by_cases ht0 : t < 0
  · have hc : putCode f r t v = 2 := by unfold putCode; rw [if_pos (.inl ht0)]
    simp (implicitDefEqProofs := false) [ht0, hc]
    refine ends_plan [] [0] ?_ ?_ ?_ <;> simp
  by_cases ht1 : 12 ≤ t
  · have hc : putCode f r t v = 2 := by unfold putCode; rw [if_pos (.inr ht1)]
    simp (implicitDefEqProofs := false) [ht0, ht1, hc]
    refine ends_plan [] [0] ?_ ?_ ?_ <;> simp
  cases hr : rightB v with
  | false =>
    have hc : putCode f r t v = 3 := by unfold putCode; rw [if_neg (by omega), if_pos hr]
    simp (implicitDefEqProofs := false) [tblRP, st64, ht0, ht1, hv, hr, hc]
    refine ends_plan [] [0] ?_ ?_ ?_ <;> simp
  | true =>
    obtain ⟨n, hn⟩ : ∃ n : Nat, t = n := ⟨t.toNat, by omega⟩
    subst hn
    have hn12 : n < 12 := by omega
    obtain ⟨R, hR⟩ : ∃ R, r.length = R := ⟨_, rfl⟩
    have hw : IntKind.i64.wrap (((R : Int) + 1) - 1) = (R : Int) := by rw [wrap_i64 (by omega) (by omega)]; omega
    have hw2 : IntKind.i64.wrap (R : Int) = R := wrap_i64 (by omega) (by omega)
    have hrl := rf_len (f :: r)
    simp only [List.length_cons, hR] at hrl
    have htop := rf_top f r (k := R * 24) (by rw [hR])
    have hone := frameC_one f
    have hfl := frameC_len f
    have hhas := frameC_has f hn12
    have hz : setMany [.bool false, .bool false, .bool false, .bool false, .bool false, .bool false, .bool false, .bool false, .bool false, .bool false, .bool false, .bool false, .int .u64 0, .int .u64 0, .int .u64 0, .int .u64 0, .int .u64 0, .int .u64 0, .int .u64 0, .int .u64 0, .int .u64 0, .int .u64 0, .int .u64 0, .int .u64 0] 0 (frameC f) = frameC f := setMany_all (by rw [frameC_len]; rfl)
    have hle : R * 24 + 24 ≤ (R + 1) * 24 := by omega
    have hnn : (0 : Int) ≤ R := by omega
    have hlt : (R : Int) < (R : Int) + 1 := by omega
    have hni : (n : Int) < 12 := by omega
    have hn24 : n + 1 ≤ 24 := by omega
    have hn25 : 12 + n + 1 ≤ 24 := by omega
    have hn0 : n ≤ 23 := by omega
    have hn13 : 12 + n ≤ 23 := by omega
    have htk : (rf (f :: r)).take ((R + 1) * 24) = rf (f :: r) := List.take_of_length_le (by omega)
    have hal : ((frameC f).set n (.bool true)).length = 24 := by simp [frameC_len]
    have hput := frameC_put f hn12 v
    have hfp := frameC_len (putF f ⟨(n : Int), v⟩)
    have hop := frameC_one (putF f ⟨(n : Int), v⟩)
    have hst := setMany_top f (putF f ⟨(n : Int), v⟩) r (k := R * 24) (by rw [hR])
    have hz1 : (R + 1) * 112 ≤ 140737488355328 ∧ R ≤ 9223372036854775806 := by omega
    have hz2 : (frameC (putF f ⟨(n : Int), v⟩)).take 24 = frameC (putF f ⟨(n : Int), v⟩) := List.take_of_length_le (by rw [frameC_len]; omega)
    have hz3 : (frameC f).take 24 = frameC f := List.take_of_length_le (by rw [frameC_len]; omega)
    cases hh : (getP f (n : Int)).isSome with
    | true =>
      have hc : putCode f r n v = 0 := by
        unfold putCode
        rw [if_neg (by omega), if_neg (by simp [hr]), if_neg (by
          rintro ⟨h, _⟩
          rw [Option.isNone_iff_eq_none] at h
          rw [h] at hh; cases hh)]
      rw [hh] at hhas
      rw [hc]
      simp (implicitDefEqProofs := false) [tblRP, st64, ht0, ht1, hv, hr, frag_rlg, hR, hw, hw2, hlt, hrl, htop, hone, hfl, hz, hle, hhas, hn12, hni, hn24, hn25, hnn, forms86, a86, b86, htk, hal, hput, hfp, hop, hst, hz1, hz2, hz3, hn0, hn13]
      refine ends_plan [.pack (GD.rlog (putF f ⟨(n : Int), v⟩ :: r)) 0 [5]] [0] ?_ ?_ ?_ <;> simp [frag_rlg, hR, AObj.mine]
    | false =>
      rw [hh] at hhas
      have hno : (getP f (n : Int)).isNone = true := by
        cases hx : getP f (n : Int) with
        | none => rfl
        | some y => rw [hx] at hh; cases hh
      simp (implicitDefEqProofs := false) [tblRP, st64, ht0, ht1, hv, hr, frag_rlg, hR, hw, hw2, hlt, hrl, htop, hone, hfl, hz, hle, hhas, hn12, hni, hn24, hn25, hnn, forms86, a86, b86, htk, hal, hput, hfp, hop, hst, hz1, hz2, hz3, hn0, hn13, dataSt, d85]
      refine pack_first [.pack (GD.rlog (f :: r)) 0 [1]] ?_ ?_
      · simp [frag_rlg, hR, AObj.mine]
      by_cases h16 : 16 ≤ lenLog (f :: r)
      · have hc : putCode f r n v = 4 := by
          unfold putCode
          rw [if_neg (by omega), if_neg (by simp [hr]), if_pos ⟨hno, h16⟩]
        have h16' : (16 : Int) ≤ (cntAll (f :: r) : Nat) := by rw [hcnt]; exact h16
        rw [hc]
        have hl6 : R + 1 ≤ 100 := by omega
        simp (implicitDefEqProofs := false) [tblRP, st64, ht0, ht1, hv, hr, frag_rlg, hR, hw, hw2, hlt, hrl, htop, hone, hfl, hz, hle, hhas, hn12, hni, hn24, hn25, hnn, forms86, a86, b86, htk, hal, hput, hfp, hop, hst, hz1, hz2, hz3, hn0, hn13, dataSt, d85, h16', hl6]
        refine ends_plan [] [0] ?_ ?_ ?_ <;> simp
      · have hc : putCode f r n v = 0 := by
          unfold putCode
          rw [if_neg (by omega), if_neg (by simp [hr]), if_neg (by rintro ⟨_, h⟩; exact h16 h)]
        have h16' : ¬ (16 : Int) ≤ (cntAll (f :: r) : Nat) := by rw [hcnt]; exact h16
        rw [hc]
        have hl6 : R + 1 ≤ 100 := by omega
        simp (implicitDefEqProofs := false) [tblRP, st64, ht0, ht1, hv, hr, frag_rlg, hR, hw, hw2, hlt, hrl, htop, hone, hfl, hz, hle, hhas, hn12, hni, hn24, hn25, hnn, forms86, a86, b86, htk, hal, hput, hfp, hop, hst, hz1, hz2, hz3, hn0, hn13, dataSt, d85, h16', hl6]
        refine ends_plan [.pack (GD.rlog (putF f ⟨(n : Int), v⟩ :: r)) 0 [6]] [0] ?_ ?_ ?_ <;> simp [frag_rlg, hR, AObj.mine]
def GoodFs (fs : List (List Pr)) : Prop := GoodLog fs ∧ ∀ f ∈ fs, GoodFr f
def d77 : DStep
  | .rlog (f :: r), [.int .i64 t, .int .u64 v] => some (GoodFs (f :: r) ∧ 0 ≤ v ∧ v < 18446744073709551616, .int .i64 (putCode f r t v), if putCode f r t v = 0 then .rlog (putF f ⟨t, v⟩ :: r) else .rlog (f :: r))
  | _, _ => none
theorem st77_ok : CStepOk Tryd.prog cfg 77 (dataSt d77) := data_ok fun d rest p v d' h hp => by
  unfold d77 at h
  split at h
  · cases h; exact ⟨rfl, rfl, runs77 _ _ _ _ hp.1.1 hp.1.2 hp.2⟩
  · cases h
theorem putF_keys {f : List Pr} {p : Pr} (h : (f.map (·.t)).Nodup) : ((putF f p).map (·.t)).Nodup := by
  have mem : ∀ (f : List Pr) (x : Int), x ∈ (putF f p).map (·.t) → x = p.t ∨ x ∈ f.map (·.t) := by
    intro f x hx
    induction f with
    | nil => simp [putF] at hx; exact .inl hx
    | cons q f ih =>
      rw [putF] at hx
      split at hx
      · simp only [List.map_cons, List.mem_cons] at hx ⊢
        rcases hx with hx | hx
        · exact .inr (.inl hx)
        · exact .inr (.inr hx)
      · simp only [List.map_cons, List.mem_cons] at hx ⊢
        rcases hx with hx | hx
        · exact .inr (.inl hx)
        · rcases ih hx with h | h
          · exact .inl h
          · exact .inr (.inr h)
  induction f with
  | nil => simp [putF]
  | cons q f ih =>
    simp only [List.map_cons, List.nodup_cons] at h
    rw [putF]
    split
    · simp only [List.map_cons, List.nodup_cons]; exact h
    · rename_i hq
      simp only [List.map_cons, List.nodup_cons]
      refine ⟨fun hh => ?_, ih h.2⟩
      rcases mem f _ hh with e | e
      · exact hq e
      · exact h.1 e
theorem putF_in {f : List Pr} {p x : Pr} (h : x ∈ putF f p) : x.t = p.t ∨ x ∈ f := by
  induction f with
  | nil => simp [putF] at h; exact .inl (by rw [h])
  | cons q f ih =>
    rw [putF] at h
    split at h
    · rename_i e
      rcases List.mem_cons.1 h with rfl | h
      · exact .inl e
      · exact .inr (List.mem_cons_of_mem _ h)
    · rcases List.mem_cons.1 h with rfl | h
      · exact .inr (by simp)
      · rcases ih h with h | h
        · exact .inl h
        · exact .inr (List.mem_cons_of_mem _ h)
theorem putFr_good {f : List Pr} {p : Pr} (h : GoodFr f) (hp : 0 ≤ p.t ∧ p.t < 12) : GoodFr (putF f p) := by
  refine ⟨putF_keys h.1, fun x hx => ?_⟩
  rcases putF_in hx with e | hx
  · rw [e]; exact hp
  · exact h.2 x hx
theorem mergeFr_good {g f : List Pr} (hg : GoodFr g) (hf : ∀ p ∈ f, 0 ≤ p.t ∧ p.t < 12) : GoodFr (mergeF g f) := by
  unfold mergeF
  induction f generalizing g with
  | nil => exact hg
  | cons p f ih => exact ih (g := putF g p) (putFr_good hg (hf p (by simp))) fun q hq => hf q (List.mem_cons_of_mem _ hq)
theorem getP_merge {f : List Pr} (t : Int) : ∀ {g : List Pr}, (f.map (·.t)).Nodup → getP (mergeF g f) t = match getP f t with
    | some v => some v
    | none => getP g t := by
  unfold mergeF
  induction f with
  | nil => intro g _; rfl
  | cons p f ih =>
    intro g h
    simp only [List.map_cons, List.nodup_cons] at h
    rw [List.foldl_cons, ih h.2, getP_cons]
    by_cases hp : p.t = t
    · have hno : getP f t = none := getP_no fun q hq e => h.1 (by rw [hp, ← e]; exact List.mem_map.2 ⟨q, hq, rfl⟩)
      rw [hno, if_pos hp]
      simp only [getP_put, hp, if_true]
    · rw [if_neg hp]
      cases getP f t with
      | some v => rfl
      | none => simp only [getP_put, hp, if_false]
end YtmhkpababjdnbaaDoor
end Go.Proofs
/-
  THE DOCUMENT's LOG: Merge.
-/
set_option linter.unusedSimpArgs false
set_option linter.unusedVariables false
set_option linter.unnecessarySimpa false
set_option linter.unusedSectionVars false
namespace Go.Proofs
namespace YtmhkpababjdnbaaDoor
open Go.Abs
set_option linter.unusedSimpArgs false

/-- A frame into which the first variables of another one went. -/
def mixC (f g : List Pr) (j : Nat) : List Value := (tv12.map fun t => .bool (if t < j then (getP f t).isSome || (getP g t).isSome else (getP g t).isSome)) ++ tv12.map fun t => .int .u64 (if t < j then ((getP f t).or (getP g t)).getD 0 else (getP g t).getD 0)
theorem mix_len (f g : List Pr) (j : Nat) : (mixC f g j).length = 24 := by simp [mixC, tv12]
theorem tv12_at {t : Nat} (h : t < 12) : tv12[t]? = some (t : Int) := by
  match t, h with
  | 0, _ | 1, _ | 2, _ | 3, _ | 4, _ | 5, _ | 6, _ | 7, _ | 8, _ | 9, _ | 10, _ | 11, _ => rfl
theorem mix_has (f g : List Pr) (j : Nat) {t : Nat} (h : t < 12) : (mixC f g j)[t]? = some (.bool (if t < j then (getP f t).isSome || (getP g t).isSome else (getP g t).isSome)) := by
  unfold mixC
  rw [List.getElem?_append_left (by simp [tv12]; omega), List.getElem?_map, tv12_at h]
  simp
theorem mix_val (f g : List Pr) (j : Nat) {t : Nat} (h : t < 12) : (mixC f g j)[12 + t]? = some (.int .u64 (if t < j then ((getP f t).or (getP g t)).getD 0 else (getP g t).getD 0)) := by
  unfold mixC
  rw [List.getElem?_append_right (by simp [tv12]), List.getElem?_map]
  have e : 12 + t - (tv12.map fun t => Value.bool (if t < (j : Int) then (getP f t).isSome || (getP g t).isSome else (getP g t).isSome)).length = t := by simp [tv12]
  rw [e, tv12_at h]
  simp
theorem mix_zero (f g : List Pr) : mixC f g 0 = frameC g := frame_ext (f := g) (g := g) (mix_len f g 0) (fun t h => by rw [mix_has f g 0 h]; simp) (fun t h => by rw [mix_val f g 0 h]; simp)
theorem mix_end {f g : List Pr} (hf : (f.map (·.t)).Nodup) : mixC f g 12 = frameC (mergeF g f) := frame_ext (f := mergeF g f) (g := g) (mix_len f g 12) (fun t h => by
    rw [mix_has f g 12 h, if_pos h, getP_merge _ hf]
    cases getP f t <;> simp) (fun t h => by
    rw [mix_val f g 12 h, if_pos h, getP_merge _ hf]
    cases getP f t <;> simp)
theorem mix_ext {a b : List Value} (ha : a.length = 24) (hb : b.length = 24) (h1 : ∀ t : Nat, t < 12 → a[t]? = b[t]?) (h2 : ∀ t : Nat, t < 12 → a[12 + t]? = b[12 + t]?) : a = b := by
  refine List.ext_getElem? fun j => ?_
  by_cases hj : j < 12
  · exact h1 j hj
  · by_cases hj2 : j < 24
    · have e : j = 12 + (j - 12) := by omega
      rw [e]; exact h2 _ (by omega)
    · rw [List.getElem?_eq_none (by omega), List.getElem?_eq_none (by omega)]
theorem mix_no {f g : List Pr} {j : Nat} (hh : (getP f (j : Nat)).isSome = false) : mixC f g (j + 1) = mixC f g j := by
  have hno : getP f (j : Nat) = none := by
    cases h : getP f (j : Nat) with
    | none => rfl
    | some v => rw [h] at hh; cases hh
  refine mix_ext (mix_len _ _ _) (mix_len _ _ _) (fun t h => ?_) (fun t h => ?_)
  · rw [mix_has _ _ _ h, mix_has _ _ _ h]
    by_cases e : t = j
    · subst e; rw [if_pos (by omega), if_neg (by omega), hno]; simp
    · have : (t < j + 1) ↔ (t < j) := by omega
      simp only [this]
  · rw [mix_val _ _ _ h, mix_val _ _ _ h]
    by_cases e : t = j
    · subst e; rw [if_pos (by omega), if_neg (by omega), hno]; simp
    · have : (t < j + 1) ↔ (t < j) := by omega
      simp only [this]
theorem mix_yes {f g : List Pr} {j : Nat} (hj : j < 12) (hh : (getP f (j : Nat)).isSome = true) : ((mixC f g j).set j (.bool true)).set (12 + j) (.int .u64 ((getP f (j : Nat)).getD 0)) = mixC f g (j + 1) := by
  obtain ⟨v, hv⟩ := Option.isSome_iff_exists.1 hh
  refine mix_ext (by simp [mix_len]) (mix_len _ _ _) (fun t h => ?_) (fun t h => ?_)
  · rw [List.getElem?_set, if_neg (by omega), List.getElem?_set, mix_len, mix_has _ _ _ h, mix_has _ _ _ h]
    by_cases e : j = t
    · subst e; rw [if_pos rfl, if_pos (by omega), if_pos (by omega), hv]; rfl
    · have : (t < j + 1) ↔ (t < j) := by omega
      simp only [this, if_neg e]
  · rw [List.getElem?_set, List.length_set, mix_len, List.getElem?_set, mix_val _ _ _ h, mix_val _ _ _ h]
    by_cases e : j = t
    · subst e; rw [if_pos rfl, if_pos (by omega), if_pos (by omega), hv]; simp
    · have : (t < j + 1) ↔ (t < j) := by omega
      have e2 : ¬ 12 + j = 12 + t := by omega
      have e3 : ¬ j = 12 + t := by omega
      simp only [this, if_neg e2, if_neg e3]
theorem mix_ground (f g : List Pr) (j : Nat) : grounds (mixC f g j) = true := by
  simp [mixC, tv12, grounds, ground]
theorem ren_mix (θ : Nat → Nat) (f g : List Pr) (j : Nat) : rens θ (mixC f g j) = mixC f g j := rens_ground θ _ (mix_ground f g j)
theorem ren_frameC (θ : Nat → Nat) (f : List Pr) : rens θ (frameC f) = frameC f := rens_ground θ _ (frameC_ground f)
attribute [simp] ren_mix ren_frameC
def tblRM : List (FuncId × CStep GD) := [(79, dataSt d79)]
theorem tblRM_ok : ∀ x ∈ tblRM, CStepOk Tryd.prog cfg x.1 x.2 := by simp [tblRM, st79_ok]
theorem rf_below (f g : List Pr) (r : List (List Pr)) {k : Nat} (hk : k = r.length * 24) : ((rf (f :: g :: r)).drop k).take 24 = frameC g := by
  subst hk
  rw [rf_cons, rf_cons, ← rf_len r, List.append_assoc, List.drop_left, List.take_append_of_le_length (by rw [frameC_len]; omega), List.take_of_length_le (by rw [frameC_len]; omega)]

def mgI0 (f g : List Pr) (r : List (List Pr)) (R m : Nat) (tm : Nat → Value) (H : AH GD) : Prop := ∃ j : Nat, m + j = 12 ∧ tm 0 = .pointer (some ⟨0, 0, none⟩) ∧ tm 3 = .int .i64 ((R : Int) + 1 + 1) ∧ tm 4 = .pointer (some ⟨2, 0, none⟩) ∧ tm 5 = .pointer (some ⟨3, 0, none⟩) ∧ tm 6 = .int .i64 j ∧
  H = AH.of [some (.arr 125 [.slice (some ⟨1, 0, none⟩) (R + 2) 1]), some (.arr 134 (rf (f :: g :: r))), some (.arr 134 (frameC f)), some (.arr 134 (mixC f g j))]

def mgI1 (f g : List Pr) (r : List (List Pr)) (R m : Nat) (tm : Nat → Value) (H : AH GD) : Prop := ∃ j : Nat, m + j = 12 ∧ tm 0 = .pointer (some ⟨0, 0, none⟩) ∧ tm 3 = .int .i64 ((R : Int) + 1 + 1) ∧ tm 4 = .pointer (some ⟨3, 0, none⟩) ∧ tm 5 = .pointer (some ⟨2, 0, none⟩) ∧ tm 6 = .int .i64 j ∧
  H = AH.of [some (.arr 125 [.slice (some ⟨1, 0, none⟩) (R + 2) 1]), some (.arr 134 (rf (f :: g :: r))), some (.arr 134 (mixC f g j)), some (.arr 134 (frameC f))]

theorem rm_hz {R : Nat} (h : R ≤ 3) : (R + 1) * 112 ≤ 140737488355328 ∧ R ≤ 9223372036854775806 := by omega
set_option maxRecDepth 10000 in
set_option maxHeartbeats 8000000 in
theorem runs_rmerge (f g : List Pr) (r : List (List Pr)) (hg : GoodLog (f :: g :: r)) (hf : (f.map (·.t)).Nodup) : Runs Tryd.prog cfg 80 [.pointer (some ⟨0, 0, none⟩)] (AH.of [some (.hi (.rlog (f :: g :: r)))])
    fun x H' => x = .ret (.int .i64 0) ∧ H' = AH.of [some (.hi (.rlog (mergeF g f :: r)))] := by
  refine Runs.ends ?_
  have hl5 : r.length ≤ 3 := by have := hg.2.1; simp at this; omega
  obtain ⟨R, hR⟩ : ∃ R, r.length = R := ⟨_, rfl⟩
  have hw1 : IntKind.i64.wrap (((R : Int) + 1 + 1) - 1) = (R : Int) + 1 := by rw [wrap_i64 (by omega) (by omega)]; omega
  have hw2 : IntKind.i64.wrap ((R : Int) + 1) = (R : Int) + 1 := wrap_i64 (by omega) (by omega)
  have hw3 : IntKind.i64.wrap (((R : Int) + 1 + 1) - 2) = (R : Int) := by rw [wrap_i64 (by omega) (by omega)]; omega
  have hw4 : IntKind.i64.wrap (R : Int) = (R : Int) := wrap_i64 (by omega) (by omega)
  have hl1 : ¬ ((R : Int) + 1 = 0) := by omega
  have hl2 : (R : Int) + 1 < (R : Int) + 1 + 1 := by omega
  have hl3 : (R : Int) < (R : Int) + 1 + 1 := by omega
  have hl4 : (0 : Int) ≤ (R : Int) + 1 := by omega
  have hl7 : ((R : Int) + 1).toNat = R + 1 := by omega
  have htop := rf_top f (g :: r) (k := (R + 1) * 24) (by simp [hR])
  have hbel := rf_below f g r (k := R * 24) (by rw [hR])
  have hfl := frameC_len f
  have hgl := frameC_len g
  have hof := frameC_one f
  have hog := frameC_one g
  have hzf : setMany [.bool false, .bool false, .bool false, .bool false, .bool false, .bool false, .bool false, .bool false, .bool false, .bool false, .bool false, .bool false, .int .u64 0, .int .u64 0, .int .u64 0, .int .u64 0, .int .u64 0, .int .u64 0, .int .u64 0, .int .u64 0, .int .u64 0, .int .u64 0, .int .u64 0, .int .u64 0] 0 (frameC f) = frameC f := setMany_all (by rw [frameC_len]; rfl)
  have hzg : setMany [.bool false, .bool false, .bool false, .bool false, .bool false, .bool false, .bool false, .bool false, .bool false, .bool false, .bool false, .bool false, .int .u64 0, .int .u64 0, .int .u64 0, .int .u64 0, .int .u64 0, .int .u64 0, .int .u64 0, .int .u64 0, .int .u64 0, .int .u64 0, .int .u64 0, .int .u64 0] 0 (frameC g) = frameC g := setMany_all (by rw [frameC_len]; rfl)
  have htf : (frameC f).take 24 = frameC f := List.take_of_length_le (by rw [frameC_len]; omega)
  have htg : (frameC g).take 24 = frameC g := List.take_of_length_le (by rw [frameC_len]; omega)
  have hrl := rf_len (f :: g :: r)
  simp only [List.length_cons, hR] at hrl
  have hle1 : (R + 1) * 24 + 24 ≤ (R + 1 + 1) * 24 := by omega
  have hle2 : R * 24 + 24 ≤ (R + 1 + 1) * 24 := by omega
  have hd1 : R + 1 ≤ 100 := by omega
  have hql := frameC_len (mergeF g f)
  have hqo := frameC_one (mergeF g f)
  have hqt : (frameC (mergeF g f)).take 24 = frameC (mergeF g f) := List.take_of_length_le (by rw [frameC_len]; omega)
  have hst := setMany_top g (mergeF g f) r (k := R * 24) (by rw [hR])
  have hrl2 := rf_len (g :: r)
  simp only [List.length_cons, hR] at hrl2
  have htk2 := take_rf (g :: r)
  simp only [List.length_cons, hR] at htk2
  have hle3 : R * 24 + 24 ≤ (R + 1) * 24 := Nat.le_of_eq (Nat.succ_mul R 24).symm
  have hlt2 : (R : Int) < (R : Int) + 1 := Int.lt_succ _
  refine runs_by (tbl := tblRM) tblRM_ok 13 2 (af := a80) rfl ?_
  rw [a80, b80, run_eq]
  refine ⟨by simp, ?_⟩
  simp (implicitDefEqProofs := false) [tblRM, frag_rlg, forms66, a66, b66, forms86, a86, b86, hR, hw1, hw2, hw3, hl1, hl2, hl3, hl4, htop, hbel, hfl, hgl, hof, hog, hzf, hzg, htf, htg, hle1, hle2, hrl, hw4, hl7]
  refine ⟨?_, ?_⟩
  · refine loop_view (sg_mono gX_ok (tabS_ok tblRM_ok) _ _ noY noY_mono) (mgI0 f g r R) (m := 12) ?_ (by omega) ?_
    · refine round_plan [] [0, 1, 2, 3] [some (.arr 125 [.slice (some ⟨1, 0, none⟩) (R + 2) 1]), some (.arr 134 (rf (f :: g :: r))), some (.arr 134 (frameC f)), some (.arr 134 (frameC g))] 12 (by omega) ?_ ?_ ⟨0, by omega, ?_, ?_, ?_, ?_, ?_, by rw [mix_zero]⟩ <;> simp
    rintro m tm H ⟨j, hm, t0, t3, t4, t5, t6, rfl⟩
    by_cases hj : j < 12
    · have hj' : (j : Int) < 12 := by omega
      have hwj := inc_i64 hj (by omega)
      have hhas := frameC_has f hj
      have hval := frameC_val f hj
      have hml := mix_len f g j
      have hj1 : j ≤ 23 := by omega
      have hj2 : 12 + j ≤ 23 := by omega
      cases hh : (getP f (j : Nat)).isSome with
      | false =>
        rw [hh] at hhas
        have hno := mix_no (f := f) (g := g) hh
        simp (implicitDefEqProofs := false) [t0, t3, t4, t5, t6, hj, hj', hwj, hhas]
        refine round_plan [] [0, 1, 2, 3] [some (.arr 125 [.slice (some ⟨1, 0, none⟩) (R + 2) 1]), some (.arr 134 (rf (f :: g :: r))), some (.arr 134 (frameC f)), some (.arr 134 (mixC f g (j + 1)))] (m - 1) (by omega) ?_ ?_ ⟨j + 1, by omega, ?_, ?_, ?_, ?_, ?_, rfl⟩ <;> simp [t0, t3, t4, t5, hno]
      | true =>
        rw [hh] at hhas
        have hyes := mix_yes (f := f) (g := g) hj hh
        have hsl : ((mixC f g j).set j (.bool true)).length = 24 := by simp [mix_len]
        simp (implicitDefEqProofs := false) [t0, t3, t4, t5, t6, hj, hj', hwj, hhas, hval, hml, hsl, hj1, hj2, hyes]
        refine round_plan [] [0, 1, 2, 3] [some (.arr 125 [.slice (some ⟨1, 0, none⟩) (R + 2) 1]), some (.arr 134 (rf (f :: g :: r))), some (.arr 134 (frameC f)), some (.arr 134 (mixC f g (j + 1)))] (m - 1) (by omega) ?_ ?_ ⟨j + 1, by omega, ?_, ?_, ?_, ?_, ?_, rfl⟩ <;> simp [t0, t3, t4, t5]
    · have hje : j = 12 := by omega
      have hj' : ¬ (j : Int) < 12 := by omega
      have hend : mixC f g j = frameC (mergeF g f) := by rw [hje, mix_end hf]
      rw [hend]
      have hz1 := rm_hz (R := R) (by omega)
      simp (implicitDefEqProofs := false) [t0, t3, t4, t5, t6, hj', tblRM, dataSt, d79]
      refine pack_first [.pack (GD.rlog (f :: g :: r)) 0 [1]] ?_ ?_
      · simp [frag_rlg, hR, AObj.mine]
      simp (implicitDefEqProofs := false) [t0, t3, t4, t5, t6, hj', tblRM, dataSt, d79, frag_rlg, forms86, a86, b86, hR, hd1, hw3, hw4, hql, hqo, hqt, hst, hrl2, htk2, hz1, hle3, hlt2]
      refine ends_plan [.pack (GD.rlog (mergeF g f :: r)) 0 [7]] [0] ?_ ?_ ?_ <;> simp [frag_rlg, hR, AObj.mine]
  · refine loop_view (sg_mono gX_ok (tabS_ok tblRM_ok) _ _ noY noY_mono) (mgI1 f g r R) (m := 12) ?_ (by omega) ?_
    · refine round_plan [] [0, 1, 2, 3] [some (.arr 125 [.slice (some ⟨1, 0, none⟩) (R + 2) 1]), some (.arr 134 (rf (f :: g :: r))), some (.arr 134 (frameC g)), some (.arr 134 (frameC f))] 12 (by omega) ?_ ?_ ⟨0, by omega, ?_, ?_, ?_, ?_, ?_, by rw [mix_zero]⟩ <;> simp
    rintro m tm H ⟨j, hm, t0, t3, t4, t5, t6, rfl⟩
    by_cases hj : j < 12
    · have hj' : (j : Int) < 12 := by omega
      have hwj := inc_i64 hj (by omega)
      have hhas := frameC_has f hj
      have hval := frameC_val f hj
      have hml := mix_len f g j
      have hj1 : j ≤ 23 := by omega
      have hj2 : 12 + j ≤ 23 := by omega
      cases hh : (getP f (j : Nat)).isSome with
      | false =>
        rw [hh] at hhas
        have hno := mix_no (f := f) (g := g) hh
        simp (implicitDefEqProofs := false) [t0, t3, t4, t5, t6, hj, hj', hwj, hhas]
        refine round_plan [] [0, 1, 2, 3] [some (.arr 125 [.slice (some ⟨1, 0, none⟩) (R + 2) 1]), some (.arr 134 (rf (f :: g :: r))), some (.arr 134 (mixC f g (j + 1))), some (.arr 134 (frameC f))] (m - 1) (by omega) ?_ ?_ ⟨j + 1, by omega, ?_, ?_, ?_, ?_, ?_, rfl⟩ <;> simp [t0, t3, t4, t5, hno]
      | true =>
        rw [hh] at hhas
        have hyes := mix_yes (f := f) (g := g) hj hh
        have hsl : ((mixC f g j).set j (.bool true)).length = 24 := by simp [mix_len]
        simp (implicitDefEqProofs := false) [t0, t3, t4, t5, t6, hj, hj', hwj, hhas, hval, hml, hsl, hj1, hj2, hyes]
        refine round_plan [] [0, 1, 2, 3] [some (.arr 125 [.slice (some ⟨1, 0, none⟩) (R + 2) 1]), some (.arr 134 (rf (f :: g :: r))), some (.arr 134 (mixC f g (j + 1))), some (.arr 134 (frameC f))] (m - 1) (by omega) ?_ ?_ ⟨j + 1, by omega, ?_, ?_, ?_, ?_, ?_, rfl⟩ <;> simp [t0, t3, t4, t5]
    · have hje : j = 12 := by omega
      have hj' : ¬ (j : Int) < 12 := by omega
      have hend : mixC f g j = frameC (mergeF g f) := by rw [hje, mix_end hf]
      rw [hend]
      have hz1 := rm_hz (R := R) (by omega)
      simp (implicitDefEqProofs := false) [t0, t3, t4, t5, t6, hj', tblRM, dataSt, d79]
      refine pack_first [.pack (GD.rlog (f :: g :: r)) 0 [1]] ?_ ?_
      · simp [frag_rlg, hR, AObj.mine]
      simp (implicitDefEqProofs := false) [t0, t3, t4, t5, t6, hj', tblRM, dataSt, d79, frag_rlg, forms86, a86, b86, hR, hd1, hw3, hw4, hql, hqo, hqt, hst, hrl2, htk2, hz1, hle3, hlt2]
      refine ends_plan [.pack (GD.rlog (mergeF g f :: r)) 0 [7]] [0] ?_ ?_ ?_ <;> simp [frag_rlg, hR, AObj.mine]
end YtmhkpababjdnbaaDoor
end Go.Proofs
/-
  WRITES, the document's: Merge of one frame alone; the contract.
-/
set_option linter.unusedSimpArgs false
set_option linter.unusedVariables false
set_option linter.unnecessarySimpa false
set_option linter.unusedSectionVars false
namespace Go.Proofs
namespace YtmhkpababjdnbaaDoor
open Go.Abs
set_option linter.unusedSimpArgs false

set_option maxHeartbeats 4000000 in
theorem runs_rmerge0 (f : List Pr) : Runs Tryd.prog cfg 80 [.pointer (some ⟨0, 0, none⟩)] (AH.of [some (.hi (.rlog [f]))])
    fun x H' => x = .ret (.int .i64 8) ∧ H' = AH.of [some (.hi (.rlog [f]))] := by
  refine Runs.ends ?_
  have hw1 : IntKind.i64.wrap 0 = 0 := by decide
  refine runs_by (tbl := tblRM) tblRM_ok 13 2 (af := a80) rfl ?_
  rw [a80, b80, run_eq]
  refine ⟨by simp, ?_⟩
  simp (implicitDefEqProofs := false) [tblRM, frag_rlg, forms66, a66, b66, hw1]
  refine ends_plan [.pack (GD.rlog [f]) 0 [1]] [0] ?_ ?_ ?_ <;> simp [frag_rlg, AObj.mine]
def d80 : DStep
  | .rlog [f], [] => some (True, .int .i64 8, .rlog [f])
  | .rlog (f :: g :: r), [] => some (GoodFs (f :: g :: r), .int .i64 0, .rlog (mergeF g f :: r))
  | _, _ => none
theorem st80_ok : CStepOk Tryd.prog cfg 80 (dataSt d80) := data_ok fun d rest p v d' h hp => by
  unfold d80 at h
  split at h
  · cases h; exact ⟨rfl, rfl, runs_rmerge0 _⟩
  · cases h; exact ⟨rfl, rfl, runs_rmerge _ _ _ hp.1 (hp.2 _ (by simp)).1⟩
  · cases h
theorem fs_put {f : List Pr} {r : List (List Pr)} {t v : Int} (h : GoodFs (f :: r)) (hc : putCode f r t v = 0) : GoodFs (putF f ⟨t, v⟩ :: r) := by
  refine ⟨put_good h.1 hc, fun x hx => ?_⟩
  have ht : 0 ≤ t ∧ t < 12 := by
    unfold putCode at hc
    split at hc
    · cases hc
    · omega
  rcases List.mem_cons.1 hx with rfl | hx
  · exact putFr_good (h.2 f (by simp)) ht
  · exact h.2 x (List.mem_cons_of_mem _ hx)
theorem fs_push {f : List Pr} {r : List (List Pr)} (h : GoodFs (f :: r)) (hl : (f :: r).length < 5) : GoodFs ([] :: f :: r) := by
  refine ⟨push_good h.1 hl, fun x hx => ?_⟩
  rcases List.mem_cons.1 hx with rfl | hx
  · exact ⟨by simp, by simp⟩
  · exact h.2 x hx
theorem fs_drop {f g : List Pr} {r : List (List Pr)} (h : GoodFs (f :: g :: r)) : GoodFs (g :: r) :=
  ⟨drop_good h.1, fun x hx => h.2 x (List.mem_cons_of_mem _ hx)⟩
theorem fs_merge {f g : List Pr} {r : List (List Pr)} (h : GoodFs (f :: g :: r)) : GoodFs (mergeF g f :: r) := by
  refine ⟨merge_good h.1, fun x hx => ?_⟩
  rcases List.mem_cons.1 hx with rfl | hx
  · exact mergeFr_good (h.2 g (by simp)) (h.2 f (by simp)).2
  · exact h.2 x (List.mem_cons_of_mem _ (List.mem_cons_of_mem _ hx))
theorem fs_nil : GoodFs [[]] := ⟨good_log_nil, fun f hf => by simp at hf; subst hf; exact ⟨by simp, by simp⟩⟩
end YtmhkpababjdnbaaDoor
end Go.Proofs
/-
  TRACE: what histories are, plainly.
-/
set_option linter.unusedSimpArgs false
set_option linter.unusedVariables false
set_option linter.unnecessarySimpa false
set_option linter.unusedSectionVars false
namespace Go.Proofs
namespace YtmhkpababjdnbaaDoor
open Go.Abs
set_option linter.unusedSimpArgs false

/-- An attempt of a history: has it tried, has it ended, its frames. -/
structure HA where
  tr : Bool
  en : Bool
  fs : List (List Pr)
def bareB (x : Ev) : Bool := decide (x.t = 0) && decide (x.v = 0)
/-- An event on frames: the error, the frames. -/
def actS (fs : List (List Pr)) (x : Ev) : Int × List (List Pr) :=
  match fs with
  | [] => (1, [])
  | f :: r =>
    if x.k = 3 then (putCode f r x.t x.v, if putCode f r x.t x.v = 0 then putF f ⟨x.t, x.v⟩ :: r else f :: r)
    else if x.k = 4 then (if 4 ≤ r.length then 4 else 0, if 4 ≤ r.length then f :: r else [] :: f :: r)
    else if x.k = 5 then (if r = [] then 8 else 0, if r = [] then f :: r else r)
    else if x.k = 6 then (match r with
      | [] => (8, [f])
      | g :: rs => (0, mergeF g f :: rs))
    else (0, f :: r)
/-- An event of an attempt, behind what it is so far; none: it can't be. -/
def takeA (o : Option HA) (x : Ev) : Option HA :=
  if x.k = 1 then (match o with
    | none => if bareB x = true then some ⟨false, false, [[]]⟩ else none
    | some _ => none)
  else match o with
  | none => none
  | some a =>
    if a.en = true then none
    else if x.k = 8 then (if a.tr = true ∧ bareB x = true then some { a with en := true } else none)
    else if x.k = 9 then (if bareB x = true then some { a with en := true } else none)
    else if a.tr = true then none
    else if x.k = 2 then (if 0 ≤ x.t ∧ x.t < 12 ∧ rightB x.v = true then some a else none)
    else if x.k = 3 then (if (actS a.fs x).1 = 0 then some { a with fs := (actS a.fs x).2 } else none)
    else if x.k = 4 ∨ x.k = 5 ∨ x.k = 6 then (if bareB x = true ∧ (actS a.fs x).1 = 0 then some { a with fs := (actS a.fs x).2 } else none)
    else if x.k = 7 then (if bareB x = true ∧ a.fs.length = 1 then some { a with tr := true } else none)
    else none
def setS (σ : Int → Option HA) (n : Int) (a : HA) : Int → Option HA := fun m => if m = n then some a else σ m
def takeS (σ : Int → Option HA) (x : Ev) : Option (Int → Option HA) :=
  if 0 ≤ x.a ∧ x.a < 64 then (takeA (σ x.a) x).map fun a => setS σ x.a a else none
def runF (σ : Int → Option HA) : List Ev → Option (Int → Option HA)
  | [] => some σ
  | x :: l => (takeS σ x).bind fun σ' => runF σ' l
def noneS : Int → Option HA := fun _ => none
def rightS (l : List Ev) : Bool := decide (l.length ≤ 400) && (runF noneS l).isSome
def cutS (l : List Ev) (n : Int) : List Ev := l.filter fun x => decide (x.a = n)
/-- An attempt's events, one behind the other. -/
def stepA (o : Option HA) : List Ev → Option (Option HA)
  | [] => some o
  | x :: l => (takeA o x).bind fun a => stepA (some a) l
theorem cutS_cons (x : Ev) (l : List Ev) (n : Int) : cutS (x :: l) n = if x.a = n then x :: cutS l n else cutS l n := by
  unfold cutS
  by_cases h : x.a = n <;> simp [h]
theorem cutS_append (l m : List Ev) (n : Int) : cutS (l ++ m) n = cutS l n ++ cutS m n := by simp [cutS]
/-- Each attempt's events go their own way. -/
theorem runF_iff : ∀ (l : List Ev) (σ σ' : Int → Option HA), runF σ l = some σ' ↔ (∀ x ∈ l, 0 ≤ x.a ∧ x.a < 64) ∧ ∀ n, stepA (σ n) (cutS l n) = some (σ' n)
  | [], σ, σ' => by
    constructor
    · intro h
      cases h
      exact ⟨by simp, fun n => rfl⟩
    · rintro ⟨_, h⟩
      have : σ = σ' := funext fun n => Option.some.inj (h n)
      rw [this]; rfl
  | x :: l, σ, σ' => by
    simp only [runF, takeS]
    by_cases hr : 0 ≤ x.a ∧ x.a < 64
    · rw [if_pos hr]
      cases ht : takeA (σ x.a) x with
      | none =>
        simp only [Option.map_none, Option.bind_none]
        constructor
        · intro h; cases h
        · rintro ⟨_, h⟩
          have := h x.a
          rw [cutS_cons, if_pos rfl, stepA, ht] at this
          cases this
      | some a =>
        simp only [Option.map_some, Option.bind_some]
        rw [runF_iff l]
        have key : ∀ n, stepA (setS σ x.a a n) (cutS l n) = stepA (σ n) (cutS (x :: l) n) := by
          intro n
          rw [cutS_cons]
          by_cases hn : x.a = n
          · subst hn
            rw [if_pos rfl, stepA, ht, setS, if_pos rfl]; rfl
          · rw [if_neg hn, setS, if_neg (fun h => hn h.symm)]
        constructor
        · rintro ⟨h1, h2⟩
          refine ⟨fun y hy => ?_, fun n => by rw [← key]; exact h2 n⟩
          rcases List.mem_cons.1 hy with rfl | hy
          · exact hr
          · exact h1 y hy
        · rintro ⟨h1, h2⟩
          exact ⟨fun y hy => h1 y (List.mem_cons_of_mem _ hy), fun n => by rw [key]; exact h2 n⟩
    · rw [if_neg hr]
      constructor
      · intro h; cases h
      · rintro ⟨h, _⟩
        exact absurd (h x (by simp)) hr
theorem right_iff (l : List Ev) : rightS l = true ↔ l.length ≤ 400 ∧ (∀ x ∈ l, 0 ≤ x.a ∧ x.a < 64) ∧ ∀ n, (stepA none (cutS l n)).isSome = true := by
  unfold rightS
  rw [Bool.and_eq_true, decide_eq_true_eq]
  refine and_congr Iff.rfl ?_
  constructor
  · intro h
    obtain ⟨σ', h⟩ := Option.isSome_iff_exists.1 h
    obtain ⟨h1, h2⟩ := (runF_iff l _ _).1 h
    exact ⟨h1, fun n => by rw [show (none : Option HA) = noneS n from rfl, h2 n]; rfl⟩
  · rintro ⟨h1, h2⟩
    have := (runF_iff l noneS fun n => ((stepA none (cutS l n)).getD none)).2 ⟨h1, fun n => by
      obtain ⟨o, ho⟩ := Option.isSome_iff_exists.1 (h2 n)
      rw [show noneS n = none from rfl, ho]; rfl⟩
    rw [this]; rfl

def stF (p : Bool × Int) (x : Ev) : Bool × Int :=
  if x.k = 1 then (true, p.2) else if x.k = 7 then (p.1, 2) else if x.k = 8 then (p.1, 3) else if x.k = 9 then (p.1, 4) else p
def stC (c : List Ev) : Int := if (c.foldl stF (false, 1)).1 = true then (c.foldl stF (false, 1)).2 else 0
def stateS (l : List Ev) (n : Int) : Int := stC (cutS l n)
def endE (x : Ev) : Bool := decide (x.k = 8) || decide (x.k = 9)
def attF (out : List Int) (x : Ev) : List Int := if x.k = 1 ∧ x.a ∉ out then out ++ [x.a] else out
def attsS (l : List Ev) : List Int := l.foldl attF []
theorem attF_mem {out : List Int} {x : Ev} {n : Int} (h : n ∈ attF out x) : n ∈ out ∨ (x.k = 1 ∧ x.a = n) := by
  unfold attF at h
  split at h
  · rename_i hk
    rcases List.mem_append.1 h with h | h
    · exact .inl h
    · exact .inr ⟨hk.1, (List.mem_singleton.1 h).symm⟩
  · exact .inl h
theorem atts_mem : ∀ (l : List Ev) (out : List Int) {n : Int}, n ∈ l.foldl attF out → n ∈ out ∨ ∃ x ∈ l, x.k = 1 ∧ x.a = n
  | [], out, n, h => .inl h
  | x :: l, out, n, h => by
    rcases atts_mem l _ h with h | ⟨y, h1, h2⟩
    · rcases attF_mem h with h | h
      · exact .inl h
      · exact .inr ⟨x, by simp, h⟩
    · exact .inr ⟨y, List.mem_cons_of_mem _ h1, h2⟩
theorem atts_keep : ∀ (l : List Ev) {out : List Int} {n : Int}, n ∈ out → n ∈ l.foldl attF out
  | [], _, _, h => h
  | x :: l, out, n, h => atts_keep l (by
    unfold attF
    split
    · exact List.mem_append_left _ h
    · exact h)
theorem atts_has : ∀ (l : List Ev) {out : List Int} {x : Ev}, x ∈ l → x.k = 1 → x.a ∈ l.foldl attF out
  | y :: l, out, x, h, hk => by
    rcases List.mem_cons.1 h with rfl | h
    · refine atts_keep l ?_
      unfold attF
      split
      · simp
      · rename_i hn
        exact Classical.not_not.1 fun hc => hn ⟨hk, hc⟩
    · exact atts_has l h hk
theorem atts_nodup : ∀ (l : List Ev) {out : List Int}, out.Nodup → (l.foldl attF out).Nodup
  | [], _, h => h
  | x :: l, out, h => atts_nodup l (by
    unfold attF
    split
    · rename_i hk
      rw [List.nodup_append]
      refine ⟨h, by simp, fun a ha b hb => ?_⟩
      have : b = x.a := by simpa using hb
      subst this
      intro e; subst e; exact hk.2 ha
    · exact h)

def beforeG (e : Bool) : List Ev → Int → Int → Bool
  | [], _, _ => false
  | x :: l, a, b => if x.a = b ∧ x.k = 1 then e else beforeG (e || (decide (x.a = a) && endE x)) l a b
def beforeS (l : List Ev) (a b : Int) : Bool := beforeG false l a b
def isK (k : Int) (x : Ev) : Bool := decide (x.k = k)
structure Cts where
  a : Nat
  c : Nat
  b : Nat
  o : Nat
  r : Nat
  w : Nat
  deriving DecidableEq
def openN (s : Int) : Bool := decide (s ≠ 3) && decide (s ≠ 4)
def countsS (l : List Ev) : Cts :=
  ⟨(attsS l).length, (attsS l).countP fun n => decide (stateS l n = 3), (attsS l).countP fun n => decide (stateS l n = 4), (attsS l).countP fun n => openN (stateS l n), l.countP (isK 2), l.countP (isK 3)⟩
end YtmhkpababjdnbaaDoor
end Go.Proofs
/-
  TRACE: two histories, one behind the other, plainly.
-/
set_option linter.unusedSimpArgs false
set_option linter.unusedVariables false
set_option linter.unnecessarySimpa false
set_option linter.unusedSectionVars false
namespace Go.Proofs
namespace YtmhkpababjdnbaaDoor
open Go.Abs
set_option linter.unusedSimpArgs false

section
variable {l m : List Ev}
theorem atts_began {n : Int} (h : n ∈ attsS l) : ∃ x ∈ l, x.k = 1 ∧ x.a = n := by
  rcases atts_mem l [] h with h | h
  · cases h
  · exact h
end
end YtmhkpababjdnbaaDoor
end Go.Proofs
/-
  TRACE: pairs that met, rows; attempts that came one at a time.
-/
set_option linter.unusedSimpArgs false
set_option linter.unusedVariables false
set_option linter.unnecessarySimpa false
set_option linter.unusedSectionVars false
namespace Go.Proofs
namespace YtmhkpababjdnbaaDoor
open Go.Abs
set_option linter.unusedSimpArgs false

def getT (m : List (Int × Bool)) (t : Int) : Option Bool := (m.find? fun p => decide (p.1 = t)).map (·.2)
def putT : List (Int × Bool) → Int → Bool → List (Int × Bool)
  | [], t, b => [(t, b)]
  | p :: m, t, b => if p.1 = t then (t, b) :: m else p :: putT m t b
def rw (x : Ev) : Bool := isK 2 x || isK 3 x
def tchF (m : List (Int × Bool)) (x : Ev) : List (Int × Bool) := if rw x = true then putT m x.t ((getT m x.t).getD false || isK 3 x) else m
def tchS (l : List Ev) (n : Int) : List (Int × Bool) := (cutS l n).foldl tchF []
def meetT (a b : List (Int × Bool)) : Bool := a.any fun p => match getT b p.1 with
  | none => false
  | some also => p.2 || also
def meetS (l : List Ev) (a b : Int) : Bool := meetT (tchS l a) (tchS l b)
def apartS (l : List Ev) (a b : Int) : Bool := beforeS l a b || beforeS l b a
def confR (l : List Ev) (a : Int) (rest : List Int) : List (Int × Int) := (rest.filter fun b => meetS l a b && !apartS l a b).map fun b => (a, b)
def conflS (l : List Ev) : List Int → List (Int × Int)
  | [] => []
  | a :: rest => confR l a rest ++ conflS l rest
def conflictsS (l : List Ev) : List (Int × Int) := conflS l (attsS l)
def depF (l : List Ev) (n : Int) (d : Int) (p : Int × Int) : Int := if beforeS l p.1 n = true then (if p.2 + 1 > d then p.2 + 1 else d) else d
def depthS (l : List Ev) (ahead : List (Int × Int)) (n : Int) : Int := ahead.foldl (depF l n) 1
def chainF (l : List Ev) (st : List (Int × Int) × Int) (n : Int) : List (Int × Int) × Int := (st.1 ++ [(n, depthS l st.1 n)], if depthS l st.1 n > st.2 then depthS l st.1 n else st.2)
def chainsS (l : List Ev) : Int := if rightS l = true then ((attsS l).foldl (chainF l) ([], 0)).2 else 0

theorem attsS_nodup (l : List Ev) : (attsS l).Nodup := atts_nodup l List.nodup_nil
section
variable {l : List Ev}
theorem atts_len : ∀ (l : List Ev) (out : List Int), (l.foldl attF out).length ≤ out.length + l.length
  | [], out => by simp
  | x :: l, out => by
    have := atts_len l (attF out x)
    have h : (attF out x).length ≤ out.length + 1 := by
      unfold attF
      split <;> simp
    rw [List.foldl_cons, List.length_cons]
    omega
end
end YtmhkpababjdnbaaDoor
end Go.Proofs
/-
  TRACE: what the document's history says, plainly: the same.
-/
set_option linter.unusedSimpArgs false
set_option linter.unusedVariables false
set_option linter.unnecessarySimpa false
set_option linter.unusedSectionVars false
namespace Go.Proofs
namespace YtmhkpababjdnbaaDoor
open Go.Abs
set_option linter.unusedSimpArgs false

def seenS (l : List Ev) (i : Nat) (a k : Int) : Bool := (l.take i).any fun x => decide (x.a = a) && isK k x
def ownF (fs : List (List Pr)) (x : Ev) : List (List Pr) := (actS fs x).2
def ownS (l : List Ev) (i : Nat) (a : Int) : List (List Pr) := (cutS (l.take i) a).foldl ownF [[]]
def fitX (l : List Ev) (i : Nat) (x : Ev) : Bool :=
  if x.a < 0 ∨ 64 ≤ x.a then false
  else if x.k = 1 then bareB x && !seenS l i x.a 1
  else if (!seenS l i x.a 1 || (seenS l i x.a 8 || seenS l i x.a 9)) = true then false
  else if x.k = 8 then bareB x && seenS l i x.a 7
  else if x.k = 9 then bareB x
  else if x.k = 2 then !seenS l i x.a 7 && (decide (0 ≤ x.t) && decide (x.t < 12) && rightB x.v)
  else if x.k = 3 then !seenS l i x.a 7 && decide ((actS (ownS l i x.a) x).1 = 0)
  else if x.k = 4 ∨ x.k = 5 ∨ x.k = 6 then !seenS l i x.a 7 && (bareB x && decide ((actS (ownS l i x.a) x).1 = 0))
  else if x.k = 7 then !seenS l i x.a 7 && (bareB x && decide ((ownS l i x.a).length = 1))
  else false
theorem seen_cut (l : List Ev) (i : Nat) (a k : Int) : seenS l i a k = (cutS (l.take i) a).any (isK k) := by
  unfold seenS cutS
  rw [List.any_filter]
/-- What is known of an attempt, and its events. -/
def Know (o : Option HA) (b t e : Bool) (fs : List (List Pr)) : Prop :=
  match o with
  | none => b = false ∧ t = false ∧ e = false ∧ fs = [[]]
  | some a => b = true ∧ a.tr = t ∧ a.en = e ∧ a.fs = fs
theorem act_other {fs : List (List Pr)} {x : Ev} (h : ¬ x.k = 3 ∧ ¬ x.k = 4 ∧ ¬ x.k = 5 ∧ ¬ x.k = 6) : (actS fs x).2 = fs := by
  unfold actS
  cases fs with
  | nil => rfl
  | cons f r => simp [h.1, h.2.1, h.2.2.1, h.2.2.2]
theorem know_take {o : Option HA} {b t e : Bool} {fs : List (List Pr)} (h : Know o b t e fs) {x : Ev} {a : HA} (ht : takeA o x = some a) : Know (some a) (b || isK 1 x) (t || isK 7 x) (e || endE x) (ownF fs x) := by
  unfold takeA at ht
  unfold isK endE ownF
  split at ht
  · rename_i k1
    split at ht
    · split at ht
      · cases ht
        obtain ⟨rfl, rfl, rfl, rfl⟩ := h
        rw [act_other (by omega)]
        simp [Know, k1]
      · cases ht
    · cases ht
  · rename_i k1
    split at ht
    · cases ht
    · rename_i a0
      obtain ⟨rfl, h2, h3, rfl⟩ := h
      subst h2 h3
      split at ht
      · cases ht
      · rename_i hen
        have hen : a0.en = false := by simpa using hen
        split at ht
        · rename_i k8
          rw [act_other (by omega)]
          split at ht
          · cases ht; simp [Know, k8]
          · cases ht
        · rename_i k8
          split at ht
          · rename_i k9
            rw [act_other (by omega)]
            split at ht
            · cases ht; simp [Know, k9]
            · cases ht
          · rename_i k9
            split at ht
            · cases ht
            · rename_i htr
              have htr : a0.tr = false := by simpa using htr
              split at ht
              · rename_i k2
                rw [act_other (by omega)]
                split at ht
                · cases ht; simp [Know, k2]
                · cases ht
              · split at ht
                · rename_i k3
                  split at ht
                  · cases ht; simp [Know, k3]
                  · cases ht
                · split at ht
                  · rename_i k4
                    have k7 : ¬ x.k = 7 := by omega
                    split at ht
                    · cases ht; simp [Know, k1, k7, k8, k9]
                    · cases ht
                  · split at ht
                    · rename_i k7
                      rw [act_other (by omega)]
                      split at ht
                      · cases ht; simp [Know, k7, hen]
                      · cases ht
                    · cases ht
theorem know_step : ∀ (c : List Ev) {o o' : Option HA} {b t e : Bool} {fs : List (List Pr)}, Know o b t e fs → stepA o c = some o' → Know o' (b || c.any (isK 1)) (t || c.any (isK 7)) (e || c.any endE) (c.foldl ownF fs)
  | [], o, o', b, t, e, fs, h, hs => by cases hs; simpa using h
  | x :: c, o, o', b, t, e, fs, h, hs => by
    simp only [stepA, Option.bind_eq_some_iff] at hs
    obtain ⟨a, h1, h2⟩ := hs
    have := know_step c (know_take h h1) h2
    simpa [Bool.or_assoc] using this
theorem know_cut {c : List Ev} {o : Option HA} (hs : stepA none c = some o) : Know o (c.any (isK 1)) (c.any (isK 7)) (c.any endE) (c.foldl ownF [[]]) := by
  have := know_step c (o := none) (b := false) (t := false) (e := false) (fs := [[]]) ⟨rfl, rfl, rfl, rfl⟩ hs
  simpa using this
theorem any_end (c : List Ev) : c.any endE = (c.any (isK 8) || c.any (isK 9)) := by
  induction c with
  | nil => rfl
  | cons x c ih =>
    simp only [List.any_cons, ih, endE, isK]
    cases decide (x.k = 8) <;> cases decide (x.k = 9) <;> simp
theorem fit_take {l : List Ev} {i : Nat} {x : Ev} {o : Option HA} (hs : stepA none (cutS (l.take i) x.a) = some o) : fitX l i x = true ↔ (0 ≤ x.a ∧ x.a < 64) ∧ (takeA o x).isSome = true := by
  have hk := know_cut hs
  unfold fitX
  simp only [seen_cut]
  rw [show ownS l i x.a = (cutS (l.take i) x.a).foldl ownF [[]] from rfl]
  have he := any_end (cutS (l.take i) x.a)
  by_cases hr : x.a < 0 ∨ 64 ≤ x.a
  · rw [if_pos hr]
    constructor
    · intro h; cases h
    · rintro ⟨h, _⟩; omega
  · rw [if_neg hr]
    have hr' : 0 ≤ x.a ∧ x.a < 64 := by omega
    rw [← he]
    generalize (cutS (l.take i) x.a).any (isK 1) = b at hk ⊢
    generalize (cutS (l.take i) x.a).any (isK 7) = t at hk ⊢
    generalize (cutS (l.take i) x.a).any endE = e at hk ⊢
    generalize (cutS (l.take i) x.a).foldl ownF [[]] = fs at hk ⊢
    unfold takeA
    cases o with
    | none =>
      obtain ⟨rfl, rfl, rfl, rfl⟩ := hk
      by_cases k1 : x.k = 1
      · cases hb : bareB x <;> simp [k1, hr', hb]
      · simp [k1]
    | some a =>
      obtain ⟨rfl, rfl, rfl, rfl⟩ := hk
      by_cases k1 : x.k = 1
      · simp [k1]
      by_cases hen : a.en = true
      · simp [k1, hen]
      have hen : a.en = false := by simpa using hen
      by_cases k8 : x.k = 8
      · cases hb : bareB x <;> cases ht : a.tr <;> simp [k8, hen, hr', hb, ht]
      by_cases k9 : x.k = 9
      · cases hb : bareB x <;> simp [k9, hen, hr', hb]
      by_cases ht : a.tr = true
      · simp [k1, k8, k9, hen, ht]
      have ht : a.tr = false := by simpa using ht
      by_cases k2 : x.k = 2
      · cases hb : rightB x.v <;> simp [k2, hen, hr', ht, hb]
      by_cases k3 : x.k = 3
      · simp [k3, hen, hr', ht]
      by_cases k4 : x.k = 4 ∨ x.k = 5 ∨ x.k = 6
      · cases hb : bareB x <;> simp [k1, k2, k3, k4, k8, k9, hen, hr', ht, hb]
      by_cases k7 : x.k = 7
      · cases hb : bareB x <;> simp [k7, hen, hr', ht, hb]
      · simp [k1, k2, k3, k4, k7, k8, k9, hen, ht]
theorem runF_append (l m : List Ev) : ∀ σ, runF σ (l ++ m) = (runF σ l).bind fun σ' => runF σ' m := by
  induction l with
  | nil => intro σ; rfl
  | cons x l ih =>
    intro σ
    simp only [List.cons_append, runF]
    cases takeS σ x with
    | none => rfl
    | some σ' => exact ih _
theorem take_snoc {l : List Ev} {i : Nat} {x : Ev} (h : l[i]? = some x) : l.take (i + 1) = l.take i ++ [x] := by
  rw [List.take_add_one, h]; rfl
theorem run_fit (l : List Ev) : ∀ i, i ≤ l.length → ((runF noneS (l.take i)).isSome = true ↔ ∀ j x, j < i → l[j]? = some x → fitX l j x = true)
  | 0, _ => by simp [runF]
  | i + 1, hi => by
    obtain ⟨x, hx⟩ : ∃ x, l[i]? = some x := ⟨l[i]'(by omega), List.getElem?_eq_getElem (by omega)⟩
    have ih := run_fit l i (by omega)
    rw [take_snoc hx, runF_append]
    cases hr : runF noneS (l.take i) with
    | none =>
      rw [hr] at ih
      simp only [Option.bind_none]
      constructor
      · intro h; cases h
      · intro h
        exact ih.2 fun j y hj hy => h j y (by omega) hy
    | some σ =>
      rw [hr] at ih
      have hall := ih.1 rfl
      have hst := ((runF_iff _ _ _).1 hr).2 x.a
      have hf := fit_take (l := l) (i := i) (x := x) (o := σ x.a) hst
      simp only [Option.bind_some, runF, takeS]
      have h1 : ((if 0 ≤ x.a ∧ x.a < 64 then (takeA (σ x.a) x).map fun a => setS σ x.a a else none).bind fun σ' => some σ').isSome = true ↔ fitX l i x = true := by
        rw [hf]
        by_cases h : 0 ≤ x.a ∧ x.a < 64
        · rw [if_pos h]
          cases takeA (σ x.a) x <;> simp [h]
        · rw [if_neg h]
          simp [h]
      rw [h1]
      constructor
      · intro h j y hj hy
        by_cases hji : j = i
        · subst hji; rw [hx] at hy; cases hy; exact h
        · exact hall j y (by omega) hy
      · intro h
        exact h i x (by omega) hx
/-- The document's Right is the same. -/
theorem right_fit (l : List Ev) : rightS l = true ↔ l.length ≤ 400 ∧ ∀ j x, l[j]? = some x → fitX l j x = true := by
  unfold rightS
  have := run_fit l l.length (Nat.le_refl _)
  rw [List.take_length] at this
  rw [Bool.and_eq_true, decide_eq_true_eq, this]
  refine and_congr Iff.rfl ⟨fun h j x hx => h j x (List.getElem?_eq_some_iff.1 hx).1 hx, fun h j x _ hx => h j x hx⟩

theorem att_seen {l : List Ev} {i : Nat} {x : Ev} : attF (attsS (l.take i)) x = if x.k = 1 ∧ seenS l i x.a 1 = false then attsS (l.take i) ++ [x.a] else attsS (l.take i) := by
  unfold attF
  have : x.a ∉ attsS (l.take i) ↔ seenS l i x.a 1 = false := by
    constructor
    · intro h
      rw [Bool.eq_false_iff]
      intro hs
      obtain ⟨y, hy, h2⟩ := List.any_eq_true.1 hs
      simp only [isK, Bool.and_eq_true, decide_eq_true_eq] at h2
      refine h ?_
      rw [← h2.1]
      exact atts_has _ hy h2.2
    · intro hs h
      obtain ⟨y, hy, h1, h2⟩ := atts_began h
      have : seenS l i x.a 1 = true := List.any_eq_true.2 ⟨y, hy, by simp [isK, h1, h2]⟩
      rw [hs] at this; cases this
  by_cases hc : x.k = 1 ∧ x.a ∉ attsS (l.take i)
  · rw [if_pos hc, if_pos ⟨hc.1, this.1 hc.2⟩]
  · rw [if_neg hc, if_neg fun h => hc ⟨h.1, this.2 h.2⟩]
theorem st_fst : ∀ (c : List Ev) (p : Bool × Int), (c.foldl stF p).1 = (p.1 || c.any (isK 1))
  | [], p => by simp
  | x :: c, p => by
    rw [List.foldl_cons, st_fst c, List.any_cons, ← Bool.or_assoc]
    congr 1
    unfold stF isK
    by_cases h1 : x.k = 1
    · simp [h1]
    · simp only [h1, if_false, decide_false, Bool.or_false]
      repeat' split
      all_goals rfl
/-- How far one is, by its events. -/
def stG (s : Int) (x : Ev) : Int := if x.k = 7 then 2 else if x.k = 8 then 3 else if x.k = 9 then 4 else s
theorem st_snd : ∀ (c : List Ev) (p : Bool × Int), (c.foldl stF p).2 = c.foldl stG p.2
  | [], p => rfl
  | x :: c, p => by
    rw [List.foldl_cons, List.foldl_cons, st_snd c]
    congr 1
    unfold stF stG
    by_cases h1 : x.k = 1
    · simp [h1]
    · simp only [h1, if_false]
      repeat' split
      all_goals rfl
theorem state_ref (l : List Ev) (n : Int) : stateS l n = if seenS l l.length n 1 = true then (cutS l n).foldl stG 1 else 0 := by
  unfold stateS stC
  rw [st_fst, st_snd, seen_cut, List.take_length]
  simp
theorem before_ref (l : List Ev) (a b : Int) : ∀ (m : List Ev) (i : Nat), l.drop i = m → (∀ j x, j < i → l[j]? = some x → ¬ (x.a = b ∧ x.k = 1)) → beforeS l a b = beforeG (seenS l i a 8 || seenS l i a 9) m a b := by
  have key : ∀ i, i ≤ l.length → (∀ j x, j < i → l[j]? = some x → ¬ (x.a = b ∧ x.k = 1)) → beforeS l a b = beforeG (seenS l i a 8 || seenS l i a 9) (l.drop i) a b := by
    intro i
    induction i with
    | zero => intro _ _; simp [beforeS, seenS]
    | succ i ih =>
      intro hi h
      obtain ⟨x, hx⟩ : ∃ x, l[i]? = some x := ⟨l[i]'(by omega), List.getElem?_eq_getElem (by omega)⟩
      rw [ih (by omega) fun j y hj hy => h j y (by omega) hy]
      have hd : l.drop i = x :: l.drop (i + 1) := by
        rw [List.drop_eq_getElem_cons (by omega)]
        congr 1
        rw [List.getElem?_eq_getElem (by omega)] at hx
        exact Option.some.inj hx
      rw [hd, beforeG, if_neg (h i x (by omega) hx)]
      congr 1
      unfold seenS
      rw [take_snoc hx]
      simp only [List.any_append, List.any_cons, List.any_nil, Bool.or_false, endE, isK]
      cases decide (x.a = a) <;> cases decide (x.k = 8) <;> cases decide (x.k = 9) <;> simp
  intro m i hm h
  by_cases hi : i ≤ l.length
  · rw [← hm]; exact key i hi h
  · have h1 := key l.length (Nat.le_refl _) fun j x hj hx => h j x (by omega) hx
    rw [h1, ← hm, List.drop_length, List.drop_eq_nil_of_le (by omega)]; rfl
/-- Counts: who is open is who is neither. -/
theorem open_count (f : Int → Int) (ns : List Int) : ns.countP (fun n => openN (f n)) + ns.countP (fun n => decide (f n = 3)) + ns.countP (fun n => decide (f n = 4)) = ns.length := by
  induction ns with
  | nil => rfl
  | cons n ns ih =>
    simp only [List.countP_cons, List.length_cons]
    by_cases h3 : f n = 3
    · have ho : openN 3 = false := rfl
      have h4 : ¬ f n = 4 := by omega
      simp [h3, h4, ho]; omega
    · by_cases h4 : f n = 4
      · have ho : openN 4 = false := rfl
        simp [h3, h4, ho]; omega
      · have ho : openN (f n) = true := by simp [openN, h3, h4]
        simp [h3, h4, ho]; omega

theorem get_put (m : List (Int × Bool)) (t u : Int) (b : Bool) : getT (putT m t b) u = if t = u then some b else getT m u := by
  induction m with
  | nil =>
    by_cases h : t = u <;> simp [putT, getT, h]
  | cons p m ih =>
    rw [putT]
    by_cases hp : p.1 = t
    · rw [if_pos hp]
      by_cases h : t = u
      · simp [getT, h]
      · have : ¬ p.1 = u := by omega
        simp [getT, h, this]
    · rw [if_neg hp]
      by_cases hu : p.1 = u
      · have : ¬ t = u := by omega
        simp [getT, hu, this]
      · have e : ∀ q : List (Int × Bool), getT (p :: q) u = getT q u := fun q => by simp [getT, hu]
        rw [e, e, ih]
/-- What an attempt touched, by its events. -/
theorem tch_get : ∀ (c : List Ev) (m : List (Int × Bool)) (t : Int), getT (c.foldl tchF m) t = if (c.any fun x => rw x && decide (x.t = t)) = true ∨ (getT m t).isSome = true then some ((getT m t).getD false || c.any fun x => isK 3 x && decide (x.t = t)) else none
  | [], m, t => by
    cases h : getT m t <;> simp [h]
  | x :: c, m, t => by
    rw [List.foldl_cons, tch_get c]
    unfold tchF
    by_cases hr : rw x = true
    · rw [if_pos hr, get_put]
      by_cases ht : x.t = t
      · subst ht
        simp [hr, Bool.or_assoc]
      · simp [ht]
    · rw [if_neg hr]
      have hr' : rw x = false := by simpa using hr
      have h3 : isK 3 x = false := by
        unfold rw at hr'
        simp only [Bool.or_eq_false_iff] at hr'
        exact hr'.2
      simp [hr', h3]
def meetE (x y : Ev) : Bool := decide (x.t = y.t) && ((isK 3 x && rw y) || (isK 2 x && isK 3 y))
theorem keys_put (m : List (Int × Bool)) (t : Int) (b : Bool) (hm : (m.map (·.1)).Nodup) : ((putT m t b).map (·.1)).Nodup := by
  induction m with
  | nil => simp [putT]
  | cons p m ih =>
    rw [putT]
    simp only [List.map_cons, List.nodup_cons] at hm
    split
    · rename_i h
      simp only [List.map_cons, List.nodup_cons]
      exact ⟨by rw [← h]; exact hm.1, hm.2⟩
    · rename_i h
      simp only [List.map_cons, List.nodup_cons]
      refine ⟨fun hh => ?_, ih hm.2⟩
      obtain ⟨q, hq, e⟩ := List.mem_map.1 hh
      have : ∀ (m : List (Int × Bool)), q ∈ putT m t b → q.1 = t ∨ q ∈ m := by
        intro m
        induction m with
        | nil => intro h; simp [putT] at h; exact .inl (by rw [h])
        | cons r m ih =>
          intro h
          rw [putT] at h
          split at h
          · rcases List.mem_cons.1 h with rfl | h
            · exact .inl rfl
            · exact .inr (List.mem_cons_of_mem _ h)
          · rcases List.mem_cons.1 h with rfl | h
            · exact .inr (by simp)
            · rcases ih h with h | h
              · exact .inl h
              · exact .inr (List.mem_cons_of_mem _ h)
      rcases this m hq with h2 | h2
      · exact h (by rw [← e, h2])
      · exact hm.1 (List.mem_map.2 ⟨q, h2, e⟩)
theorem keys_tch : ∀ (c : List Ev) (m : List (Int × Bool)), (m.map (·.1)).Nodup → ((c.foldl tchF m).map (·.1)).Nodup
  | [], m, h => h
  | x :: c, m, h => keys_tch c _ (by
    unfold tchF
    split
    · exact keys_put _ _ _ h
    · exact h)
theorem get_mem {m : List (Int × Bool)} (h : (m.map (·.1)).Nodup) {p : Int × Bool} (hp : p ∈ m) : getT m p.1 = some p.2 := by
  induction m with
  | nil => cases hp
  | cons q m ih =>
    simp only [List.map_cons, List.nodup_cons] at h
    rcases List.mem_cons.1 hp with rfl | hp
    · simp [getT]
    · have : ¬ q.1 = p.1 := fun e => h.1 (by rw [e]; exact List.mem_map.2 ⟨p, hp, rfl⟩)
      have e : getT (q :: m) p.1 = getT m p.1 := by simp [getT, this]
      rw [e, ih h.2 hp]
theorem mem_get {m : List (Int × Bool)} {t : Int} {b : Bool} (h : getT m t = some b) : (t, b) ∈ m := by
  unfold getT at h
  obtain ⟨p, hp, e⟩ := Option.map_eq_some_iff.1 h
  have h1 := List.find?_some hp
  have h2 := List.mem_of_find?_eq_some hp
  simp only [decide_eq_true_eq] at h1
  rw [← h1, ← e]; exact h2
theorem meet_ref (l : List Ev) (a b : Int) : meetS l a b = true ↔ ∃ x ∈ l, ∃ y ∈ l, x.a = a ∧ y.a = b ∧ meetE x y = true := by
  unfold meetS meetT
  rw [List.any_eq_true]
  have hg : ∀ n t, getT (tchS l n) t = if ((cutS l n).any fun x => rw x && decide (x.t = t)) = true then some ((cutS l n).any fun x => isK 3 x && decide (x.t = t)) else none := fun n t => by
    have := tch_get (cutS l n) [] t
    unfold tchS
    rw [this]
    simp [getT]
  have hmem : ∀ n (p : Ev → Bool), (cutS l n).any p = true ↔ ∃ x ∈ l, x.a = n ∧ p x = true := by
    intro n p
    rw [List.any_eq_true]
    constructor
    · rintro ⟨x, h1, h2⟩
      obtain ⟨h3, h4⟩ := List.mem_filter.1 h1
      exact ⟨x, h3, by simpa using h4, h2⟩
    · rintro ⟨x, h1, h2, h3⟩
      exact ⟨x, List.mem_filter.2 ⟨h1, by simpa using h2⟩, h3⟩
  constructor
  · rintro ⟨⟨t, w⟩, hp, h⟩
    have h1 := get_mem (keys_tch (cutS l a) [] (by simp)) hp
    change getT (tchS l a) t = some w at h1
    rw [hg] at h1 h
    split at h1
    · rename_i ha
      obtain ⟨x, hx, hxa, hxr⟩ := (hmem _ _).1 ha
      split at h
      · cases h
      · rename_i also hb
        split at hb
        · rename_i hb2
          obtain ⟨y, hy, hyb, hyr⟩ := (hmem _ _).1 hb2
          cases hb
          simp only [Option.some.injEq] at h1
          simp only [Bool.and_eq_true, decide_eq_true_eq] at hxr hyr
          rcases Bool.or_eq_true_iff.1 h with h | h
          · subst h
            obtain ⟨x2, hx2, hxa2, hxr2⟩ := (hmem _ _).1 h1
            simp only [Bool.and_eq_true, decide_eq_true_eq] at hxr2
            exact ⟨x2, hx2, y, hy, hxa2, hyb, by simp [meetE, hxr2.1, hxr2.2, hyr.1, hyr.2]⟩
          · obtain ⟨y2, hy2, hyb2, hyr2⟩ := (hmem _ _).1 h
            simp only [Bool.and_eq_true, decide_eq_true_eq] at hyr2
            have hr : (isK 2 x || isK 3 x) = true := hxr.1
            refine ⟨x, hx, y2, hy2, hxa, hyb2, ?_⟩
            have hy3 : rw y2 = true := by simp [rw, hyr2.1]
            rcases Bool.or_eq_true_iff.1 hr with hr | hr <;> simp [meetE, hr, hy3, hyr2.1, hyr2.2, hxr.2]
        · cases hb
    · cases h1
  · rintro ⟨x, hx, y, hy, rfl, rfl, hm⟩
    simp only [meetE, Bool.and_eq_true, decide_eq_true_eq] at hm
    obtain ⟨ht, hm⟩ := hm
    have hrx : rw x = true := by
      rcases Bool.or_eq_true_iff.1 hm with h | h <;> simp only [Bool.and_eq_true] at h <;> simp [rw, h.1]
    have hry : rw y = true := by
      rcases Bool.or_eq_true_iff.1 hm with h | h <;> simp only [Bool.and_eq_true] at h
      · exact h.2
      · simp [rw, h.2]
    have h1 : getT (tchS l x.a) x.t = some ((cutS l x.a).any fun z => isK 3 z && decide (z.t = x.t)) := by
      rw [hg, if_pos ((hmem _ _).2 ⟨x, hx, rfl, by simp [hrx]⟩)]
    have h2 : getT (tchS l y.a) x.t = some ((cutS l y.a).any fun z => isK 3 z && decide (z.t = x.t)) := by
      rw [hg, if_pos ((hmem _ _).2 ⟨y, hy, rfl, by simp [hry, ht]⟩)]
    refine ⟨_, mem_get h1, ?_⟩
    simp only [h2, Bool.or_eq_true]
    rcases Bool.or_eq_true_iff.1 hm with h | h <;> simp only [Bool.and_eq_true] at h
    · exact .inl ((hmem _ _).2 ⟨x, hx, rfl, by simp [h.1]⟩)
    · exact .inr ((hmem _ _).2 ⟨y, hy, rfl, by simp [h.2, ht]⟩)
end YtmhkpababjdnbaaDoor
end Go.Proofs
/-
  EVENTS: rows of them, and what is read off one.
-/
set_option linter.unusedSimpArgs false
set_option linter.unusedVariables false
set_option linter.unnecessarySimpa false
set_option linter.unusedSectionVars false
namespace Go.Proofs
namespace YtmhkpababjdnbaaDoor
open Go.Abs
set_option linter.unusedSimpArgs false

theorem evs_ground (l : List Ev) : grounds (evs l) = true := by
  induction l with
  | nil => rfl
  | cons e l ih =>
    show grounds (.int .u8 e.k :: .int .i64 e.a :: .int .i64 e.t :: .int .u64 e.v :: evs l) = true
    simp [grounds, ground, ih]
theorem ren_evs (θ : Nat → Nat) (l : List Ev) : rens θ (evs l) = evs l := rens_ground θ _ (evs_ground l)
attribute [simp] ren_evs
theorem evs_length (l : List Ev) : (evs l).length = l.length * 4 := by
  induction l with
  | nil => rfl
  | cons e l ih =>
    show (.int .u8 e.k :: .int .i64 e.a :: .int .i64 e.t :: .int .u64 e.v :: evs l : List Value).length = _
    simp [ih]; omega
theorem evs_append (a b : List Ev) : evs (a ++ b) = evs a ++ evs b := by simp [evs]
theorem evs_single (e : Ev) : evs [e] = [.int .u8 e.k, .int .i64 e.a, .int .i64 e.t, .int .u64 e.v] := rfl
theorem take_evs (l : List Ev) : (evs l).take (l.length * 4) = evs l := List.take_of_length_le (by simp [evs_length])
theorem evs_nil : evs [] = [] := rfl
theorem evs_cons (e : Ev) (l : List Ev) : evs (e :: l) = .int .u8 e.k :: .int .i64 e.a :: .int .i64 e.t :: .int .u64 e.v :: evs l := rfl
def asEvs : List Value → Option (List Ev)
  | [] => some []
  | .int .u8 k :: .int .i64 a :: .int .i64 t :: .int .u64 v :: l => (asEvs l).map (⟨k, a, t, v⟩ :: ·)
  | _ => none
theorem asEvs_evs : ∀ l : List Ev, asEvs (evs l) = some l
  | [] => rfl
  | e :: l => by
    show (asEvs (evs l)).map (_ :: ·) = _
    rw [asEvs_evs l]; rfl
theorem asEvs_inv : ∀ {cs : List Value} {l : List Ev}, asEvs cs = some l → cs = evs l
  | cs, l, e => by
    unfold asEvs at e
    split at e
    · cases e; rfl
    · simp only [Option.map_eq_some_iff] at e
      obtain ⟨l', e1, rfl⟩ := e
      rw [asEvs_inv e1]; rfl
    · cases e
attribute [simp] asEvs_evs
theorem many_evs {i : Nat} {x : Ev} : ∀ {l : List Ev}, l[i]? = some x → ((evs l).drop (i * 4)).take 4 = x.cells := by
  induction i with
  | zero =>
    intro l h
    cases l with
    | nil => simp at h
    | cons e l => simp at h; subst h; rfl
  | succ i ih =>
    intro l h
    cases l with
    | nil => simp at h
    | cons e l =>
      rw [evs_cons, show (i + 1) * 4 = i * 4 + 1 + 1 + 1 + 1 by omega]
      simpa using ih (l := l) (by simpa using h)
theorem many_evs' {i : Nat} {x : Ev} {l : List Ev} (h : l[i]? = some x) : ((evs l).drop (i * 4)).take 4 = [.int .u8 x.k, .int .i64 x.a, .int .i64 x.t, .int .u64 x.v] := many_evs h
theorem evs_at {l : List Ev} {i : Nat} {x : Ev} (h : l[i]? = some x) : (evs l)[i * 4]? = some (.int .u8 x.k) ∧ (evs l)[i * 4 + 1]? = some (.int .i64 x.a) ∧ (evs l)[i * 4 + 2]? = some (.int .i64 x.t) ∧ (evs l)[i * 4 + 3]? = some (.int .u64 x.v) := by
  have h3 := many_evs h
  have g : ∀ j, j < 4 → (evs l)[i * 4 + j]? = x.cells[j]? := fun j hj => by
    rw [← h3, List.getElem?_take, if_pos hj, List.getElem?_drop]
  exact ⟨g 0 (by omega), g 1 (by omega), g 2 (by omega), g 3 (by omega)⟩
theorem evs_room {l : List Ev} {i : Nat} (h : i < l.length) : i * 4 + 4 ≤ (evs l).length := by rw [evs_length]; omega
theorem evs_oneC (l : List Ev) : (evs l).all (·.oneCell') = true := by
  induction l with
  | nil => rfl
  | cons e l ih => rw [evs_cons]; simpa [Value.oneCell'] using ih
/-- A row of events, one's own or one that nobody writes. -/
def getEvs (H : AH GD) (k : Nat) : Option (List Ev) := match H.get k with
  | some (.ro cs) => asEvs cs
  | some (.arr _ cs) => asEvs cs
  | _ => none
theorem getEvs_inv {H : AH GD} {k : Nat} {l : List Ev} (h : getEvs H k = some l) : H.get k = some (.ro (evs l)) ∨ ∃ e, H.get k = some (.arr e (evs l)) := by
  unfold getEvs at h
  split at h
  · rename_i cs hk
    rw [asEvs_inv h] at hk; exact .inl hk
  · rename_i e cs hk
    rw [asEvs_inv h] at hk; exact .inr ⟨e, hk⟩
  · cases h
/-- What is read off a row of events alone, and numbers. -/
abbrev RStep := List Ev → List Value → Option (Prop × Value)
def rdSt (g : RStep) : CStep GD := fun args H => match args with
  | .slice (some ⟨k, 0, none⟩) n _ :: rest => match getEvs H k with
    | some l => if n ≤ l.length then (g (l.take n) rest).map fun x => (x.1, .ret x.2, H) else none
    | none => none
  | _ => none
/-- It is shown over a row that nobody writes. -/
theorem rd_ok {fid : FuncId} {g : RStep} (h : ∀ (l : List Ev) (n c : Nat) (rest : List Value) (p : Prop) (v : Value), n ≤ l.length → g (l.take n) rest = some (p, v) → p → grounds rest = true ∧ ground v = true ∧
    Runs Tryd.prog cfg fid (.slice (some ⟨0, 0, none⟩) n c :: rest) (AH.of [some (.ro (evs l))]) fun r H' => r = .ret v ∧ H' = AH.of [some (.ro (evs l))]) : CStepOk Tryd.prog cfg fid (rdSt g) := by
  intro args H p r H' he hp
  unfold rdSt at he
  split at he
  case h_2 => cases he
  rename_i k n c rest
  split at he
  case h_2 => cases he
  rename_i l hl
  split at he
  case isFalse => cases he
  rename_i hn
  simp only [Option.map_eq_some_iff] at he
  obtain ⟨⟨p', v⟩, h1, h2⟩ := he
  cases h2
  obtain ⟨g1, g2, hr⟩ := h l n c rest p' v hn h1 hp
  rcases getEvs_inv hl with hk | ⟨e, hk⟩
  · exact hr.atK (ro_same fun i cs hi => by rcases i with _ | _ | i <;> simp at hi ⊢; exact hi) [k] (by simp) (by simp) (by simp [hk]) (by rw [rens, rens_ground _ _ g1]; simp) (by rw [renE_ret, ren_ground _ _ g2]) (by simp [upd_get hk])
  · refine Runs.borrow k hk ?_
    have hk2 : (H.upd k (.ro (evs l))).get k = some (.ro (evs l)) := by rw [AH.get_upd, if_pos rfl]
    have hr2 := hr.atK (H := H.upd k (.ro (evs l))) (args := .slice (some ⟨k, 0, none⟩) n c :: rest) (r' := .ret v) (H' := H.upd k (.ro (evs l))) (ro_same fun i cs hi => by rcases i with _ | _ | i <;> simp at hi ⊢; exact hi) [k] (by simp) (by simp) (by simp [hk2]) (by rw [rens, rens_ground _ _ g1]; simp) (by rw [renE_ret, ren_ground _ _ g2]) (by simp [upd_get hk2])
    refine hr2.mono ?_
    rintro r H' ⟨e1, rfl⟩
    refine ⟨hk2, fun j cs2 hj hcs hne => ⟨cs2, ?_, hne⟩, e1, ?_⟩
    · rw [AH.get_upd, if_neg hj] at hcs; exact hcs
    · rw [upd_upd, upd_get hk]
/-- What is read off a row of events alone, as a new row. -/
abbrev RNStep := List Ev → List Value → Option (Prop × Nat × TypeId × List Value)
def rnSt (g : RNStep) : CStep GD := fun args H => match args with
  | .slice (some ⟨k, 0, none⟩) n _ :: rest => match getEvs H k with
    | some l => if n ≤ l.length then (g (l.take n) rest).map fun x => (k < H.next ∧ x.1, .ret (.slice (some ⟨H.next, 0, none⟩) x.2.1 1), H.add (.arr x.2.2.1 x.2.2.2)) else none
    | none => none
  | _ => none
theorem rn_ok {fid : FuncId} {g : RNStep} (h : ∀ (l : List Ev) (n c : Nat) (rest : List Value) (p : Prop) (m : Nat) (t : TypeId) (cs : List Value), n ≤ l.length → g (l.take n) rest = some (p, m, t, cs) → p → grounds rest = true ∧ grounds cs = true ∧
    Runs Tryd.prog cfg fid (.slice (some ⟨0, 0, none⟩) n c :: rest) (AH.of [some (.ro (evs l))]) fun r H' => r = .ret (.slice (some ⟨1, 0, none⟩) m 1) ∧ H' = AH.of [some (.ro (evs l)), some (.arr t cs)]) : CStepOk Tryd.prog cfg fid (rnSt g) := by
  intro args H p r H' he hp
  unfold rnSt at he
  split at he
  case h_2 => cases he
  rename_i k n c rest
  split at he
  case h_2 => cases he
  rename_i l hl
  split at he
  case isFalse => cases he
  rename_i hn
  simp only [Option.map_eq_some_iff] at he
  obtain ⟨⟨p', m, t, cs⟩, h1, h2⟩ := he
  cases h2
  obtain ⟨g1, g2, hr⟩ := h l n c rest p' m t cs hn h1 hp.2
  rcases getEvs_inv hl with hk | ⟨e, hk⟩
  · exact hr.atK (ro_same fun i cs hi => by rcases i with _ | _ | i <;> simp at hi ⊢; exact hi) [k] (by simp) (by simp) (by simp [hk]) (by rw [rens, rens_ground _ _ g1]; simp) (by simp) (by simp [upd_get hk, rens_ground _ _ g2])
  · refine Runs.borrow k hk ?_
    have hk2 : (H.upd k (.ro (evs l))).get k = some (.ro (evs l)) := by rw [AH.get_upd, if_pos rfl]
    have hr2 := hr.atK (H := H.upd k (.ro (evs l))) (args := .slice (some ⟨k, 0, none⟩) n c :: rest) (r' := .ret (.slice (some ⟨H.next, 0, none⟩) m 1)) (H' := (H.upd k (.ro (evs l))).add (.arr t cs)) (ro_same fun i cs hi => by rcases i with _ | _ | i <;> simp at hi ⊢; exact hi) [k] (by simp) (by simp) (by simp [hk2]) (by rw [rens, rens_ground _ _ g1]; simp) (by simp) (by simp [upd_get hk2, rens_ground _ _ g2])
    have hkl : k ≠ H.next := Nat.ne_of_lt hp.1
    refine hr2.mono ?_
    rintro r H' ⟨e1, rfl⟩
    refine ⟨by rw [AH.get_add, AH.next_upd, if_neg hkl, hk2], fun j cs2 hj hcs hne => ⟨cs2, ?_, hne⟩, e1, ?_⟩
    · rw [AH.get_add, AH.next_upd] at hcs
      split at hcs
      · cases hcs
      · rw [AH.get_upd, if_neg hj] at hcs; exact hcs
    · refine AH.ext' (by simp) fun j => ?_
      rw [AH.get_upd, AH.get_add, AH.get_add, AH.next_upd, AH.get_upd]
      by_cases hj : j = k
      · subst hj; rw [if_pos rfl, if_neg hkl, hk]
      · rw [if_neg hj, if_neg hj]
end YtmhkpababjdnbaaDoor
end Go.Proofs
/-
  slices.Contains of whole numbers.
-/
set_option linter.unusedSimpArgs false
set_option linter.unusedVariables false
set_option linter.unnecessarySimpa false
set_option linter.unusedSectionVars false
namespace Go.Proofs
namespace YtmhkpababjdnbaaDoor
open Go.Abs
set_option linter.unusedSimpArgs false

theorem runs27 (e : TypeId) (l : List Int) (tg : Nat) (x : Int) (hl : l.length ≤ 1000) : Runs Tryd.prog cfg 27 [.slice (some ⟨0, 0, none⟩) l.length tg, .int .i64 x] (AH.of [some (.arr e (ints l))])
    fun r H' => r = .ret (.bool (decide (x ∈ l))) ∧ H' = AH.of [some (.arr e (ints l))] := by
  refine Runs.ends ?_
  obtain ⟨n, hn⟩ : ∃ n, l.length = n := ⟨_, rfl⟩
  rw [hn]
  refine runs_by (tbl := []) (by simp) 1001 2 (af := a27) rfl ?_
  rw [a27, b27, run_eq]
  refine ⟨by simp, ?_⟩
  simp (implicitDefEqProofs := false) [forms43, a43, b43]
  refine loop_inv (sg_mono gX_ok (tabS_ok (by simp)) _ _ noY noY_mono) (fun m tm H => ∃ i : Nat, m + i = n ∧ (∀ j y, j < i → l[j]? = some y → y ≠ x) ∧ tm 0 = .slice (some ⟨0, 0, none⟩) n tg ∧ tm 1 = .int .i64 x ∧ tm 7 = .int .i64 n ∧ tm 8 = .int .i64 i ∧ H = AH.of [some (.arr e (ints l))]) (m := n) ⟨0, by simp⟩ (by omega) ?_
  rintro m tm H ⟨i, hm, hpre, t0, t1, t7, t8, rfl⟩
  by_cases hi : i < n
  · obtain ⟨y, hy⟩ : ∃ y, l[i]? = some y := ⟨l[i]'(by omega), List.getElem?_eq_getElem (by omega)⟩
    have hi' : (i : Int) < n := by omega
    have hwr := inc_i64 hi (by omega)
    have uy := ints_at hy
    by_cases hxy : x = y
    · subst hxy
      have hin : x ∈ l := List.mem_of_getElem? hy
      simp (implicitDefEqProofs := false) [t0, t1, t7, t8, hi, hi', uy, hwr, hin]
      refine ends_plan [] [0] ?_ ?_ ?_ <;> simp
    · have hpre2 : ∀ j z, j < i + 1 → l[j]? = some z → z ≠ x := fun j z hj hz => by
        by_cases h : j = i
        · subst h; rw [hy] at hz; cases hz; exact fun h => hxy h.symm
        · exact hpre j z (by omega) hz
      simp (implicitDefEqProofs := false) [t0, t1, t7, t8, hi, hi', uy, hwr, hxy]
      exact ⟨m - 1, by omega, i + 1, by omega, hpre2, by omega⟩
  · have hin : x ∉ l := fun h => by
      obtain ⟨j, hj⟩ := List.getElem?_of_mem h
      have := (List.getElem?_eq_some_iff.1 hj).1
      exact hpre j x (by omega) hj rfl
    have hi' : ¬ (i : Int) < n := by omega
    simp (implicitDefEqProofs := false) [t0, t1, t7, t8, hi', hin]
    refine ends_plan [] [0] ?_ ?_ ?_ <;> simp
def st27 : CStep GD := fun args H => match args with
  | [.slice (some ⟨k, 0, none⟩) n _, .int .i64 x] => match getInts H k with
    | some l => some (n = l.2.length ∧ l.2.length ≤ 1000, .ret (.bool (decide (x ∈ l.2))), H)
    | none => none
  | _ => none
theorem st27_ok : CStepOk Tryd.prog cfg 27 st27 := by
  intro args H p r H' h hp
  unfold st27 at h
  split at h
  case h_2 => cases h
  split at h
  case h_2 => cases h
  rename_i k n tg x _ l hl
  cases h
  rw [hp.1]
  exact (runs27 l.1 l.2 tg x hp.2).atK (ro_none rfl) [k] (by simp) (by simp) (by simp [getInts_inv hl]) (by simp) (by simp) (by simp [upd_get (getInts_inv hl)])
theorem getInts_list (L : List (Option (AObj GD))) (k : Nat) : getInts (AH.of L) k = match (L[k]?).join with
  | some (.arr e cs) => (asInts cs).map fun h => (e, h)
  | _ => none := rfl
attribute [simp] getInts_list
end YtmhkpababjdnbaaDoor
end Go.Proofs
/-
  TRACE: Attempts, Cut, StateOf, Before.
-/
set_option linter.unusedSimpArgs false
set_option linter.unusedVariables false
set_option linter.unnecessarySimpa false
set_option linter.unusedSectionVars false
namespace Go.Proofs
namespace YtmhkpababjdnbaaDoor
open Go.Abs
set_option linter.unusedSimpArgs false

theorem getEvs_list (L : List (Option (AObj GD))) (k : Nat) : getEvs (AH.of L) k = match (L[k]?).join with
  | some (.ro cs) => asEvs cs
  | some (.arr _ cs) => asEvs cs
  | _ => none := rfl
attribute [simp] getEvs_list

theorem atts_le (l : List Ev) : (attsS l).length ≤ l.length := by
  have := atts_len l []
  simpa [attsS] using this
theorem atts_succ {l : List Ev} {i : Nat} {x : Ev} (h : l[i]? = some x) : attsS (l.take (i + 1)) = attF (attsS (l.take i)) x := by
  rw [take_snoc h]
  simp [attsS]
def tblAt : List (FuncId × CStep GD) := [(27, st27)]
theorem tblAt_ok : ∀ x ∈ tblAt, CStepOk Tryd.prog cfg x.1 x.2 := by simp [tblAt, st27_ok]
set_option maxHeartbeats 4000000 in
theorem runs11 (l : List Ev) (n c : Nat) (hn : n ≤ l.length) (hs : n ≤ 1000) : Runs Tryd.prog cfg 11 [.slice (some ⟨0, 0, none⟩) n c] (AH.of [some (.ro (evs l))])
    fun r H' => r = .ret (.slice (some ⟨1, 0, none⟩) (attsS (l.take n)).length 1) ∧ H' = AH.of [some (.ro (evs l)), some (.arr 3 (ints (attsS (l.take n))))] := by
  refine Runs.ends ?_
  refine runs_by (tbl := tblAt) tblAt_ok 1001 0 (af := a11) rfl ?_
  rw [a11, b11, run_eq]
  refine ⟨by simp, ?_⟩
  simp (implicitDefEqProofs := false)
  refine loop_view (sg_mono gX_ok (tabS_ok tblAt_ok) _ _ noY noY_mono) (fun m tm H => ∃ i : Nat, m + i = n ∧ tm 6 = .slice (some ⟨0, 0, none⟩) n c ∧ tm 7 = .int .i64 n ∧ tm 8 = .int .i64 i ∧ tm 3 = .slice (some ⟨1, 0, none⟩) (attsS (l.take i)).length 1 ∧ H = AH.of [some (.ro (evs l)), some (.arr 3 (ints (attsS (l.take i))))]) (m := n) ?_ (by omega) ?_
  · refine round_wk [.nil 3] [0, 1] [some (.ro (evs l)), some (.arr 3 (ints []))] [(3, .slice (some ⟨1, 0, none⟩) 0 1)] n (by omega) ?_ ?_ ?_ ⟨0, ?_⟩ <;> simp [attsS, ints]
  rintro m tm H ⟨i, hm, t6, t7, t8, t3, rfl⟩
  by_cases hi : i < n
  · obtain ⟨x, hx⟩ : ∃ x, l[i]? = some x := ⟨l[i]'(by omega), List.getElem?_eq_getElem (by omega)⟩
    have hi' : (i : Int) < n := by omega
    have hwr := inc_i64 hi (by omega)
    have hsuc := atts_succ hx
    have hroom := evs_room (show i < l.length by omega)
    have hmany := many_evs' hx
    have hle := atts_le (l.take i)
    rw [List.length_take] at hle
    generalize attsS (l.take i) = out at *
    have hol : out.length ≤ 1000 := by omega
    have hr3 : (out.length + 1) * 8 ≤ 140737488355328 ∧ out.length ≤ 9223372036854775806 := by omega
    have htk := take_ints out
    by_cases hk : x.k = 1
    · by_cases hin : x.a ∈ out
      · have hsuc' : attsS (l.take (i + 1)) = out := by rw [hsuc, attF, if_neg (fun h => h.2 hin)]
        simp (implicitDefEqProofs := false) [tblAt, st27, t6, t7, t8, t3, hi, hi', hwr, hroom, hmany, hk, hin, hol]
        refine round_plan [] [0, 1] [some (.ro (evs l)), some (.arr 3 (ints out))] (m - 1) (by omega) ?_ ?_ ⟨i + 1, by omega, ?_, ?_, ?_, ?_, ?_⟩ <;> simp [t6, t7, t3, hsuc']
      · have hsuc' : attsS (l.take (i + 1)) = out ++ [x.a] := by rw [hsuc, attF, if_pos ⟨hk, hin⟩]
        simp (implicitDefEqProofs := false) [tblAt, st27, t6, t7, t8, t3, hi, hi', hwr, hroom, hmany, hk, hin, hol, hr3, htk]
        refine round_plan [] [0, 4] [some (.ro (evs l)), some (.arr 3 (ints (out ++ [x.a])))] (m - 1) (by omega) ?_ ?_ ⟨i + 1, by omega, ?_, ?_, ?_, ?_, ?_⟩ <;> simp [t6, t7, hsuc', ints_append, ints_single]
    · have hsuc' : attsS (l.take (i + 1)) = out := by rw [hsuc, attF, if_neg (fun h => hk h.1)]
      simp (implicitDefEqProofs := false) [tblAt, t6, t7, t8, t3, hi, hi', hwr, hroom, hmany, hk]
      refine round_plan [] [0, 1] [some (.ro (evs l)), some (.arr 3 (ints out))] (m - 1) (by omega) ?_ ?_ ⟨i + 1, by omega, ?_, ?_, ?_, ?_, ?_⟩ <;> simp [t6, t7, t3, hsuc']
  · have hie : i = n := by omega
    subst hie
    simp (implicitDefEqProofs := false) [t6, t7, t8, t3]
    refine ends_plan [] [0, 1] ?_ ?_ ?_ <;> simp
def r11 : RNStep
  | l, [] => some (l.length ≤ 1000, (attsS l).length, 3, ints (attsS l))
  | _, _ => none
theorem st11_ok : CStepOk Tryd.prog cfg 11 (rnSt r11) := rn_ok fun l n c rest p m t cs hn h hp => by
  unfold r11 at h
  split at h
  · cases h
    rw [List.length_take] at hp
    exact ⟨rfl, ints_ground _, runs11 l n c hn (by omega)⟩
  · cases h
end YtmhkpababjdnbaaDoor
end Go.Proofs
/-
  TRACE: Cut, StateOf, Before.
-/
set_option linter.unusedSimpArgs false
set_option linter.unusedVariables false
set_option linter.unnecessarySimpa false
set_option linter.unusedSectionVars false
namespace Go.Proofs
namespace YtmhkpababjdnbaaDoor
open Go.Abs
set_option linter.unusedSimpArgs false

theorem cut_succ {l : List Ev} {i : Nat} {x : Ev} (h : l[i]? = some x) (n : Int) : cutS (l.take (i + 1)) n = if x.a = n then cutS (l.take i) n ++ [x] else cutS (l.take i) n := by
  rw [take_snoc h, cutS_append, cutS_cons]
  split <;> simp [cutS]
theorem cut_le (l : List Ev) (n : Int) : (cutS l n).length ≤ l.length := List.length_filter_le _ _
set_option maxHeartbeats 4000000 in
theorem runs17 (l : List Ev) (n c : Nat) (a : Int) (hn : n ≤ l.length) (hs : n ≤ 1000) : Runs Tryd.prog cfg 17 [.slice (some ⟨0, 0, none⟩) n c, .int .i64 a] (AH.of [some (.ro (evs l))])
    fun r H' => r = .ret (.slice (some ⟨1, 0, none⟩) (cutS (l.take n) a).length 1) ∧ H' = AH.of [some (.ro (evs l)), some (.arr 43 (evs (cutS (l.take n) a)))] := by
  refine Runs.ends ?_
  refine runs_by (tbl := []) (by simp) 1001 0 (af := a17) rfl ?_
  rw [a17, b17, run_eq]
  refine ⟨by simp, ?_⟩
  simp (implicitDefEqProofs := false)
  refine loop_view (sg_mono gX_ok (tabS_ok (by simp)) _ _ noY noY_mono) (fun m tm H => ∃ i : Nat, m + i = n ∧ tm 1 = .int .i64 a ∧ tm 8 = .slice (some ⟨0, 0, none⟩) n c ∧ tm 9 = .int .i64 n ∧ tm 10 = .int .i64 i ∧ tm 5 = .slice (some ⟨1, 0, none⟩) (cutS (l.take i) a).length 1 ∧ H = AH.of [some (.ro (evs l)), some (.arr 43 (evs (cutS (l.take i) a)))]) (m := n) ?_ (by omega) ?_
  · refine round_wk [.nil 43] [0, 1] [some (.ro (evs l)), some (.arr 43 (evs []))] [(5, .slice (some ⟨1, 0, none⟩) 0 1)] n (by omega) ?_ ?_ ?_ ⟨0, ?_⟩ <;> simp [cutS, evs_nil]
  rintro m tm H ⟨i, hm, t1, t6, t7, t8, t3, rfl⟩
  by_cases hi : i < n
  · obtain ⟨x, hx⟩ : ∃ x, l[i]? = some x := ⟨l[i]'(by omega), List.getElem?_eq_getElem (by omega)⟩
    have hi' : (i : Int) < n := by omega
    have hwr := inc_i64 hi (by omega)
    have hsuc := cut_succ hx a
    have hroom := evs_room (show i < l.length by omega)
    have hmany := many_evs' hx
    have hle := cut_le (l.take i) a
    rw [List.length_take] at hle
    generalize cutS (l.take i) a = out at *
    have hr3 : (out.length + 1) * 32 ≤ 140737488355328 ∧ out.length ≤ 9223372036854775806 := by omega
    have htk := take_evs out
    have hol : out.length * 4 ≤ (evs out).length := by rw [evs_length]; omega
    by_cases hk : x.a = a
    · rw [if_pos hk] at hsuc
      simp (implicitDefEqProofs := false) [t1, t6, t7, t8, t3, hi, hi', hwr, hroom, hmany, hk, hol, hr3, htk]
      refine round_plan [] [0, 4] [some (.ro (evs l)), some (.arr 43 (evs (out ++ [x])))] (m - 1) (by omega) ?_ ?_ ⟨i + 1, by omega, ?_, ?_, ?_, ?_, ?_, ?_⟩ <;> simp [t1, t6, t7, hsuc, evs_append, evs_single, hk]
    · rw [if_neg hk] at hsuc
      simp (implicitDefEqProofs := false) [t1, t6, t7, t8, t3, hi, hi', hwr, hroom, hmany, hk]
      refine round_plan [] [0, 1] [some (.ro (evs l)), some (.arr 43 (evs out))] (m - 1) (by omega) ?_ ?_ ⟨i + 1, by omega, ?_, ?_, ?_, ?_, ?_, ?_⟩ <;> simp [t1, t6, t7, t3, hsuc]
  · have hie : i = n := by omega
    subst hie
    simp (implicitDefEqProofs := false) [t1, t6, t7, t8, t3]
    refine ends_plan [] [0, 1] ?_ ?_ ?_ <;> simp
def r17 : RNStep
  | l, [.int .i64 a] => some (l.length ≤ 1000, (cutS l a).length, 43, evs (cutS l a))
  | _, _ => none
theorem st17_ok : CStepOk Tryd.prog cfg 17 (rnSt r17) := rn_ok fun l n c rest p m t cs hn h hp => by
  unfold r17 at h
  split at h
  · cases h
    rw [List.length_take] at hp
    exact ⟨rfl, evs_ground _, runs17 l n c _ hn (by omega)⟩
  · cases h

def tblSf : List (FuncId × CStep GD) := [(17, rnSt r17)]
theorem tblSf_ok : ∀ x ∈ tblSf, CStepOk Tryd.prog cfg x.1 x.2 := by simp [tblSf, st17_ok]
set_option maxHeartbeats 4000000 in
theorem runs12 (l : List Ev) (n c : Nat) (a : Int) (hn : n ≤ l.length) (hs : n ≤ 1000) : Runs Tryd.prog cfg 12 [.slice (some ⟨0, 0, none⟩) n c, .int .i64 a] (AH.of [some (.ro (evs l))])
    fun r H' => r = .ret (.int .u8 (stateS (l.take n) a)) ∧ H' = AH.of [some (.ro (evs l))] := by
  refine Runs.ends ?_
  have hlen : (l.take n).length ≤ 1000 := by rw [List.length_take]; omega
  have hle := cut_le (l.take n) a
  obtain ⟨q, hq⟩ : ∃ q, cutS (l.take n) a = q := ⟨_, rfl⟩
  unfold stateS
  rw [hq] at hle ⊢
  obtain ⟨N, hN⟩ : ∃ N, q.length = N := ⟨_, rfl⟩
  rw [hN] at hle
  refine runs_by (tbl := tblSf) tblSf_ok 1001 0 (af := a12) rfl ?_
  rw [a12, b12, run_eq]
  refine ⟨by simp, ?_⟩
  simp (implicitDefEqProofs := false) [tblSf, rnSt, r17, hn, hs, hq, hN, hlen]
  refine loop_view (sg_mono gX_ok (tabS_ok tblSf_ok) _ _ noY noY_mono) (fun m tm H => ∃ i : Nat, m + i = N ∧ tm 11 = .slice (some ⟨1, 0, none⟩) N 1 ∧ tm 12 = .int .i64 N ∧ tm 13 = .int .i64 i ∧ tm 5 = .bool ((q.take i).foldl stF (false, 1)).1 ∧ tm 6 = .int .u8 ((q.take i).foldl stF (false, 1)).2 ∧ H = AH.of [some (.ro (evs l)), some (.arr 43 (evs q))]) (m := N) ?_ (by omega) ?_
  · refine round_plan [] [0, 1] [some (.ro (evs l)), some (.arr 43 (evs q))] N (by omega) ?_ ?_ ⟨0, ?_⟩ <;> simp
  rintro m tm H ⟨i, hm, t11, t12, t13, t5, t6, rfl⟩
  by_cases hi : i < N
  · obtain ⟨x, hx⟩ : ∃ x, q[i]? = some x := ⟨q[i]'(by omega), List.getElem?_eq_getElem (by omega)⟩
    have hi' : (i : Int) < N := by omega
    have hwr := inc_i64 hi (by omega)
    have hsuc : (q.take (i + 1)).foldl stF (false, 1) = stF ((q.take i).foldl stF (false, 1)) x := by rw [take_snoc hx]; simp
    have hroom := evs_room (show i < q.length by omega)
    have hmany := many_evs' hx
    generalize (q.take i).foldl stF (false, 1) = p at *
    have key : ∀ p' : Bool × Int, stF p x = p' → (q.take (i + 1)).foldl stF (false, 1) = p' := fun p' h => by rw [hsuc, h]
    by_cases k1 : x.k = 1
    · have hsuc' := key (true, p.2) (by simp [stF, k1])
      simp (implicitDefEqProofs := false) [t11, t12, t13, t5, t6, hi, hi', hwr, hroom, hmany, k1]
      refine round_plan [] [0, 1] [some (.ro (evs l)), some (.arr 43 (evs q))] (m - 1) (by omega) ?_ ?_ ⟨i + 1, by omega, ?_, ?_, ?_, ?_, ?_, ?_⟩ <;> simp [t11, t12, t5, t6, hsuc']
    by_cases k7 : x.k = 7
    · have hsuc' := key (p.1, 2) (by simp [stF, k7])
      simp (implicitDefEqProofs := false) [t11, t12, t13, t5, t6, hi, hi', hwr, hroom, hmany, k7]
      refine round_plan [] [0, 1] [some (.ro (evs l)), some (.arr 43 (evs q))] (m - 1) (by omega) ?_ ?_ ⟨i + 1, by omega, ?_, ?_, ?_, ?_, ?_, ?_⟩ <;> simp [t11, t12, t5, t6, hsuc']
    by_cases k8 : x.k = 8
    · have hsuc' := key (p.1, 3) (by simp [stF, k8])
      simp (implicitDefEqProofs := false) [t11, t12, t13, t5, t6, hi, hi', hwr, hroom, hmany, k8]
      refine round_plan [] [0, 1] [some (.ro (evs l)), some (.arr 43 (evs q))] (m - 1) (by omega) ?_ ?_ ⟨i + 1, by omega, ?_, ?_, ?_, ?_, ?_, ?_⟩ <;> simp [t11, t12, t5, t6, hsuc']
    by_cases k9 : x.k = 9
    · have hsuc' := key (p.1, 4) (by simp [stF, k9])
      simp (implicitDefEqProofs := false) [t11, t12, t13, t5, t6, hi, hi', hwr, hroom, hmany, k9]
      refine round_plan [] [0, 1] [some (.ro (evs l)), some (.arr 43 (evs q))] (m - 1) (by omega) ?_ ?_ ⟨i + 1, by omega, ?_, ?_, ?_, ?_, ?_, ?_⟩ <;> simp [t11, t12, t5, t6, hsuc']
    · have hsuc' := key p (by simp [stF, k1, k7, k8, k9])
      simp (implicitDefEqProofs := false) [t11, t12, t13, t5, t6, hi, hi', hwr, hroom, hmany, k1, k7, k8, k9]
      refine round_plan [] [0, 1] [some (.ro (evs l)), some (.arr 43 (evs q))] (m - 1) (by omega) ?_ ?_ ⟨i + 1, by omega, ?_, ?_, ?_, ?_, ?_, ?_⟩ <;> simp [t11, t12, t5, t6, hsuc']
  · have hie : i = N := by omega
    have hi' : ¬ (i : Int) < N := by omega
    have htq : q.take i = q := by rw [hie, ← hN]; exact List.take_length
    rw [htq] at t5 t6
    unfold stC
    generalize q.foldl stF (false, 1) = p at *
    cases hp : p.1 with
    | true =>
      simp (implicitDefEqProofs := false) [t11, t12, t13, t5, t6, hi', hp]
      refine ends_plan [] [0] ?_ ?_ ?_ <;> simp
    | false =>
      simp (implicitDefEqProofs := false) [t11, t12, t13, t5, t6, hi', hp]
      refine ends_plan [] [0] ?_ ?_ ?_ <;> simp
def r12 : RStep
  | l, [.int .i64 a] => some (l.length ≤ 1000, .int .u8 (stateS l a))
  | _, _ => none
theorem st12_ok : CStepOk Tryd.prog cfg 12 (rdSt r12) := rd_ok fun l n c rest p v hn h hp => by
  unfold r12 at h
  split at h
  · cases h
    rw [List.length_take] at hp
    exact ⟨rfl, rfl, runs12 l n c _ hn (by omega)⟩
  · cases h

def endedS (l : List Ev) (i : Nat) (a : Int) : Bool := (l.take i).any fun x => decide (x.a = a) && endE x
theorem ended_succ {l : List Ev} {i : Nat} {x : Ev} (h : l[i]? = some x) (a : Int) : endedS l (i + 1) a = (endedS l i a || (decide (x.a = a) && endE x)) := by
  unfold endedS
  rw [take_snoc h]
  simp
theorem drop_at {l : List Ev} {i n : Nat} {x : Ev} (h : l[i]? = some x) (hi : i < n) : (l.take n).drop i = x :: (l.take n).drop (i + 1) := by
  have h1 : (l.take n)[i]? = some x := by rw [List.getElem?_take, if_pos hi, h]
  have h2 := (List.getElem?_eq_some_iff.1 h1).1
  rw [List.drop_eq_getElem_cons h2]
  congr 1
  rw [List.getElem?_eq_getElem h2] at h1
  exact Option.some.inj h1
def befI (l : List Ev) (n c : Nat) (a b : Int) (m : Nat) (tm : Nat → Value) (H : AH GD) : Prop := ∃ i : Nat, m + i = n ∧ i ≤ n ∧ beforeS (l.take n) a b = beforeG (endedS l i a) ((l.take n).drop i) a b ∧ tm 1 = .int .i64 a ∧ tm 2 = .int .i64 b ∧ tm 10 = .slice (some ⟨0, 0, none⟩) n c ∧ tm 11 = .int .i64 n ∧ tm 12 = .int .i64 i ∧ tm 7 = .bool (endedS l i a) ∧ H = AH.of [some (.ro (evs l))]
set_option maxHeartbeats 8000000 in
theorem runs13 (l : List Ev) (n c : Nat) (a b : Int) (hn : n ≤ l.length) (hs : n ≤ 1000) : Runs Tryd.prog cfg 13 [.slice (some ⟨0, 0, none⟩) n c, .int .i64 a, .int .i64 b] (AH.of [some (.ro (evs l))])
    fun r H' => r = .ret (.bool (beforeS (l.take n) a b)) ∧ H' = AH.of [some (.ro (evs l))] := by
  refine Runs.ends ?_
  refine runs_by (tbl := []) (by simp) 1001 0 (af := a13) rfl ?_
  rw [a13, b13, run_eq]
  refine ⟨by simp, ?_⟩
  simp (implicitDefEqProofs := false)
  refine loop_view (sg_mono gX_ok (tabS_ok (by simp)) _ _ noY noY_mono) (befI l n c a b) (m := n) ?_ (by omega) ?_
  · refine round_plan [] [0] [some (.ro (evs l))] n (by omega) ?_ ?_ ⟨0, ?_⟩ <;> simp [endedS, beforeS]
  rintro m tm H ⟨i, hm, hin, hb4, t1, t2, t10, t11, t12, t7, rfl⟩
  by_cases hi : i < n
  · obtain ⟨x, hx⟩ : ∃ x, l[i]? = some x := ⟨l[i]'(by omega), List.getElem?_eq_getElem (by omega)⟩
    have hi' : (i : Int) < n := by omega
    have hwr := inc_i64 hi (by omega)
    have hsuc := ended_succ hx a
    have hroom := evs_room (show i < l.length by omega)
    have hmany := many_evs' hx
    rw [drop_at hx hi, beforeG] at hb4
    rw [← hsuc] at hb4
    by_cases hbb : x.a = b ∧ x.k = 1
    · rw [if_pos hbb] at hb4
      simp (implicitDefEqProofs := false) [t1, t2, t10, t11, t12, t7, hi, hi', hwr, hroom, hmany, hbb.1, hbb.2]
      refine ends_plan [] [0] ?_ ?_ ?_ <;> simp [hb4]
    · rw [if_neg hbb] at hb4
      have fin : ∀ tm' : Nat → Value, tm' 1 = .int .i64 a → tm' 2 = .int .i64 b → tm' 10 = .slice (some ⟨0, 0, none⟩) n c → tm' 11 = .int .i64 n → tm' 12 = .int .i64 ((i + 1 : Nat) : Int) → tm' 7 = .bool (endedS l (i + 1) a) →
          (befI l n c a b) (m - 1) tm' (AH.of [some (.ro (evs l))]) := fun tm' e1 e2 e10 e11 e12 e7 =>
        ⟨i + 1, by omega, by omega, hb4, e1, e2, e10, e11, e12, e7, rfl⟩
      have go : ∀ e : Bool, (decide (x.a = a) && endE x) = e → endedS l (i + 1) a = (endedS l i a || e) := fun e h => by rw [hsuc, h]
      by_cases hxb : x.a = b
      · have h1 : ¬ x.k = 1 := fun h => hbb ⟨hxb, h⟩
        by_cases hxa : x.a = a
        · by_cases h8 : x.k = 8
          · have hg := go true (by simp [hxa, endE, h8])
            obtain rfl : b = a := by omega
            simp (implicitDefEqProofs := false) [t1, t2, t10, t11, t12, t7, hi, hi', hwr, hroom, hmany, hxa, h8]
            refine round_plan [] [0] [some (.ro (evs l))] (m - 1) (by omega) ?_ ?_ (fin _ ?_ ?_ ?_ ?_ ?_ ?_) <;> simp [t1, t2, t10, t11, t7, hg]
          · by_cases h9 : x.k = 9
            · have hg := go true (by simp [hxa, endE, h9])
              obtain rfl : b = a := by omega
              simp (implicitDefEqProofs := false) [t1, t2, t10, t11, t12, t7, hi, hi', hwr, hroom, hmany, hxa, h9]
              refine round_plan [] [0] [some (.ro (evs l))] (m - 1) (by omega) ?_ ?_ (fin _ ?_ ?_ ?_ ?_ ?_ ?_) <;> simp [t1, t2, t10, t11, t7, hg]
            · have hg := go false (by simp [hxa, endE, h8, h9])
              obtain rfl : b = a := by omega
              simp (implicitDefEqProofs := false) [t1, t2, t10, t11, t12, t7, hi, hi', hwr, hroom, hmany, hxa, h1, h8, h9]
              refine round_plan [] [0] [some (.ro (evs l))] (m - 1) (by omega) ?_ ?_ (fin _ ?_ ?_ ?_ ?_ ?_ ?_) <;> simp [t1, t2, t10, t11, t7, hg]
        · have hg := go false (by simp [hxa])
          have hba : ¬ b = a := by omega
          simp (implicitDefEqProofs := false) [t1, t2, t10, t11, t12, t7, hi, hi', hwr, hroom, hmany, hxb, hxa, hba, h1]
          refine round_plan [] [0] [some (.ro (evs l))] (m - 1) (by omega) ?_ ?_ (fin _ ?_ ?_ ?_ ?_ ?_ ?_) <;> simp [t1, t2, t10, t11, t7, hg]
      · by_cases hxa : x.a = a
        · have hba : ¬ a = b := by omega
          by_cases h8 : x.k = 8
          · have hg := go true (by simp [hxa, endE, h8])
            simp (implicitDefEqProofs := false) [t1, t2, t10, t11, t12, t7, hi, hi', hwr, hroom, hmany, hxb, hxa, hba, h8]
            refine round_plan [] [0] [some (.ro (evs l))] (m - 1) (by omega) ?_ ?_ (fin _ ?_ ?_ ?_ ?_ ?_ ?_) <;> simp [t1, t2, t10, t11, t7, hg]
          · by_cases h9 : x.k = 9
            · have hg := go true (by simp [hxa, endE, h9])
              simp (implicitDefEqProofs := false) [t1, t2, t10, t11, t12, t7, hi, hi', hwr, hroom, hmany, hxb, hxa, hba, h9]
              refine round_plan [] [0] [some (.ro (evs l))] (m - 1) (by omega) ?_ ?_ (fin _ ?_ ?_ ?_ ?_ ?_ ?_) <;> simp [t1, t2, t10, t11, t7, hg]
            · have hg := go false (by simp [hxa, endE, h8, h9])
              simp (implicitDefEqProofs := false) [t1, t2, t10, t11, t12, t7, hi, hi', hwr, hroom, hmany, hxb, hxa, hba, h8, h9]
              refine round_plan [] [0] [some (.ro (evs l))] (m - 1) (by omega) ?_ ?_ (fin _ ?_ ?_ ?_ ?_ ?_ ?_) <;> simp [t1, t2, t10, t11, t7, hg]
        · have hg := go false (by simp [hxa])
          simp (implicitDefEqProofs := false) [t1, t2, t10, t11, t12, t7, hi, hi', hwr, hroom, hmany, hxb, hxa]
          refine round_plan [] [0] [some (.ro (evs l))] (m - 1) (by omega) ?_ ?_ (fin _ ?_ ?_ ?_ ?_ ?_ ?_) <;> simp [t1, t2, t10, t11, t7, hg]
  · have hie : i = n := by omega
    have hi' : ¬ (i : Int) < n := by omega
    have hd : (l.take n).drop i = [] := List.drop_eq_nil_of_le (by rw [List.length_take]; omega)
    rw [hd, beforeG] at hb4
    simp (implicitDefEqProofs := false) [t1, t2, t10, t11, t12, t7, hi', hb4]
    refine ends_plan [] [0] ?_ ?_ ?_ <;> simp
def r13 : RStep
  | l, [.int .i64 a, .int .i64 b] => some (l.length ≤ 1000, .bool (beforeS l a b))
  | _, _ => none
theorem st13_ok : CStepOk Tryd.prog cfg 13 (rdSt r13) := rd_ok fun l n c rest p v hn h hp => by
  unfold r13 at h
  split at h
  · cases h
    rw [List.length_take] at hp
    exact ⟨rfl, rfl, runs13 l n c _ _ hn (by omega)⟩
  · cases h
end YtmhkpababjdnbaaDoor
end Go.Proofs
/-
  The document's history: act, own, seen.
-/
set_option linter.unusedSimpArgs false
set_option linter.unusedVariables false
set_option linter.unnecessarySimpa false
set_option linter.unusedSectionVars false
namespace Go.Proofs
namespace YtmhkpababjdnbaaDoor
open Go.Abs
set_option linter.unusedSimpArgs false

def tblA8 : List (FuncId × CStep GD) := [(77, dataSt d77), (78, dataSt d78), (79, dataSt d79), (80, dataSt d80)]
theorem tblA8_ok : ∀ x ∈ tblA8, CStepOk Tryd.prog cfg x.1 x.2 := by simp [tblA8, st77_ok, st78_ok, st79_ok, st80_ok]
theorem fs_len {f : List Pr} {r : List (List Pr)} (h : GoodFs (f :: r)) : r.length ≤ 4 := by have := h.1.2.1; simp at this; omega
theorem act_good {fs : List (List Pr)} {x : Ev} (h : GoodFs fs) : GoodFs (actS fs x).2 := by
  unfold actS
  cases fs with
  | nil => exact absurd rfl h.1.1
  | cons f r =>
    have hl := fs_len h
    simp only
    split
    · simp only
      split
      · rename_i hc; exact fs_put h hc
      · exact h
    · split
      · simp only
        split
        · exact h
        · exact fs_push h (by simp; omega)
      · split
        · simp only
          split
          · exact h
          · rename_i hr
            obtain ⟨g, r', rfl⟩ : ∃ g r', r = g :: r' := by
              cases r with
              | nil => exact absurd rfl hr
              | cons g r' => exact ⟨g, r', rfl⟩
            exact fs_drop h
        · split
          · cases r with
            | nil => exact h
            | cons g r' => exact fs_merge h
          · exact h
set_option maxHeartbeats 4000000 in
theorem runs65 (fs : List (List Pr)) (x : Ev) (h : GoodFs fs) (hv : 0 ≤ x.v ∧ x.v < 18446744073709551616) : Runs Tryd.prog cfg 65 [.pointer (some ⟨0, 0, none⟩), .agg #[.int .u8 x.k, .int .i64 x.a, .int .i64 x.t, .int .u64 x.v]] (AH.of [some (.hi (.rlog fs))])
    fun r H' => r = .ret (.int .i64 (actS fs x).1) ∧ H' = AH.of [some (.hi (.rlog (actS fs x).2))] := by
  refine Runs.ends ?_
  cases fs with
  | nil => exact absurd rfl h.1.1
  | cons f r =>
    have hl := fs_len h
    refine runs_by (tbl := tblA8) tblA8_ok 0 0 (af := a65) rfl ?_
    rw [a65, b65, run_eq]
    refine ⟨by simp, ?_⟩
    by_cases k3 : x.k = 3
    · by_cases hc : putCode f r x.t x.v = 0
      · have e : actS (f :: r) x = (0, putF f ⟨x.t, x.v⟩ :: r) := by simp [actS, k3, hc]
        rw [e]
        simp (implicitDefEqProofs := false) [tblA8, dataSt, d77, h, hv, k3, hc]
        refine ends_plan [] [0] ?_ ?_ ?_ <;> simp
      · have e : actS (f :: r) x = (putCode f r x.t x.v, f :: r) := by simp [actS, k3, hc]
        rw [e]
        simp (implicitDefEqProofs := false) [tblA8, dataSt, d77, h, hv, k3, hc]
        refine ends_plan [] [0] ?_ ?_ ?_ <;> simp
    by_cases k4 : x.k = 4
    · have hl1 : r.length ≤ 100 := by omega
      by_cases hc : 4 ≤ r.length
      · have e : actS (f :: r) x = (4, f :: r) := by simp [actS, k3, k4, hc]
        rw [e]
        simp (implicitDefEqProofs := false) [tblA8, dataSt, d78, hl1, k4, hc]
        refine ends_plan [] [0] ?_ ?_ ?_ <;> simp
      · have e : actS (f :: r) x = (0, [] :: f :: r) := by simp [actS, k3, k4, hc]
        rw [e]
        simp (implicitDefEqProofs := false) [tblA8, dataSt, d78, hl1, k4, hc]
        refine ends_plan [] [0] ?_ ?_ ?_ <;> simp
    by_cases k5 : x.k = 5
    · have hl1 : r.length ≤ 100 := by omega
      by_cases hc : r = []
      · have e : actS (f :: r) x = (8, f :: r) := by simp [actS, k3, k4, k5, hc]
        rw [e]
        simp (implicitDefEqProofs := false) [tblA8, dataSt, d79, hl1, k5, hc]
        refine ends_plan [] [0] ?_ ?_ ?_ <;> simp
      · have e : actS (f :: r) x = (0, r) := by simp [actS, k3, k4, k5, hc]
        rw [e]
        simp (implicitDefEqProofs := false) [tblA8, dataSt, d79, hl1, k5, hc]
        refine ends_plan [] [0] ?_ ?_ ?_ <;> simp
    by_cases k6 : x.k = 6
    · cases r with
      | nil =>
        have e : actS [f] x = (8, [f]) := by simp [actS, k3, k4, k5, k6]
        rw [e]
        simp (implicitDefEqProofs := false) [tblA8, dataSt, d80, k6]
        refine ends_plan [] [0] ?_ ?_ ?_ <;> simp
      | cons g r =>
        have e : actS (f :: g :: r) x = (0, mergeF g f :: r) := by simp [actS, k3, k4, k5, k6]
        rw [e]
        simp (implicitDefEqProofs := false) [tblA8, dataSt, d80, h, k6]
        refine ends_plan [] [0] ?_ ?_ ?_ <;> simp
    have e : actS (f :: r) x = (0, f :: r) := by simp [actS, k3, k4, k5, k6]
    rw [e]
    simp (implicitDefEqProofs := false) [tblA8, k3, k4, k5, k6]
    refine ends_plan [] [0] ?_ ?_ ?_ <;> simp
def d65 : DStep
  | .rlog fs, [.agg cs] => match asEvs cs.toList with
    | some [x] => some (GoodFs fs ∧ 0 ≤ x.v ∧ x.v < 18446744073709551616, .int .i64 (actS fs x).1, .rlog (actS fs x).2)
    | _ => none
  | _, _ => none
theorem st65_ok : CStepOk Tryd.prog cfg 65 (dataSt d65) := data_ok fun d rest p v d' h hp => by
  unfold d65 at h
  split at h
  · split at h
    · rename_i fs cs o x hx
      cases h
      have e : cs = (evs [x]).toArray := by rw [← asEvs_inv hx]
      subst e
      exact ⟨rfl, rfl, runs65 _ _ hp.1 hp.2⟩
    · cases h
  · cases h

theorem seen_succ {l : List Ev} {i : Nat} {x : Ev} (h : l[i]? = some x) (a k : Int) : seenS l (i + 1) a k = (seenS l i a k || (decide (x.a = a) && isK k x)) := by
  unfold seenS
  rw [List.take_add_one, h, List.any_append]
  simp
theorem seen_zero (l : List Ev) (a k : Int) : seenS l 0 a k = false := by simp [seenS]
set_option maxHeartbeats 4000000 in
theorem runs51 (l : List Ev) (n c m : Nat) (a k : Int) (hn : n ≤ l.length) (hs : m ≤ n) (hm : m ≤ 1000) : Runs Tryd.prog cfg 51 [.slice (some ⟨0, 0, none⟩) n c, .int .i64 m, .int .i64 a, .int .u8 k] (AH.of [some (.ro (evs l))])
    fun r H' => r = .ret (.bool (seenS l m a k)) ∧ H' = AH.of [some (.ro (evs l))] := by
  refine runs_by (tbl := []) (by simp) 1001 0 (af := a51) rfl ?_
  rw [a51, b51, run_eq]
  refine ⟨by simp, ?_⟩
  simp (implicitDefEqProofs := false)
  refine loop_inv (sg_mono gX_ok (tabS_ok (by simp)) _ _ noY noY_mono) (fun q tm H => ∃ i : Nat, q + i = m ∧ seenS l i a k = false ∧ tm 0 = .slice (some ⟨0, 0, none⟩) n c ∧ tm 1 = .int .i64 m ∧ tm 2 = .int .i64 a ∧ tm 3 = .int .u8 k ∧ tm 9 = .int .i64 i ∧ H = AH.of [some (.ro (evs l))]) (m := m) ⟨0, by simp [seen_zero]⟩ (by omega) ?_
  rintro q tm H ⟨i, hq, hno, t0, t1, t2, t3, t9, rfl⟩
  by_cases hi : i < m
  · obtain ⟨x, hx⟩ : ∃ x, l[i]? = some x := ⟨l[i]'(by omega), List.getElem?_eq_getElem (by omega)⟩
    have hi' : (i : Int) < m := by omega
    have hin : i < n := by omega
    have hin' : (i : Int) < n := by omega
    have hwr := inc_i64 hi (by omega)
    have hsuc := seen_succ hx a k
    have hroom := evs_room (show i < l.length by omega)
    have hat := evs_at hx
    by_cases ha : x.a = a
    · by_cases hk : x.k = k
      · have hy : seenS l (i + 1) a k = true := by rw [hsuc]; simp [ha, isK, hk]
        have hyy : seenS l m a k = true := by
          unfold seenS at hy ⊢
          rw [List.any_eq_true] at hy ⊢
          obtain ⟨y, h1, h2⟩ := hy
          exact ⟨y, (List.take_subset_take_left l (show i + 1 ≤ m by omega)) h1, h2⟩
        simp (implicitDefEqProofs := false) [t0, t1, t2, t3, t9, hi', hin, hin', hwr, hroom, hat, ha, hk, hyy]
      · simp (implicitDefEqProofs := false) [t0, t1, t2, t3, t9, hi', hin, hin', hwr, hroom, hat, ha, hk]
        exact ⟨q - 1, by omega, i + 1, by omega, by rw [hsuc, hno]; simp [isK, hk], by simp [t0, t1, t2, t3]⟩
    · simp (implicitDefEqProofs := false) [t0, t1, t2, t3, t9, hi', hin, hin', hwr, hroom, hat, ha]
      exact ⟨q - 1, by omega, i + 1, by omega, by rw [hsuc, hno]; simp [ha], by simp [t0, t1, t2, t3]⟩
  · have hie : i = m := by omega
    subst hie
    simp (implicitDefEqProofs := false) [t0, t1, t2, t3, t9, hno]
theorem seen_take {l : List Ev} {n m : Nat} (h : m ≤ n) (a k : Int) : seenS (l.take n) m a k = seenS l m a k := by
  unfold seenS
  rw [List.take_take, Nat.min_eq_left h]
def r51 : RStep
  | l, [.int .i64 m, .int .i64 a, .int .u8 k] => some (0 ≤ m ∧ m ≤ l.length ∧ m ≤ 1000, .bool (seenS l m.toNat a k))
  | _, _ => none
theorem st51_ok : CStepOk Tryd.prog cfg 51 (rdSt r51) := rd_ok fun l n c rest p v hn h hp => by
  unfold r51 at h
  split at h
  · rename_i m a k
    cases h
    obtain ⟨h1, h2, h3⟩ := hp
    rw [List.length_take] at h2
    obtain ⟨i, rfl⟩ : ∃ i : Nat, m = i := ⟨m.toNat, by omega⟩
    refine ⟨rfl, rfl, ?_⟩
    rw [Int.toNat_natCast, seen_take (by omega)]
    exact runs51 l n c i a k hn (by omega) (by omega)
  · cases h
end YtmhkpababjdnbaaDoor
end Go.Proofs
/-
  TRACE: above, CountsOf, Busiest, apart, few.
-/
set_option linter.unusedSimpArgs false
set_option linter.unusedVariables false
set_option linter.unnecessarySimpa false
set_option linter.unusedSectionVars false
namespace Go.Proofs
namespace YtmhkpababjdnbaaDoor
open Go.Abs
set_option linter.unusedSimpArgs false

def ctsV (c : Cts) : Value := .agg #[.int .i64 c.a, .int .i64 c.c, .int .i64 c.b, .int .i64 c.o, .int .i64 c.r, .int .i64 c.w]
theorem countP_succ {α : Type} {A : List α} {i : Nat} {x : α} (h : A[i]? = some x) (p : α → Bool) : (A.take (i + 1)).countP p = (A.take i).countP p + if p x = true then 1 else 0 := by
  rw [List.take_add_one, h, List.countP_append]
  simp [List.countP_cons]
theorem countP_le_i {α : Type} (A : List α) (i : Nat) (p : α → Bool) : (A.take i).countP p ≤ i := by
  have h1 := List.countP_le_length (p := p) (l := A.take i)
  have h2 : (A.take i).length ≤ i := by rw [List.length_take]; omega
  omega
def tblCo : List (FuncId × CStep GD) := [(11, rnSt r11), (12, rdSt r12)]
theorem tblCo_ok : ∀ x ∈ tblCo, CStepOk Tryd.prog cfg x.1 x.2 := by simp [tblCo, st11_ok, st12_ok]
set_option maxHeartbeats 8000000 in
theorem runs10 (l : List Ev) (n c : Nat) (hn : n ≤ l.length) (hs : n ≤ 1000) : Runs Tryd.prog cfg 10 [.slice (some ⟨0, 0, none⟩) n c] (AH.of [some (.ro (evs l))])
    fun r H' => r = .ret (ctsV (countsS (l.take n))) ∧ H' = AH.of [some (.ro (evs l))] := by
  refine Runs.ends ?_
  have hlen : (l.take n).length ≤ 1000 := by rw [List.length_take]; omega
  have hle := atts_le (l.take n)
  unfold countsS
  obtain ⟨A, hA⟩ : ∃ A, attsS (l.take n) = A := ⟨_, rfl⟩
  obtain ⟨f, hf⟩ : ∃ f : Int → Int, (fun a => stateS (l.take n) a) = f := ⟨_, rfl⟩
  have hf' : ∀ a, stateS (l.take n) a = f a := fun a => congrFun hf a
  simp only [hf']
  rw [hA] at hle ⊢
  obtain ⟨N, hN⟩ : ∃ N, A.length = N := ⟨_, rfl⟩
  rw [hN] at hle
  refine runs_by (tbl := tblCo) tblCo_ok 1001 0 (af := a10) rfl ?_
  rw [a10, b10, run_eq]
  refine ⟨by simp, ?_⟩
  simp (implicitDefEqProofs := false) [tblCo, rnSt, r11, hn, hs, hA, hN, hlen]
  refine loop_view (sg_mono gX_ok (tabS_ok tblCo_ok) _ _ noY noY_mono) (fun m tm H => ∃ i : Nat, m + i = N ∧ tm 0 = .slice (some ⟨0, 0, none⟩) n c ∧ tm 2 = .pointer (some ⟨1, 0, none⟩) ∧ tm 3 = .pointer (some ⟨2, 0, none⟩) ∧ tm 9 = .slice (some ⟨3, 0, none⟩) N 1 ∧ tm 10 = .int .i64 N ∧ tm 11 = .int .i64 i ∧
      H = AH.of [some (.ro (evs l)), some (.arr 29 [.int .i64 0, .int .i64 0, .int .i64 0, .int .i64 0, .int .i64 0, .int .i64 0]), some (.arr 29 [.int .i64 i, .int .i64 ((A.take i).countP fun a => decide (f a = 3)), .int .i64 ((A.take i).countP fun a => decide (f a = 4)), .int .i64 ((A.take i).countP fun a => openN (f a)), .int .i64 0, .int .i64 0]), some (.arr 3 (ints A))]) (m := N) ?_ (by omega) ?_
  · refine round_plan [] [0, 1, 2, 3] [some (.ro (evs l)), some (.arr 29 [.int .i64 0, .int .i64 0, .int .i64 0, .int .i64 0, .int .i64 0, .int .i64 0]), some (.arr 29 [.int .i64 0, .int .i64 0, .int .i64 0, .int .i64 0, .int .i64 0, .int .i64 0]), some (.arr 3 (ints A))] N (by omega) ?_ ?_ ⟨0, ?_⟩ <;> simp
  rintro m tm H ⟨i, hm, t0, t2, t3, t9, t10, t11, rfl⟩
  by_cases hi : i < N
  · obtain ⟨x, hx⟩ : ∃ x, A[i]? = some x := ⟨A[i]'(by omega), List.getElem?_eq_getElem (by omega)⟩
    have hi' : (i : Int) < N := by omega
    have hwr := inc_i64 hi (by omega)
    have ux := ints_at hx
    have hc := countP_succ hx fun a => decide (f a = 3)
    have hb := countP_succ hx fun a => decide (f a = 4)
    have ho := countP_succ hx fun a => openN (f a)
    have wc := inc_i64 (i := (A.take i).countP fun a => decide (f a = 3)) (n := 1001) (by have := countP_le_i A i fun a => decide (f a = 3); omega) (by omega)
    have wb := inc_i64 (i := (A.take i).countP fun a => decide (f a = 4)) (n := 1001) (by have := countP_le_i A i fun a => decide (f a = 4); omega) (by omega)
    have wo := inc_i64 (i := (A.take i).countP fun a => openN (f a)) (n := 1001) (by have := countP_le_i A i fun a => openN (f a); omega) (by omega)
    generalize (A.take i).countP (fun a => decide (f a = 3)) = qc at *
    generalize (A.take i).countP (fun a => decide (f a = 4)) = qb at *
    generalize (A.take i).countP (fun a => openN (f a)) = qo at *
    by_cases h3 : f x = 3
    · have h4 : ¬ f x = 4 := by omega
      have hop : openN 3 = false := rfl
      simp only [h3, hop, Bool.false_eq_true, decide_true, if_true, if_false, Nat.add_zero] at hc ho
      simp only [h4, decide_false, Bool.false_eq_true, if_false, Nat.add_zero] at hb
      simp (implicitDefEqProofs := false) [tblCo, rdSt, r12, t0, t2, t3, t9, t10, t11, hi, hi', hwr, ux, hn, hlen, hs, hf', h3, wc]
      refine round_plan [] [0, 1, 2, 3] [some (.ro (evs l)), some (.arr 29 [.int .i64 0, .int .i64 0, .int .i64 0, .int .i64 0, .int .i64 0, .int .i64 0]), some (.arr 29 [.int .i64 ((i + 1 : Nat) : Int), .int .i64 ((qc + 1 : Nat) : Int), .int .i64 qb, .int .i64 qo, .int .i64 0, .int .i64 0]), some (.arr 3 (ints A))] (m - 1) (by omega) ?_ ?_ ⟨i + 1, by omega, ?_, ?_, ?_, ?_, ?_, ?_, ?_⟩ <;> simp [t0, t2, t3, t9, t10, hc, hb, ho]
    · by_cases h4 : f x = 4
      · have hop : openN 4 = false := rfl
        simp only [h4, hop, Bool.false_eq_true, decide_true, if_true, if_false, Nat.add_zero] at hb ho
        simp only [h3, decide_false, Bool.false_eq_true, if_false, Nat.add_zero] at hc
        simp (implicitDefEqProofs := false) [tblCo, rdSt, r12, t0, t2, t3, t9, t10, t11, hi, hi', hwr, ux, hn, hlen, hs, hf', h4, wb]
        refine round_plan [] [0, 1, 2, 3] [some (.ro (evs l)), some (.arr 29 [.int .i64 0, .int .i64 0, .int .i64 0, .int .i64 0, .int .i64 0, .int .i64 0]), some (.arr 29 [.int .i64 ((i + 1 : Nat) : Int), .int .i64 qc, .int .i64 ((qb + 1 : Nat) : Int), .int .i64 qo, .int .i64 0, .int .i64 0]), some (.arr 3 (ints A))] (m - 1) (by omega) ?_ ?_ ⟨i + 1, by omega, ?_, ?_, ?_, ?_, ?_, ?_, ?_⟩ <;> simp [t0, t2, t3, t9, t10, hc, hb, ho]
      · have hop : openN (f x) = true := by simp [openN, h3, h4]
        simp only [hop, if_true] at ho
        simp only [h3, h4, decide_false, Bool.false_eq_true, if_false, Nat.add_zero] at hc hb
        simp (implicitDefEqProofs := false) [tblCo, rdSt, r12, t0, t2, t3, t9, t10, t11, hi, hi', hwr, ux, hn, hlen, hs, hf', h3, h4, wo]
        refine round_plan [] [0, 1, 2, 3] [some (.ro (evs l)), some (.arr 29 [.int .i64 0, .int .i64 0, .int .i64 0, .int .i64 0, .int .i64 0, .int .i64 0]), some (.arr 29 [.int .i64 ((i + 1 : Nat) : Int), .int .i64 qc, .int .i64 qb, .int .i64 ((qo + 1 : Nat) : Int), .int .i64 0, .int .i64 0]), some (.arr 3 (ints A))] (m - 1) (by omega) ?_ ?_ ⟨i + 1, by omega, ?_, ?_, ?_, ?_, ?_, ?_, ?_⟩ <;> simp [t0, t2, t3, t9, t10, hc, hb, ho]
  · have hie : i = N := by omega
    have hi' : ¬ (i : Int) < N := by omega
    have htq : A.take i = A := by rw [hie, ← hN]; exact List.take_length
    rw [htq, hie]
    rw [hie] at hi'
    generalize A.countP (fun a => decide (f a = 3)) = qc at *
    generalize A.countP (fun a => decide (f a = 4)) = qb at *
    generalize A.countP (fun a => openN (f a)) = qo at *
    simp (implicitDefEqProofs := false) [t0, t2, t3, t9, t10, t11, hie, hi']
    refine loop_view (sg_mono gX_ok (tabS_ok tblCo_ok) _ _ noY noY_mono) (fun m tm H => ∃ j : Nat, m + j = n ∧ tm 2 = .pointer (some ⟨1, 0, none⟩) ∧ tm 3 = .pointer (some ⟨2, 0, none⟩) ∧ tm 39 = .slice (some ⟨0, 0, none⟩) n c ∧ tm 40 = .int .i64 n ∧ tm 41 = .int .i64 j ∧
      H = AH.of [some (.ro (evs l)), some (.arr 29 [.int .i64 0, .int .i64 0, .int .i64 0, .int .i64 0, .int .i64 0, .int .i64 0]), some (.arr 29 [.int .i64 N, .int .i64 qc, .int .i64 qb, .int .i64 qo, .int .i64 ((l.take j).countP (isK 2)), .int .i64 ((l.take j).countP (isK 3))]), none]) (m := n) ?_ (by omega) ?_
    · refine round_plan [] [0, 1, 2, 3] [some (.ro (evs l)), some (.arr 29 [.int .i64 0, .int .i64 0, .int .i64 0, .int .i64 0, .int .i64 0, .int .i64 0]), some (.arr 29 [.int .i64 N, .int .i64 qc, .int .i64 qb, .int .i64 qo, .int .i64 0, .int .i64 0]), none] n (by omega) ?_ ?_ ⟨0, ?_⟩ <;> simp [t2, t3]
    rintro m2 tm H ⟨j, hm2, t2, t3, t39, t40, t41, rfl⟩
    by_cases hj : j < n
    · obtain ⟨x, hx⟩ : ∃ x, l[j]? = some x := ⟨l[j]'(by omega), List.getElem?_eq_getElem (by omega)⟩
      have hj' : (j : Int) < n := by omega
      have hwr := inc_i64 hj (by omega)
      have hroom := evs_room (show j < l.length by omega)
      have hmany := many_evs' hx
      have h2 := countP_succ hx (isK 2)
      have h3 := countP_succ hx (isK 3)
      have w2 := inc_i64 (i := (l.take j).countP (isK 2)) (n := 1001) (by have := countP_le_i l j (isK 2); omega) (by omega)
      have w3 := inc_i64 (i := (l.take j).countP (isK 3)) (n := 1001) (by have := countP_le_i l j (isK 3); omega) (by omega)
      generalize (l.take j).countP (isK 2) = q2 at *
      generalize (l.take j).countP (isK 3) = q3 at *
      by_cases k2 : x.k = 2
      · simp [isK, k2] at h2 h3
        simp (implicitDefEqProofs := false) [t2, t3, t39, t40, t41, hj, hj', hwr, hroom, hmany, k2, w2]
        refine round_plan [] [0, 1, 2, 3] [some (.ro (evs l)), some (.arr 29 [.int .i64 0, .int .i64 0, .int .i64 0, .int .i64 0, .int .i64 0, .int .i64 0]), some (.arr 29 [.int .i64 N, .int .i64 qc, .int .i64 qb, .int .i64 qo, .int .i64 ((q2 + 1 : Nat) : Int), .int .i64 q3]), none] (m2 - 1) (by omega) ?_ ?_ ⟨j + 1, by omega, ?_, ?_, ?_, ?_, ?_, ?_⟩ <;> simp [t2, t3, t39, t40, h2, h3]
      · by_cases k3 : x.k = 3
        · simp [isK, k3] at h2 h3
          simp (implicitDefEqProofs := false) [t2, t3, t39, t40, t41, hj, hj', hwr, hroom, hmany, k3, w3]
          refine round_plan [] [0, 1, 2, 3] [some (.ro (evs l)), some (.arr 29 [.int .i64 0, .int .i64 0, .int .i64 0, .int .i64 0, .int .i64 0, .int .i64 0]), some (.arr 29 [.int .i64 N, .int .i64 qc, .int .i64 qb, .int .i64 qo, .int .i64 q2, .int .i64 ((q3 + 1 : Nat) : Int)]), none] (m2 - 1) (by omega) ?_ ?_ ⟨j + 1, by omega, ?_, ?_, ?_, ?_, ?_, ?_⟩ <;> simp [t2, t3, t39, t40, h2, h3]
        · simp [isK, k2, k3] at h2 h3
          simp (implicitDefEqProofs := false) [t2, t3, t39, t40, t41, hj, hj', hwr, hroom, hmany, k2, k3]
          refine round_plan [] [0, 1, 2, 3] [some (.ro (evs l)), some (.arr 29 [.int .i64 0, .int .i64 0, .int .i64 0, .int .i64 0, .int .i64 0, .int .i64 0]), some (.arr 29 [.int .i64 N, .int .i64 qc, .int .i64 qb, .int .i64 qo, .int .i64 q2, .int .i64 q3]), none] (m2 - 1) (by omega) ?_ ?_ ⟨j + 1, by omega, ?_, ?_, ?_, ?_, ?_, ?_⟩ <;> simp [t2, t3, t39, t40, h2, h3]
    · have hje : j = n := by omega
      have hj' : ¬ (j : Int) < n := by omega
      rw [hje] at t41 hj'
      simp (implicitDefEqProofs := false) [t2, t3, t39, t40, t41, hj', hje]
      refine ends_plan [] [0] ?_ ?_ ?_ <;> simp [ctsV]
def r10 : RStep
  | l, [] => some (l.length ≤ 1000, ctsV (countsS l))
  | _, _ => none
theorem st10_ok : CStepOk Tryd.prog cfg 10 (rdSt r10) := rd_ok fun l n c rest p v hn h hp => by
  unfold r10 at h
  split at h
  · cases h
    rw [List.length_take] at hp
    exact ⟨rfl, rfl, runs10 l n c hn (by omega)⟩
  · cases h

def tblBf : List (FuncId × CStep GD) := [(13, rdSt r13)]
theorem tblBf_ok : ∀ x ∈ tblBf, CStepOk Tryd.prog cfg x.1 x.2 := by simp [tblBf, st13_ok]
theorem runs34 (l : List Ev) (n c : Nat) (a b : Int) (hn : n ≤ l.length) (hs : n ≤ 1000) : Runs Tryd.prog cfg 34 [.slice (some ⟨0, 0, none⟩) n c, .int .i64 a, .int .i64 b] (AH.of [some (.ro (evs l))])
    fun r H' => r = .ret (.bool (apartS (l.take n) a b)) ∧ H' = AH.of [some (.ro (evs l))] := by
  refine Runs.ends ?_
  have hlen : (l.take n).length ≤ 1000 := by rw [List.length_take]; omega
  unfold apartS
  obtain ⟨q, hq⟩ : ∃ q, l.take n = q := ⟨_, rfl⟩
  rw [hq] at hlen ⊢
  refine runs_by (tbl := tblBf) tblBf_ok 0 0 (af := a34) rfl ?_
  rw [a34, b34, run_eq]
  refine ⟨by simp, ?_⟩
  cases he : beforeS q a b with
  | true =>
    simp (implicitDefEqProofs := false) [tblBf, rdSt, r13, hn, hlen, hq, he]
    refine ends_plan [] [0] ?_ ?_ ?_ <;> simp
  | false =>
    simp (implicitDefEqProofs := false) [tblBf, rdSt, r13, hn, hlen, hq, he]
    refine ends_plan [] [0] ?_ ?_ ?_ <;> simp
def r34 : RStep
  | l, [.int .i64 a, .int .i64 b] => some (l.length ≤ 1000, .bool (apartS l a b))
  | _, _ => none
theorem st34_ok : CStepOk Tryd.prog cfg 34 (rdSt r34) := rd_ok fun l n c rest p v hn h hp => by
  unfold r34 at h
  split at h
  · cases h
    rw [List.length_take] at hp
    exact ⟨rfl, rfl, runs34 l n c _ _ hn (by omega)⟩
  · cases h

theorem runs7 (l : List Ev) (n c : Nat) (hn : n ≤ l.length) (hc : c ≤ 1) : Runs Tryd.prog cfg 7 [.slice (some ⟨0, 0, none⟩) n c] (AH.of [some (.ro (evs l))])
    fun r H' => r = .ret (.slice (some ⟨0, 0, none⟩) (if 60 < n then 60 else n) c) ∧ H' = AH.of [some (.ro (evs l))] := by
  refine Runs.ends ?_
  refine runs_by (tbl := []) (by simp) 0 0 (af := a7) rfl ?_
  rw [a7, b7, run_eq]
  refine ⟨by simp, ?_⟩
  by_cases h : 60 < n
  · have h' : (60 : Int) < n := by omega
    have h2 : (60 : Int) ≤ n := by omega
    simp (implicitDefEqProofs := false) [h, h', h2, bound]
    refine ends_plan [] [0] ?_ ?_ ?_ <;> simp
  · have h' : ¬ (60 : Int) < n := by omega
    simp (implicitDefEqProofs := false) [h, h']
    refine ends_plan [] [0] ?_ ?_ ?_ <;> simp
def st7 : CStep GD := fun args H => match args with
  | [.slice (some ⟨k, 0, none⟩) n c] => match getEvs H k with
    | some l => some (n ≤ l.length ∧ c ≤ 1, .ret (.slice (some ⟨k, 0, none⟩) (if 60 < n then 60 else n) c), H)
    | none => none
  | _ => none
theorem st7_ok : CStepOk Tryd.prog cfg 7 st7 := by
  intro args H p r H' h hp
  unfold st7 at h
  split at h
  case h_2 => cases h
  split at h
  case h_2 => cases h
  rename_i k n c _ l hl
  cases h
  rcases getEvs_inv hl with hk | ⟨e, hk⟩
  · exact (runs7 l n c hp.1 hp.2).atK (ro_same fun i cs hi => by rcases i with _ | _ | i <;> simp at hi ⊢; exact hi) [k] (by simp) (by simp) (by simp [hk]) (by simp) (by simp) (by simp [upd_get hk])
  · refine Runs.borrow k hk ?_
    have hk2 : (H.upd k (.ro (evs l))).get k = some (.ro (evs l)) := by rw [AH.get_upd, if_pos rfl]
    have hr2 := (runs7 l n c hp.1 hp.2).atK (H := H.upd k (.ro (evs l))) (args := [.slice (some ⟨k, 0, none⟩) n c]) (r' := .ret (.slice (some ⟨k, 0, none⟩) (if 60 < n then 60 else n) c)) (H' := H.upd k (.ro (evs l))) (ro_same fun i cs hi => by rcases i with _ | _ | i <;> simp at hi ⊢; exact hi) [k] (by simp) (by simp) (by simp [hk2]) (by simp) (by simp) (by simp [upd_get hk2])
    refine hr2.mono ?_
    rintro r H' ⟨e1, rfl⟩
    refine ⟨hk2, fun j cs2 hj hcs hne => ⟨cs2, ?_, hne⟩, e1, ?_⟩
    · rw [AH.get_upd, if_neg hj] at hcs; exact hcs
    · rw [upd_upd, upd_get hk]
end YtmhkpababjdnbaaDoor
end Go.Proofs
/-
  TRACE: Busiest, Merge.
-/
set_option linter.unusedSimpArgs false
set_option linter.unusedVariables false
set_option linter.unnecessarySimpa false
set_option linter.unusedSectionVars false
namespace Go.Proofs
namespace YtmhkpababjdnbaaDoor
open Go.Abs
set_option linter.unusedSimpArgs false

def cntP (t : Nat) (x : Ev) : Bool := rw x && decide (x.t = (t : Int))
def cntL (l : List Ev) : List Int := (List.range 12).map fun t => ((l.countP (cntP t) : Nat) : Int)
theorem cntL_len (l : List Ev) : (cntL l).length = 12 := by simp [cntL]
theorem cntL_at (l : List Ev) {t : Nat} (h : t < 12) : (cntL l)[t]? = some ((l.countP (cntP t) : Nat) : Int) := by simp [cntL, h]
theorem cntL_other {l : List Ev} {i : Nat} {x : Ev} (h : l[i]? = some x) (hx : ¬ (rw x = true ∧ 0 ≤ x.t ∧ x.t < 12)) : cntL (l.take (i + 1)) = cntL (l.take i) := by
  unfold cntL
  refine List.map_congr_left fun t ht => ?_
  have ht := List.mem_range.1 ht
  rw [countP_succ h, if_neg, Nat.add_zero]
  intro hc
  simp only [cntP, Bool.and_eq_true, decide_eq_true_eq] at hc
  exact hx ⟨hc.1, by omega, by omega⟩
theorem cntL_set {l : List Ev} {i : Nat} {x : Ev} (h : l[i]? = some x) (hr : rw x = true) {t : Nat} (ht : x.t = t) (ht2 : t < 12) : (cntL (l.take i)).set t ((((l.take i).countP (cntP t) : Nat) : Int) + 1) = cntL (l.take (i + 1)) := by
  refine List.ext_getElem? fun j => ?_
  rw [List.getElem?_set]
  by_cases hj : j < 12
  · rw [cntL_at (l.take (i + 1)) hj, countP_succ h]
    by_cases hjt : t = j
    · subst hjt
      rw [if_pos rfl, if_pos (by rw [cntL_len]; exact hj), if_pos (by simp [cntP, hr, ht])]
      congr 1
    · rw [if_neg hjt, cntL_at _ hj, if_neg]
      · rfl
      · intro hc
        simp only [cntP, Bool.and_eq_true, decide_eq_true_eq] at hc
        omega
  · rw [List.getElem?_eq_none (l := cntL (l.take (i + 1))) (by rw [cntL_len]; omega)]
    rw [if_neg (by omega), List.getElem?_eq_none (by rw [cntL_len]; omega)]
/-- Where most are, of the first i. -/
def atF (c : List Int) (p t : Nat) : Nat := if c.getD t 0 > c.getD p 0 then t else p
def atS (c : List Int) (i : Nat) : Nat := (List.range i).foldl (atF c) 0
theorem atS_succ (c : List Int) (i : Nat) : atS c (i + 1) = if c.getD i 0 > c.getD (atS c i) 0 then i else atS c i := by
  unfold atS
  rw [List.range_succ, List.foldl_append]
  rfl
theorem atS_lt (c : List Int) (i : Nat) : atS c i ≤ i := by
  induction i with
  | zero => simp [atS]
  | succ i ih =>
    rw [atS_succ]
    split <;> omega
def busyV (l : List Ev) : Value := .tuple #[.int .i64 (atS (cntL l) 12), .bool (decide ((cntL l).getD (atS (cntL l) 12) 0 > 0))]
theorem ints_getD {c : List Int} {t : Nat} (h : t < c.length) : (ints c)[t]? = some (.int .i64 (c.getD t 0)) := by
  have : c[t]? = some (c.getD t 0) := by rw [List.getD_eq_getElem?_getD, List.getElem?_eq_getElem h]; rfl
  exact ints_at this
set_option maxHeartbeats 8000000 in
theorem runs20 (l : List Ev) (n c : Nat) (hn : n ≤ l.length) (hs : n ≤ 1000) : Runs Tryd.prog cfg 20 [.slice (some ⟨0, 0, none⟩) n c] (AH.of [some (.ro (evs l))])
    fun r H' => r = .ret (busyV (l.take n)) ∧ H' = AH.of [some (.ro (evs l))] := by
  refine Runs.ends ?_
  refine runs_by (tbl := []) (by simp) 1001 0 (af := a20) rfl ?_
  rw [a20, b20, run_eq]
  refine ⟨by simp, ?_⟩
  simp (implicitDefEqProofs := false)
  refine loop_view (sg_mono gX_ok (tabS_ok (by simp)) _ _ noY noY_mono) (fun m tm H => ∃ i : Nat, m + i = n ∧ tm 4 = .pointer (some ⟨1, 0, none⟩) ∧ tm 9 = .slice (some ⟨0, 0, none⟩) n c ∧ tm 10 = .int .i64 n ∧ tm 11 = .int .i64 i ∧ H = AH.of [some (.ro (evs l)), some (.arr 62 (ints (cntL (l.take i))))]) (m := n) ?_ (by omega) ?_
  · have h0 : cntL [] = [0, 0, 0, 0, 0, 0, 0, 0, 0, 0, 0, 0] := by decide
    refine round_plan [] [0, 1] [some (.ro (evs l)), some (.arr 62 (ints (cntL [])))] n (by omega) ?_ ?_ ⟨0, ?_⟩ <;> simp [h0, ints]
  rintro m tm H ⟨i, hm, t4, t9, t10, t11, rfl⟩
  by_cases hi : i < n
  · obtain ⟨x, hx⟩ : ∃ x, l[i]? = some x := ⟨l[i]'(by omega), List.getElem?_eq_getElem (by omega)⟩
    have hi' : (i : Int) < n := by omega
    have hwr := inc_i64 hi (by omega)
    have hroom := evs_room (show i < l.length by omega)
    have hmany := many_evs' hx
    by_cases hc : rw x = true ∧ 0 ≤ x.t ∧ x.t < 12
    · obtain ⟨t, ht⟩ : ∃ t : Nat, x.t = t := ⟨x.t.toNat, by omega⟩
      have ht2 : t < 12 := by omega
      have hset := cntL_set hx hc.1 ht ht2
      have hcl := cntL_len (l.take i)
      have hat : (ints (cntL (l.take i)))[t]? = some (.int .i64 (((l.take i).countP (cntP t) : Nat) : Int)) := ints_at (cntL_at _ ht2)
      have hget := ints_get (cntL_at (l.take i) ht2)
      have wc := inc_i64 (i := (l.take i).countP (cntP t)) (n := 1001) (by have := countP_le_i l i (cntP t); omega) (by omega)
      have hset2 : (ints (cntL (l.take i))).set t (.int .i64 ((((l.take i).countP (cntP t) + 1 : Nat)) : Int)) = ints (cntL (l.take (i + 1))) := by
        rw [← hset]
        simp only [ints, List.map_set]
        rfl
      have hset3 : (ints (cntL (l.take i))).set t (.int .i64 ((((l.take i).countP (cntP t) : Nat) : Int) + 1)) = ints (cntL (l.take (i + 1))) := hset2
      generalize (l.take i).countP (cntP t) = q at *
      generalize cntL (l.take i) = cl at *
      have h0t : (0 : Int) ≤ t := by omega
      have h12t : (t : Int) < 12 := by omega
      have hroom2 : t ≤ 11 := by omega
      have hk : x.k = 2 ∨ x.k = 3 := by simpa [rw, isK] using hc.1
      rcases hk with hk | hk
      · simp (implicitDefEqProofs := false) [t4, t9, t10, t11, hi, hi', hwr, hroom, hmany, hk, ht, h0t, h12t, hat, hget, wc, hcl, ht2, hset2, hroom2]
        refine round_plan [] [0, 1] [some (.ro (evs l)), some (.arr 62 (ints (cntL (l.take (i + 1)))))] (m - 1) (by omega) ?_ ?_ ⟨i + 1, by omega, ?_, ?_, ?_, ?_, rfl⟩ <;> simp [t4, t9, t10, hset3]
      · simp (implicitDefEqProofs := false) [t4, t9, t10, t11, hi, hi', hwr, hroom, hmany, hk, ht, h0t, h12t, hat, hget, wc, hcl, ht2, hset2, hroom2]
        refine round_plan [] [0, 1] [some (.ro (evs l)), some (.arr 62 (ints (cntL (l.take (i + 1)))))] (m - 1) (by omega) ?_ ?_ ⟨i + 1, by omega, ?_, ?_, ?_, ?_, rfl⟩ <;> simp [t4, t9, t10, hset3]
    · have hoth := cntL_other hx hc
      rw [← hoth]
      by_cases hk2 : x.k = 2
      · have hr : rw x = true := by simp [rw, isK, hk2]
        by_cases h0 : 0 ≤ x.t
        · have h12 : ¬ x.t < 12 := fun h => hc ⟨hr, h0, h⟩
          simp (implicitDefEqProofs := false) [t4, t9, t10, t11, hi, hi', hwr, hroom, hmany, hk2, h0, h12]
          refine round_plan [] [0, 1] [some (.ro (evs l)), some (.arr 62 (ints (cntL (l.take (i + 1)))))] (m - 1) (by omega) ?_ ?_ ⟨i + 1, by omega, ?_, ?_, ?_, ?_, rfl⟩ <;> simp [t4, t9, t10]
        · simp (implicitDefEqProofs := false) [t4, t9, t10, t11, hi, hi', hwr, hroom, hmany, hk2, h0]
          refine round_plan [] [0, 1] [some (.ro (evs l)), some (.arr 62 (ints (cntL (l.take (i + 1)))))] (m - 1) (by omega) ?_ ?_ ⟨i + 1, by omega, ?_, ?_, ?_, ?_, rfl⟩ <;> simp [t4, t9, t10]
      · by_cases hk3 : x.k = 3
        · have hr : rw x = true := by simp [rw, isK, hk3]
          by_cases h0 : 0 ≤ x.t
          · have h12 : ¬ x.t < 12 := fun h => hc ⟨hr, h0, h⟩
            simp (implicitDefEqProofs := false) [t4, t9, t10, t11, hi, hi', hwr, hroom, hmany, hk3, h0, h12]
            refine round_plan [] [0, 1] [some (.ro (evs l)), some (.arr 62 (ints (cntL (l.take (i + 1)))))] (m - 1) (by omega) ?_ ?_ ⟨i + 1, by omega, ?_, ?_, ?_, ?_, rfl⟩ <;> simp [t4, t9, t10]
          · simp (implicitDefEqProofs := false) [t4, t9, t10, t11, hi, hi', hwr, hroom, hmany, hk3, h0]
            refine round_plan [] [0, 1] [some (.ro (evs l)), some (.arr 62 (ints (cntL (l.take (i + 1)))))] (m - 1) (by omega) ?_ ?_ ⟨i + 1, by omega, ?_, ?_, ?_, ?_, rfl⟩ <;> simp [t4, t9, t10]
        · simp (implicitDefEqProofs := false) [t4, t9, t10, t11, hi, hi', hwr, hroom, hmany, hk2, hk3]
          refine round_plan [] [0, 1] [some (.ro (evs l)), some (.arr 62 (ints (cntL (l.take (i + 1)))))] (m - 1) (by omega) ?_ ?_ ⟨i + 1, by omega, ?_, ?_, ?_, ?_, rfl⟩ <;> simp [t4, t9, t10]
  · have hie : i = n := by omega
    rw [hie] at t11 ⊢
    have hi' : ¬ (n : Int) < n := by omega
    have hcl := cntL_len (l.take n)
    unfold busyV
    generalize cntL (l.take n) = cl at *
    simp (implicitDefEqProofs := false) [t4, t9, t10, t11, hi']
    refine loop_view (sg_mono gX_ok (tabS_ok (by simp)) _ _ noY noY_mono) (fun m tm H => ∃ j : Nat, m + j = 12 ∧ tm 4 = .pointer (some ⟨1, 0, none⟩) ∧ tm 7 = .int .i64 (atS cl j) ∧ tm 40 = .int .i64 j ∧ H = AH.of [some (.ro (evs l)), some (.arr 62 (ints cl))]) (m := 12) ?_ (by omega) ?_
    · refine round_plan [] [0, 1] [some (.ro (evs l)), some (.arr 62 (ints cl))] 12 (by omega) ?_ ?_ ⟨0, ?_⟩ <;> simp [t4, atS]
    rintro m2 tm H ⟨j, hm2, t4, t7, t40, rfl⟩
    have hal := atS_lt cl j
    by_cases hj : j < 12
    · have hj' : (j : Int) < 12 := by omega
      have hwr := inc_i64 hj (by omega)
      have hsuc := atS_succ cl j
      generalize atS cl j = p at *
      have u1 := ints_getD (c := cl) (t := j) (by omega)
      have u2 := ints_getD (c := cl) (t := p) (by omega)
      have hp' : (p : Int) < 12 := by omega
      generalize cl.getD j 0 = vj at *
      generalize cl.getD p 0 = vp at *
      by_cases hv : vj > vp
      · rw [if_pos hv] at hsuc
        have hv' : vp < vj := hv
        simp (implicitDefEqProofs := false) [t4, t7, t40, hj, hj', hwr, u1, u2, hp', hv']
        refine round_plan [] [0, 1] [some (.ro (evs l)), some (.arr 62 (ints cl))] (m2 - 1) (by omega) ?_ ?_ ⟨j + 1, by omega, ?_, ?_, ?_, rfl⟩ <;> simp [t4, hsuc]
      · rw [if_neg hv] at hsuc
        have hv' : ¬ vp < vj := hv
        simp (implicitDefEqProofs := false) [t4, t7, t40, hj, hj', hwr, u1, u2, hp', hv']
        refine round_plan [] [0, 1] [some (.ro (evs l)), some (.arr 62 (ints cl))] (m2 - 1) (by omega) ?_ ?_ ⟨j + 1, by omega, ?_, ?_, ?_, rfl⟩ <;> simp [t4, t7, hsuc]
    · have hje : j = 12 := by omega
      subst hje
      have hlt : atS cl 12 < 12 := by
        have : atS cl 12 = if cl.getD 11 0 > cl.getD (atS cl 11) 0 then 11 else atS cl 11 := atS_succ cl 11
        have := atS_lt cl 11
        split at * <;> omega
      generalize atS cl 12 = p at *
      have u2 := ints_getD (c := cl) (t := p) (by omega)
      have hp' : (p : Int) < 12 := by omega
      simp (implicitDefEqProofs := false) [t4, t7, t40, u2, hp']
      refine ends_plan [] [0] ?_ ?_ ?_ <;> simp
def r20 : RStep
  | l, [] => some (l.length ≤ 1000, busyV l)
  | _, _ => none
theorem st20_ok : CStepOk Tryd.prog cfg 20 (rdSt r20) := rd_ok fun l n c rest p v hn h hp => by
  unfold r20 at h
  split at h
  · cases h
    rw [List.length_take] at hp
    exact ⟨rfl, rfl, runs20 l n c hn (by omega)⟩
  · cases h
end YtmhkpababjdnbaaDoor
end Go.Proofs
/-
  TRACE: Right: what is known of the attempts' map.
-/
set_option linter.unusedSimpArgs false
set_option linter.unusedVariables false
set_option linter.unnecessarySimpa false
set_option linter.unusedSectionVars false
namespace Go.Proofs
namespace YtmhkpababjdnbaaDoor
open Go.Abs
set_option linter.unusedSimpArgs false

theorem putIn_new {k v : Value} {c : Nat} : ∀ {es : List MapEntry}, findIn false k es = some none → putIn false k v c es = some (es ++ [⟨k, v, c⟩], c + 1)
  | [], _ => rfl
  | e :: es, h => by
    rw [findIn] at h
    rw [putIn]
    cases hs : sameK false k e.key with
    | none => rw [hs] at h; cases h
    | some b =>
      cases b with
      | true => rw [hs] at h; cases h
      | false =>
        rw [hs] at h
        simp only [putIn_new h, Option.map_some, List.cons_append]
theorem findIn_snoc {n m : Int} {v : Value} {c : Nat} : ∀ {es : List MapEntry} {o : Option Value}, findIn false (.int .i64 n) es = some o → findIn false (.int .i64 n) (es ++ [⟨.int .i64 m, v, c⟩]) = some (match o with | some w => some w | none => if n = m then some v else none)
  | [], o, h => by
    cases h
    show findIn false (.int .i64 n) [⟨.int .i64 m, v, c⟩] = _
    by_cases hn : n = m
    · simp [findIn, sameK, hn]
    · have hb : (n == m) = false := by simpa using hn
      simp [findIn, sameK, hn, hb]
  | e :: es, o, h => by
    rw [findIn] at h
    rw [List.cons_append, findIn]
    cases hs : sameK false (.int .i64 n) e.key with
    | none => rw [hs] at h; cases h
    | some b =>
      cases b with
      | true => rw [hs] at h; cases h; rfl
      | false => rw [hs] at h; exact findIn_snoc h

/-- What is known amidst Right. -/
structure RI (l : List Ev) (i : Nat) (σ : Int → Option HA) (kk : Int → Nat × Nat) (es : List MapEntry) (cl : Nat) (H : AH GD) : Prop where
  run : runF noneS (l.take i) = some σ
  g0 : H.get 0 = some (.ro (evs l))
  g1 : H.get 1 = some (.arr 4 [.bool false])
  g2 : H.get 2 = some (.map es cl)
  n3 : 3 ≤ H.next
  find : ∀ n, findIn false (.int .i64 n) es = some ((σ n).map fun _ => .pointer (some ⟨(kk n).1, 0, none⟩))
  at1 : ∀ n a, σ n = some a → H.get (kk n).1 = some (.arr 82 [.pointer (some ⟨(kk n).2, 0, none⟩), .bool a.tr, .bool a.en])
  at2 : ∀ n a, σ n = some a → H.get (kk n).2 = some (.hi (.log a.fs))
  good : ∀ n a, σ n = some a → GoodLog a.fs
  lt : ∀ n a, σ n = some a → 3 ≤ (kk n).1 ∧ (kk n).1 < H.next ∧ 3 ≤ (kk n).2 ∧ (kk n).2 < H.next
  ne : ∀ n m a b, σ n = some a → σ m = some b → (kk n).1 ≠ (kk m).2 ∧ (n ≠ m → (kk n).1 ≠ (kk m).1 ∧ (kk n).2 ≠ (kk m).2)
section
variable {l : List Ev} {i : Nat} {σ : Int → Option HA} {kk : Int → Nat × Nat} {es : List MapEntry} {cl : Nat} {H H' : AH GD} {x : Ev} {a a' : HA}
theorem RI.run_succ (h : RI l i σ kk es cl H) (hx : l[i]? = some x) (hr : 0 ≤ x.a ∧ x.a < 64) (ht : takeA (σ x.a) x = some a') : runF noneS (l.take (i + 1)) = some (setS σ x.a a') := by
  rw [take_snoc hx, runF_append, h.run]
  simp [runF, takeS, hr, ht]
theorem RI.upd (h : RI l i σ kk es cl H) (hx : l[i]? = some x) (hr : 0 ≤ x.a ∧ x.a < 64) (hs : σ x.a = some a) (ht : takeA (some a) x = some a') (hg : GoodLog a'.fs) (hn : H.next ≤ H'.next)
    (e1 : H'.get (kk x.a).1 = some (.arr 82 [.pointer (some ⟨(kk x.a).2, 0, none⟩), .bool a'.tr, .bool a'.en])) (e2 : H'.get (kk x.a).2 = some (.hi (.log a'.fs)))
    (eo : ∀ j, j < H.next → j ≠ (kk x.a).1 → j ≠ (kk x.a).2 → H'.get j = H.get j) : RI l (i + 1) (setS σ x.a a') kk es cl H' := by
  obtain ⟨l1, l2, l3, l4⟩ := h.lt _ _ hs
  have n3 := h.n3
  have hset : ∀ n b, setS σ x.a a' n = some b → (n = x.a ∧ b = a') ∨ (n ≠ x.a ∧ σ n = some b) := fun n b hb => by
    unfold setS at hb
    split at hb
    · cases hb; exact .inl ⟨by assumption, rfl⟩
    · exact .inr ⟨by assumption, hb⟩
  have hany : ∀ n b, setS σ x.a a' n = some b → ∃ b', σ n = some b' := fun n b hb => by
    rcases hset n b hb with ⟨rfl, _⟩ | ⟨_, h⟩
    · exact ⟨a, hs⟩
    · exact ⟨b, h⟩
  refine ⟨h.run_succ hx hr (by rw [hs]; exact ht), by rw [eo 0 (by omega) (by omega) (by omega)]; exact h.g0, by rw [eo 1 (by omega) (by omega) (by omega)]; exact h.g1, by rw [eo 2 (by omega) (by omega) (by omega)]; exact h.g2, by omega, fun n => ?_, fun n b hb => ?_, fun n b hb => ?_, fun n b hb => ?_, fun n b hb => ?_, fun n m b c hb hc => ?_⟩
  · rw [h.find n]
    unfold setS
    split
    · rename_i e; subst e; rw [hs]; rfl
    · rfl
  · rcases hset n b hb with ⟨rfl, rfl⟩ | ⟨hne, hb⟩
    · exact e1
    · obtain ⟨m1, m2, m3, m4⟩ := h.lt _ _ hb
      rw [eo _ m2 ((h.ne _ _ _ _ hb hs).2 hne).1 (h.ne _ _ _ _ hb hs).1]
      exact h.at1 n b hb
  · rcases hset n b hb with ⟨rfl, rfl⟩ | ⟨hne, hb⟩
    · exact e2
    · obtain ⟨m1, m2, m3, m4⟩ := h.lt _ _ hb
      rw [eo _ m4 (fun e => (h.ne _ _ _ _ hs hb).1 e.symm) ((h.ne _ _ _ _ hb hs).2 hne).2]
      exact h.at2 n b hb
  · rcases hset n b hb with ⟨rfl, rfl⟩ | ⟨hne, hb⟩
    · exact hg
    · exact h.good n b hb
  · obtain ⟨b', hb'⟩ := hany n b hb
    have := h.lt _ _ hb'
    omega
  · obtain ⟨b', hb'⟩ := hany n b hb
    obtain ⟨c', hc'⟩ := hany m c hc
    exact h.ne _ _ _ _ hb' hc'
theorem RI.new (h : RI l i σ kk es cl H) (hx : l[i]? = some x) (hr : 0 ≤ x.a ∧ x.a < 64) (hs : σ x.a = none) (ht : takeA none x = some ⟨false, false, [[]]⟩) {k1 k2 : Nat} (hk : H.next ≤ k1 ∧ H.next ≤ k2 ∧ k1 < H'.next ∧ k2 < H'.next ∧ k1 ≠ k2)
    (em : H'.get 2 = some (.map (es ++ [⟨.int .i64 x.a, .pointer (some ⟨k1, 0, none⟩), cl⟩]) (cl + 1)))
    (e1 : H'.get k1 = some (.arr 82 [.pointer (some ⟨k2, 0, none⟩), .bool false, .bool false])) (e2 : H'.get k2 = some (.hi (.log [[]])))
    (eo : ∀ j, j < H.next → j ≠ 2 → H'.get j = H.get j) : RI l (i + 1) (setS σ x.a ⟨false, false, [[]]⟩) (fun n => if n = x.a then (k1, k2) else kk n) (es ++ [⟨.int .i64 x.a, .pointer (some ⟨k1, 0, none⟩), cl⟩]) (cl + 1) H' := by
  have n3 := h.n3
  have hset : ∀ n b, setS σ x.a ⟨false, false, [[]]⟩ n = some b → (n = x.a ∧ b = ⟨false, false, [[]]⟩) ∨ (n ≠ x.a ∧ σ n = some b) := fun n b hb => by
    unfold setS at hb
    split at hb
    · cases hb; exact .inl ⟨by assumption, rfl⟩
    · exact .inr ⟨by assumption, hb⟩
  have hk0 : (if x.a = x.a then (k1, k2) else kk x.a) = (k1, k2) := if_pos rfl
  refine ⟨h.run_succ hx hr (by rw [hs]; exact ht), by rw [eo 0 (by omega) (by omega)]; exact h.g0, by rw [eo 1 (by omega) (by omega)]; exact h.g1, em, by omega, fun n => ?_, fun n b hb => ?_, fun n b hb => ?_, fun n b hb => ?_, fun n b hb => ?_, fun n m b c hb hc => ?_⟩
  · rw [findIn_snoc (h.find n)]
    by_cases hn : n = x.a
    · subst hn
      simp [hs, setS]
    · rw [if_neg hn, if_neg hn]
      cases hσ : σ n <;> simp [setS, hn, hσ]
  · rcases hset n b hb with ⟨rfl, rfl⟩ | ⟨hne, hb⟩
    · simp only [if_true]; exact e1
    · obtain ⟨m1, m2, m3, m4⟩ := h.lt _ _ hb
      simp only [if_neg hne]
      rw [eo _ m2 (by omega)]
      exact h.at1 n b hb
  · rcases hset n b hb with ⟨rfl, rfl⟩ | ⟨hne, hb⟩
    · simp only [if_true]; exact e2
    · obtain ⟨m1, m2, m3, m4⟩ := h.lt _ _ hb
      simp only [if_neg hne]
      rw [eo _ m4 (by omega)]
      exact h.at2 n b hb
  · rcases hset n b hb with ⟨rfl, rfl⟩ | ⟨hne, hb⟩
    · exact good_log_nil
    · exact h.good n b hb
  · rcases hset n b hb with ⟨rfl, rfl⟩ | ⟨hne, hb⟩
    · simp only [if_true]; omega
    · have := h.lt _ _ hb
      simp only [if_neg hne]; omega
  · rcases hset n b hb with ⟨rfl, rfl⟩ | ⟨hne, hb⟩
    · rcases hset m c hc with ⟨rfl, rfl⟩ | ⟨hne2, hc⟩
      · simp only [if_true]
        exact ⟨hk.2.2.2.2, fun h => absurd rfl h⟩
      · have := h.lt _ _ hc
        simp only [if_true, if_neg hne2]
        omega
    · rcases hset m c hc with ⟨rfl, rfl⟩ | ⟨hne2, hc⟩
      · have := h.lt _ _ hb
        simp only [if_true, if_neg hne]
        omega
      · simp only [if_neg hne, if_neg hne2]
        exact h.ne _ _ _ _ hb hc
theorem RI.wrong (h : RI l i σ kk es cl H) (hx : l[i]? = some x) {n : Nat} (hi : i < n) (ht : takeS σ x = none) : rightS (l.take n) = false := by
  have e : l.take n = l.take i ++ (l.take n).drop i := by
    have : l.take i = (l.take n).take i := by rw [List.take_take, Nat.min_eq_left (by omega)]
    rw [this, List.take_append_drop]
  unfold rightS
  rw [e, runF_append, h.run, drop_at hx hi]
  simp [runF, ht]
end
/-- An end of which a few objects are kept: in whatever heap. -/
theorem ends_list {P : Program} {n0 : Nat} {r r2 : AEnd} {H H0 : AH GD} (h : ∀ L, AH.of L = H → Abs.ends P frag n0 r2 H0 r (AH.of L)) : Abs.ends P frag n0 r2 H0 r H := .mk fun ρ own w hrel => by
  have e : AH.of ((List.range H.next).map H.get) = H := by
    refine AH.ext' (by simp) fun k => ?_
    rw [of_get, List.getElem?_map]
    by_cases hk : k < H.next
    · rw [List.getElem?_range hk]; rfl
    · rw [List.getElem?_eq_none (by simpa using hk), hrel.fresh k (by omega)]; rfl
  exact (h _ e).view ρ own w (by rw [e]; exact hrel)
theorem ends_first {r r2 : AEnd} {H : AH GD} {o : AObj GD} (h0 : H.get 0 = some o) (ho : ∀ θ : Nat → Nat, o.ren θ = o) (hr : ∀ θ : Nat → Nat, renE θ r2 = r2) (he : r = r2) (hm : leO o o) : Abs.ends Tryd.prog frag 1 r2 (AH.of [some o]) r H := ends_list fun L hL => by
  have hL0 : (L[0]?).join = some o := by rw [← of_get, hL]; exact h0
  have hlen : 0 < L.length := by
    cases L with
    | nil => cases hL0
    | cons x L => simp
  refine ends_plan [] [0] trivial ⟨by simp, by simpa [planL] using hlen, ?_, by simp⟩ (by rw [hr]; exact he)
  simp [planL, hL0, ho, hm]
end YtmhkpababjdnbaaDoor
end Go.Proofs
