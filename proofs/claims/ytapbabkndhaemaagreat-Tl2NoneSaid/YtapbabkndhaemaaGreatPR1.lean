/-
  THE DATA, and how each lies.
-/
import Derived.Test.YtapbabkndhaemaaGreatPF
import Derived.Test.YtapbabkndhaemaaGreatPA3
import Derived.Test.YtapbabkndhaemaaGreatRows
import Derived.Shelf.Slices.CompactI
import Derived.Shelf.Sort.Plain
import Derived.Test.YtapbabkndhaemaaGreatProg
set_option linter.unusedSimpArgs false
set_option linter.unusedVariables false
set_option linter.unnecessarySimpa false
set_option linter.unusedSectionVars false
namespace Go.Proofs
namespace YtapbabkndhaemaaGreat
open Go.Abs
structure Ent where
  t : Int
  v : Int
  n : Int
  deriving DecidableEq
structure Pr where
  t : Int
  v : Int
  deriving DecidableEq
structure Ev where
  k : Int
  a : Int
  t : Int
  v : Int
  deriving DecidableEq
structure Ak where
  k : Int
  t : Int
  v : Int
  deriving DecidableEq
structure Att where
  n : Nat
  snap : Int
  es : List Ent
  fs : List (List Pr)
  asked : Bool
  ra : Ak
  at_ : Nat
  back : Nat
  nx : Nat
  seen : Int
  val : Int
  dec : Bool
  deriving DecidableEq
structure NS where
  o : Option Int
  c : Int
  hp : List Int
  ts : Nat → Option Att
  ev : List Ev
  ky : List Int
  wy : List Int
structure TA where
  n : Nat
  rv : Int
  wv : Int
  es : List Ent
  fs : List (List Pr)
  ra : Ak
  ph : Nat
  nx : Nat
  sw : Int
  sv : Int
  ss : Nat
  dec : Bool
  deriving DecidableEq
structure Fate where
  n : Nat
  key : Int
  why : Int
  deriving DecidableEq
structure TS where
  ws : List Int
  c : Int
  hp : List Int
  ts : Nat → Option TA
  ev : List Ev
  ft : List Fate
inductive GD where
  | lk (o : Option Int) (c : Int)
  | rlk (o : Option Int) (c : Int)
  | stk (fs : List (List Pr))
  | log (fs : List (List Pr))
  | rlog (fs : List (List Pr))
  | att (a : Att)
  | ratt (a : Att)
  | eng (s : NS)
  | reng (s : NS)
  | set (c : Nat) (l : List Ent)
  | rset (l : List Ent)
  | tab (ws : List Int) (c : Int)
  | rtab (ws : List Int) (c : Int)
  | vints (l : List Int)
  | tatt (a : TA)
  | teng (s : TS)
def Fate.cells (f : Fate) : List Value := [.int .i64 f.n, .int .u64 f.key, .int .u8 f.why]
def fates (l : List Fate) : List Value := l.flatMap Fate.cells
def Ent.cells (e : Ent) : List Value := [.int .i64 e.t, .int .u64 e.v, .int .u64 e.n]
def Ent.val (e : Ent) : Value := .agg e.cells.toArray
def epairs (l : List Ent) : List (Value × Value) := l.map fun e => (.int .i64 e.t, e.val)
def tvars (l : List Ent) : List Value := l.map fun e => .int .i64 e.t
def rows (l : List Ent) : List Value := l.flatMap Ent.cells
def us (h : List Int) : List Value := h.map fun v => .int .u64 v
def Pr.cells (p : Pr) : List Value := [.int .i64 p.t, .int .u64 p.v]
def prs (l : List Pr) : List Value := l.flatMap Pr.cells
def Ev.cells (e : Ev) : List Value := [.int .u8 e.k, .int .i64 e.a, .int .i64 e.t, .int .u64 e.v]
def evs (l : List Ev) : List Value := l.flatMap Ev.cells
def u8s (l : List Int) : List Value := l.map fun v => .int .u8 v
def Att.ask (a : Att) : Ak := if a.asked then a.ra else ⟨0, 0, 0⟩
def nextP : List (List Pr) → Value
  | [] => .pointer none
  | _ :: _ => .pointer (some ⟨2, 0, none⟩)
def nextO : List (List Pr) → List (AObj GD)
  | [] => []
  | f :: fs => [.hi (.stk (f :: fs))]
def stkO : List (List Pr) → List (AObj GD)
  | [] => [.arr 213 []]
  | f :: fs => .arr 213 [.slice (some ⟨1, 0, none⟩) f.length 1, nextP fs] :: .arr 104 (prs f) :: nextO fs
def lkO : Option Int → Int → List (AObj GD)
  | none, c => [.arr 0 [.pointer none, .int .u64 c]]
  | some x, c => [.arr 0 [.pointer (some ⟨1, 0, none⟩), .int .u64 c], .arr 3 [.int .i64 x]]
def getP (f : List Pr) (t : Int) : Option Int := (f.find? fun p => p.t == t).map (·.v)
def tv12 : List Int := [0, 1, 2, 3, 4, 5, 6, 7, 8, 9, 10, 11]
def frameC (f : List Pr) : List Value := (tv12.map fun t => .bool (getP f t).isSome) ++ tv12.map fun t => .int .u64 ((getP f t).getD 0)
def slotO : Option Att → AObj GD
  | some a => .hi (.att a)
  | none => .arr 0 []
def rslotO : Option Att → AObj GD
  | some a => .hi (.ratt a)
  | none => .arr 0 []
def tp1 (i : Int) (k : Nat) : Option Att → List (Value × Value)
  | some _ => [(.int .i64 i, .pointer (some ⟨k, 0, none⟩))]
  | none => []
def tpK (k0 k1 k2 k3 : Nat) (ts : Nat → Option Att) : List (Value × Value) := tp1 0 k0 (ts 0) ++ (tp1 1 k1 (ts 1) ++ (tp1 2 k2 (ts 2) ++ tp1 3 k3 (ts 3)))
def rptr (k : Nat) : Option Att → Value
  | some _ => .pointer (some ⟨k, 0, none⟩)
  | none => .pointer none
def tslotO : Option TA → AObj GD
  | some a => .hi (.tatt a)
  | none => .arr 98 []
def teptr (k : Nat) : Option TA → Value
  | some _ => .pointer (some ⟨k, 0, none⟩)
  | none => .pointer none
def keyC (ky wy : List Int) : List Value := (ky.zip wy).flatMap fun x => [.int .u64 x.1, .int .u8 x.2]
def frag : GD → List (AObj GD)
  | .lk o c => lkO o c
  | .rlk o c => [.arr 0 [.int .u64 c, .bool o.isSome, .int .i64 (o.getD 0)]]
  | .stk fs => stkO fs
  | .log fs => [.arr 168 [.pointer (some ⟨1, 0, none⟩), .int .i64 ((fs.length : Int) - 1)], .hi (.stk fs)]
  | .rlog fs => [.arr 196 [.slice (some ⟨1, 0, none⟩) fs.length 1], .arr 246 (fs.reverse.flatMap frameC)]
  | .att a => [.arr 0 [.pointer (some ⟨1, 0, none⟩), .pointer (some ⟨2, 0, none⟩), .int .i64 a.n, .int .u64 a.snap, .int .u8 a.ask.k, .int .i64 a.ask.t, .int .u64 a.ask.v, .int .i64 a.at_, .int .i64 a.back, .int .i64 a.nx, .int .u64 a.seen, .int .u64 a.val, .bool a.dec],
      .hi (.set 0 a.es), .hi (.log a.fs)]
  | .ratt a => [.arr 0 [.int .i64 a.n, .int .u64 a.snap, .pointer (some ⟨1, 0, none⟩), .pointer (some ⟨2, 0, none⟩), .bool a.asked, .int .u8 a.ra.k, .int .i64 a.ra.t, .int .u64 a.ra.v, .int .i64 (if a.at_ < 4 then a.at_ else a.at_ + 6), .int .i64 a.back, .int .i64 a.nx, .int .u64 a.seen, .int .u64 a.val, .bool a.dec],
      .hi (.rset a.es), .hi (.rlog a.fs)]
  | .eng s => [.arr 0 [.pointer (some ⟨1, 0, none⟩), .slice (some ⟨2, 0, none⟩) s.hp.length 1, .map (some 3), .slice (some ⟨4, 0, none⟩) s.ev.length 1, .slice (some ⟨5, 0, none⟩) s.ky.length 1, .slice (some ⟨6, 0, none⟩) s.wy.length 1],
      .hi (.lk s.o s.c), .arr 30 (us s.hp), .mapq (tpK 7 8 9 10 s.ts), .arr 121 (evs s.ev), .arr 29 (us s.ky), .arr 39 (u8s s.wy), slotO (s.ts 0), slotO (s.ts 1), slotO (s.ts 2), slotO (s.ts 3)]
  | .reng s => [.arr 0 [.slice (some ⟨1, 0, none⟩) s.hp.length 1, .pointer (some ⟨2, 0, none⟩), rptr 5 (s.ts 0), rptr 6 (s.ts 1), rptr 7 (s.ts 2), rptr 8 (s.ts 3), .slice (some ⟨3, 0, none⟩) s.ev.length 1, .slice (some ⟨4, 0, none⟩) s.ky.length 1],
      .arr 30 (us s.hp), .hi (.rlk s.o s.c), .arr 121 (evs s.ev), .arr 0 (keyC s.ky s.wy), rslotO (s.ts 0), rslotO (s.ts 1), rslotO (s.ts 2), rslotO (s.ts 3)]
  | .set c l => [.arr 163 [.slice (some ⟨1, 0, none⟩) l.length 1, .map (some 2)], .arr 3 (tvars l), .mapq (epairs l)]
  | .rset l => [.arr 193 [.slice (some ⟨1, 0, none⟩) l.length 1], .arr 191 (rows l)]
  | .tab ws c => [.arr 159 [.int .u64 c, .slice (some ⟨1, 0, none⟩) ws.length 1], .arr 29 (us ws)]
  | .rtab ws c => [.arr 149 [.slice (some ⟨1, 0, none⟩) ws.length 1, .int .u64 c], .arr 29 (us ws)]
  | .vints l => [.arr 55 [.slice (some ⟨1, 0, none⟩) l.length 1], .arr 3 (ints l)]
  | .tatt a => [.arr 98 [.pointer (some ⟨1, 0, none⟩), .pointer (some ⟨2, 0, none⟩), .int .i64 a.n, .int .u64 a.rv, .int .u64 a.wv, .int .u8 a.ra.k, .int .i64 a.ra.t, .int .u64 a.ra.v, .int .i64 a.ph, .int .i64 a.nx, .int .u64 a.sw, .int .u64 a.sv, .int .i64 a.ss, .bool a.dec],
      .hi (.set 0 a.es), .hi (.log a.fs)]
  | .teng s => [.arr 89 [.pointer (some ⟨1, 0, none⟩), .slice (some ⟨2, 0, none⟩) s.hp.length 1, teptr 5 (s.ts 0), teptr 6 (s.ts 1), teptr 7 (s.ts 2), teptr 8 (s.ts 3), .slice (some ⟨3, 0, none⟩) s.ev.length 1, .slice (some ⟨4, 0, none⟩) s.ft.length 1],
      .hi (.tab s.ws s.c), .arr 30 (us s.hp), .arr 121 (evs s.ev), .arr 100 (fates s.ft), tslotO (s.ts 0), tslotO (s.ts 1), tslotO (s.ts 2), tslotO (s.ts 3)]
theorem frag_stk1 (f : List Pr) : frag (.stk [f]) = [.arr 213 [.slice (some ⟨1, 0, none⟩) f.length 1, .pointer none], .arr 104 (prs f)] := rfl
theorem frag_stk2 (f g : List Pr) (fs : List (List Pr)) : frag (.stk (f :: g :: fs)) = [.arr 213 [.slice (some ⟨1, 0, none⟩) f.length 1, .pointer (some ⟨2, 0, none⟩)], .arr 104 (prs f), .hi (.stk (g :: fs))] := rfl
theorem frag_log (fs : List (List Pr)) : frag (.log fs) = [.arr 168 [.pointer (some ⟨1, 0, none⟩), .int .i64 ((fs.length : Int) - 1)], .hi (.stk fs)] := rfl
theorem frag_set (c : Nat) (l : List Ent) : frag (.set c l) = [.arr 163 [.slice (some ⟨1, 0, none⟩) l.length 1, .map (some 2)], .arr 3 (tvars l), .mapq (epairs l)] := rfl
theorem frag_tab (ws : List Int) (c : Int) : frag (.tab ws c) = [.arr 159 [.int .u64 c, .slice (some ⟨1, 0, none⟩) ws.length 1], .arr 29 (us ws)] := rfl
theorem frag_rtab (ws : List Int) (c : Int) : frag (.rtab ws c) = [.arr 149 [.slice (some ⟨1, 0, none⟩) ws.length 1, .int .u64 c], .arr 29 (us ws)] := rfl
theorem frag_vints (l : List Int) : frag (.vints l) = [.arr 55 [.slice (some ⟨1, 0, none⟩) l.length 1], .arr 3 (ints l)] := rfl
theorem frag_tatt (a : TA) : frag (.tatt a) = [.arr 98 [.pointer (some ⟨1, 0, none⟩), .pointer (some ⟨2, 0, none⟩), .int .i64 a.n, .int .u64 a.rv, .int .u64 a.wv, .int .u8 a.ra.k, .int .i64 a.ra.t, .int .u64 a.ra.v, .int .i64 a.ph, .int .i64 a.nx, .int .u64 a.sw, .int .u64 a.sv, .int .i64 a.ss, .bool a.dec],
      .hi (.set 0 a.es), .hi (.log a.fs)] := rfl
theorem frag_teng (s : TS) : frag (.teng s) = [.arr 89 [.pointer (some ⟨1, 0, none⟩), .slice (some ⟨2, 0, none⟩) s.hp.length 1, teptr 5 (s.ts 0), teptr 6 (s.ts 1), teptr 7 (s.ts 2), teptr 8 (s.ts 3), .slice (some ⟨3, 0, none⟩) s.ev.length 1, .slice (some ⟨4, 0, none⟩) s.ft.length 1],
      .hi (.tab s.ws s.c), .arr 30 (us s.hp), .arr 121 (evs s.ev), .arr 100 (fates s.ft), tslotO (s.ts 0), tslotO (s.ts 1), tslotO (s.ts 2), tslotO (s.ts 3)] := rfl
abbrev cfg := cfgOf Tryz.prog frag
abbrev G := gX Tryz.prog frag
theorem runs_by {tbl : List (FuncId × CStep GD)} (h : ∀ x ∈ tbl, CStepOk Tryz.prog cfg x.1 x.2) (F d : Nat) {f : FuncId} {af : AF} (hf : forms f = some af) {args : List Value} {H : AH GD} {K : AEnd → AH GD → Prop}
    (hr : af.run (G (callX G (tabS (SeesG Tryz.prog cfg) tbl) forms F d noY) (callX G (tabS (SeesG Tryz.prog cfg) tbl) forms F d)) F args H K) : Runs Tryz.prog cfg f args H K :=
  runs_of gX_ok hmix hext (tabS_ok h) forms_ok F d hf hr
end YtapbabkndhaemaaGreat
end Go.Proofs
/-
  WHAT IS READ off arguments and heaps.
-/
namespace Go.Proofs
namespace YtapbabkndhaemaaGreat
open Go.Abs
def ptr0 : Value → Option Nat
  | .pointer (some ⟨k, 0, none⟩) => some k
  | _ => none
theorem ptr0_eq (k : Nat) : ptr0 (.pointer (some ⟨k, 0, none⟩)) = some k := rfl
theorem ptr0_inv {v : Value} {k : Nat} (h : ptr0 v = some k) : v = .pointer (some ⟨k, 0, none⟩) := by
  unfold ptr0 at h
  split at h
  · cases h; rfl
  · cases h
def asU : Value → Option Int
  | .int .u64 v => some v
  | _ => none
def asI : Value → Option Int
  | .int .i64 v => some v
  | _ => none
theorem asU_eq (v : Int) : asU (.int .u64 v) = some v := rfl
theorem asI_eq (v : Int) : asI (.int .i64 v) = some v := rfl
theorem asU_inv {x : Value} {v : Int} (h : asU x = some v) : x = .int .u64 v := by
  unfold asU at h
  split at h
  · cases h; rfl
  · cases h
theorem upd_get {H : AH GD} {k : Nat} {o : AObj GD} (h : H.get k = some o) : H.upd k o = H := by
  refine AH.ext' rfl fun j => ?_
  rw [AH.get_upd]
  split
  · rename_i e; subst e; exact h.symm
  · rfl
theorem us_set (h : List Int) (i : Nat) (v : Int) : (us h).set i (.int .u64 v) = us (h.set i v) := by simp [us, List.map_set]
theorem take_us (l : List Int) : (us l).take l.length = us l := List.take_of_length_le (by simp [us])
theorem us_length (h : List Int) : (us h).length = h.length := by simp [us]
theorem us_ground (h : List Int) : grounds (us h) = true := by
  induction h with
  | nil => rfl
  | cons v h ih => simp [us, grounds, ground] at ih ⊢; exact ih
theorem ren_us (θ : Nat → Nat) (h : List Int) : rens θ (us h) = us h := rens_ground θ _ (us_ground h)
theorem us_at {h : List Int} {i : Nat} {v : Int} (hv : h[i]? = some v) : (us h)[i]? = some (.int .u64 v) := by simp [us, hv]
def sl0 : Value → Option (Nat × Nat × Nat)
  | .slice (some ⟨k, 0, none⟩) n c => some (k, n, c)
  | _ => none
theorem sl0_eq (k n c : Nat) : sl0 (.slice (some ⟨k, 0, none⟩) n c) = some (k, n, c) := rfl
theorem sl0_inv {v : Value} {q : Nat × Nat × Nat} (h : sl0 v = some q) : v = .slice (some ⟨q.1, 0, none⟩) q.2.1 q.2.2 := by
  unfold sl0 at h
  split at h
  · cases h; rfl
  · cases h
def asUs : List Value → Option (List Int)
  | [] => some []
  | .int .u64 v :: l => (asUs l).map (v :: ·)
  | _ => none
theorem asUs_us : ∀ h : List Int, asUs (us h) = some h
  | [] => rfl
  | v :: h => by
    show (asUs (us h)).map (v :: ·) = _
    rw [asUs_us h]; rfl
theorem asUs_inv : ∀ {cs : List Value} {h : List Int}, asUs cs = some h → cs = us h
  | [], h, e => by cases e; rfl
  | v :: cs, h, e => by
    unfold asUs at e
    split at e
    · simp_all
    · rename_i v' l heq
      cases heq
      simp only [Option.map_eq_some_iff] at e
      obtain ⟨h', e1, rfl⟩ := e
      rw [asUs_inv e1]; rfl
    · cases e
theorem us_nil : us [] = [] := rfl
def asInts : List Value → Option (List Int)
  | [] => some []
  | .int .i64 v :: l => (asInts l).map (v :: ·)
  | _ => none
theorem asInts_ints : ∀ h : List Int, asInts (ints h) = some h
  | [] => rfl
  | v :: h => by
    show (asInts (ints h)).map (v :: ·) = _
    rw [asInts_ints h]; rfl
theorem asInts_inv : ∀ {cs : List Value} {h : List Int}, asInts cs = some h → cs = ints h
  | [], h, e => by cases e; rfl
  | v :: cs, h, e => by
    unfold asInts at e
    split at e
    · simp_all
    · rename_i v' l heq
      cases heq
      simp only [Option.map_eq_some_iff] at e
      obtain ⟨h', e1, rfl⟩ := e
      rw [asInts_inv e1]; rfl
    · cases e
theorem ints_at {h : List Int} {i : Nat} {v : Int} (hv : h[i]? = some v) : (ints h)[i]? = some (.int .i64 v) := by simp [ints, hv]
theorem ints_get {h : List Int} {i : Nat} {v : Int} (hv : h[i]? = some v) (p : i < (ints h).length) : (ints h)[i]'p = .int .i64 v := by
  have := ints_at hv
  rw [List.getElem?_eq_getElem p] at this
  exact Option.some.inj this
theorem ints_append (a b : List Int) : ints (a ++ b) = ints a ++ ints b := by simp [ints]
theorem take_ints (l : List Int) : (ints l).take l.length = ints l := List.take_of_length_le (by simp)
def getInts (H : AH GD) (k : Nat) : Option (TypeId × List Int) :=
  match H.get k with
  | some (.arr e cs) => (asInts cs).map fun h => (e, h)
  | _ => none
theorem getInts_inv {H : AH GD} {k : Nat} {x : TypeId × List Int} (hg : getInts H k = some x) : H.get k = some (.arr x.1 (ints x.2)) := by
  unfold getInts at hg
  split at hg
  · rename_i e cs he
    simp only [Option.map_eq_some_iff] at hg
    obtain ⟨h, h1, rfl⟩ := hg
    rw [he, asInts_inv h1]
  · cases hg
theorem inc_i64 {i n : Nat} (hi : i < n) (hn : n ≤ 1000000) : IntKind.i64.wrap ((i : Int) + 1) = ((i + 1 : Nat) : Int) := by rw [wrap_i64 (by omega) (by omega)]; omega
theorem ints_single (v : Int) : ints [v] = [.int .i64 v] := rfl
theorem ptr0_nil : ptr0 (.pointer none) = none := rfl
def isNil : Value → Option Unit
  | .pointer none => some ()
  | _ => none
theorem isNil_eq : isNil (.pointer none) = some () := rfl
theorem isNil_ptr (k o : Nat) : isNil (.pointer (some ⟨k, o, none⟩)) = none := rfl
abbrev PStep := List Value → Option (Prop × Value)
def pureStep (f : PStep) : CStep GD := fun args H => (f args).map fun x => (x.1, .ret x.2, H)
theorem pure_ok {fid : FuncId} {f : PStep} (h : ∀ args p v, f args = some (p, v) → p → grounds args = true ∧ ground v = true ∧ Runs Tryz.prog cfg fid args (AH.of []) fun r H' => r = .ret v ∧ H' = AH.of []) : CStepOk Tryz.prog cfg fid (pureStep f) := by
  intro args H p r H' he hp
  simp only [pureStep, Option.map_eq_some_iff] at he
  obtain ⟨⟨p', v⟩, h1, h2⟩ := he
  cases h2
  obtain ⟨g1, g2, hr⟩ := h args p' v h1 hp
  exact hr.atK (ro_none rfl) [] (by simp) (by simp) trivial (by rw [rens_ground _ _ g1]) (by rw [renE_ret, ren_ground _ _ g2]) (by simp)
abbrev DStep := GD → List Value → Option (Prop × Value × GD)
def dataSt (g : DStep) : CStep GD := fun args H => match args with
  | .pointer (some ⟨k, 0, none⟩) :: rest => match H.get k with
    | some (.hi d) => (g d rest).map fun x => (x.1, .ret x.2.1, H.upd k (.hi x.2.2))
    | _ => none
  | _ => none
theorem data_ok {fid : FuncId} {g : DStep} (h : ∀ d rest p v d', g d rest = some (p, v, d') → p → grounds rest = true ∧ ground v = true ∧ Runs Tryz.prog cfg fid (.pointer (some ⟨0, 0, none⟩) :: rest) (AH.of [some (.hi d)]) fun r H' => r = .ret v ∧ H' = AH.of [some (.hi d')]) : CStepOk Tryz.prog cfg fid (dataSt g) := by
  intro args H p r H' he hp
  unfold dataSt at he
  split at he
  case h_2 => cases he
  split at he
  case h_2 => cases he
  simp only [Option.map_eq_some_iff] at he
  obtain ⟨⟨p', v, d'⟩, h1, h2⟩ := he
  rename_i k rest x d hk
  cases h2
  obtain ⟨g1, g2, hr⟩ := h d rest p' v d' h1 hp
  exact hr.atK (ro_none rfl) [k] (by simp) (by simp) (by simp [hk]) (by rw [rens, rens_ground _ _ g1]; simp) (by rw [renE_ret, ren_ground _ _ g2]) (by simp)
attribute [simp] ren_us ptr0_eq ptr0_nil asU_eq asI_eq sl0_eq asUs_us asUs asInts_ints isNil_eq isNil_ptr
end YtapbabkndhaemaaGreat
end Go.Proofs
/-
  What the arguments of laws read as: numbers, truth values.
-/
namespace Go.Proofs
namespace YtapbabkndhaemaaGreat
open Go.Abs Go.ChangeShapes Go.WideShapes Go.ChangeAt Go.RowKit
set_option maxRecDepth 100000
theorem own : ownKnob Tryz.prog.godebug = none := by kernel_rfl
section
variable {H : Type} {enc : TypeId × Value → H} {w : World}
theorem wf_i64 {n : Int} (h : (Lit.int .i64 n).wf = true) : -9223372036854775808 ≤ n ∧ n ≤ 9223372036854775807 := by
  simpa [Lit.wf, IntKind.min, IntKind.max, IntKind.signed, IntKind.bits] using h
theorem wf_u64 {n : Int} (h : (Lit.int .u64 n).wf = true) : 0 ≤ n ∧ n < 18446744073709551616 := by
  have : 0 ≤ n ∧ n ≤ 18446744073709551615 := by simpa [Lit.wf, IntKind.min, IntKind.max, IntKind.signed, IntKind.bits] using h
  omega
theorem wf_u8 {n : Int} (h : (Lit.int .u8 n).wf = true) : 0 ≤ n ∧ n < 256 := by
  have : 0 ≤ n ∧ n ≤ 255 := by simpa [Lit.wf, IntKind.min, IntKind.max, IntKind.signed, IntKind.bits] using h
  omega
theorem us_oneC (l : List Int) : (us l).all (·.oneCell') = true := by simp [us, Value.oneCell']
theorem us_flat (h : List Int) : h.flatMap (fun v => [Value.int .u64 v]) = us h := by
  induction h with
  | nil => rfl
  | cons v h ih => rw [List.flatMap_cons, ih]; rfl
end
end YtapbabkndhaemaaGreat
end Go.Proofs
/-
  WRITES: frames.
-/
namespace Go.Proofs
namespace YtapbabkndhaemaaGreat
open Go.Abs
def putF : List Pr → Pr → List Pr
  | [], p => [p]
  | q :: f, p => if q.t = p.t then ⟨q.t, p.v⟩ :: f else q :: putF f p
theorem prs_cons (p : Pr) (l : List Pr) : prs (p :: l) = .int .i64 p.t :: .int .u64 p.v :: prs l := rfl
theorem prs_length (l : List Pr) : (prs l).length = l.length * 2 := by
  induction l with
  | nil => rfl
  | cons e l ih => rw [prs_cons, List.length_cons, List.length_cons, ih, List.length_cons]; omega
theorem prs_append (a b : List Pr) : prs (a ++ b) = prs a ++ prs b := by simp [prs]
theorem prs_ground (l : List Pr) : grounds (prs l) = true := by
  induction l with
  | nil => rfl
  | cons e l ih => rw [prs_cons]; simp [grounds, ground, ih]
theorem ren_prs (θ : Nat → Nat) (l : List Pr) : rens θ (prs l) = prs l := rens_ground θ _ (prs_ground l)
theorem take_prs (l : List Pr) : (prs l).take (l.length * 2) = prs l := List.take_of_length_le (by simp [prs_length])
theorem many_prs {i : Nat} {x : Pr} : ∀ {l : List Pr}, l[i]? = some x → ((prs l).drop (i * 2)).take 2 = x.cells := by
  induction i with
  | zero =>
    intro l h
    cases l with
    | nil => simp at h
    | cons e l => simp at h; subst h; rfl
  | succ i ih =>
    intro l h
    cases l with
    | nil => simp at h
    | cons e l =>
      rw [prs_cons, show (i + 1) * 2 = i * 2 + 1 + 1 by omega]
      simpa using ih (l := l) (by simpa using h)
theorem prs_at {l : List Pr} {i : Nat} {x : Pr} (h : l[i]? = some x) : (prs l)[i * 2]? = some (.int .i64 x.t) ∧ (prs l)[i * 2 + 1]? = some (.int .u64 x.v) := by
  have h3 := many_prs h
  have g : ∀ j, j < 2 → (prs l)[i * 2 + j]? = x.cells[j]? := fun j hj => by
    rw [← h3, List.getElem?_take, if_pos hj, List.getElem?_drop]
  exact ⟨g 0 (by omega), g 1 (by omega)⟩
theorem prs_single (p : Pr) : prs [p] = [.int .i64 p.t, .int .u64 p.v] := rfl
attribute [simp] ren_prs
def optR (o : Option Int) : Value := .tuple #[.int .u64 (o.getD 0), .bool o.isSome]
theorem getP_first {f : List Pr} {t : Int} {i : Nat} {x : Pr} (hpre : ∀ (j : Nat) (y : Pr), j < i → f[j]? = some y → y.t ≠ t) (hx : f[i]? = some x) (ht : x.t = t) : getP f t = some x.v := by
  induction f generalizing i with
  | nil => simp at hx
  | cons a f ih =>
    cases i with
    | zero => simp at hx; subst hx; simp [getP, ht]
    | succ i =>
      have ha : a.t ≠ t := hpre 0 a (by omega) rfl
      have : getP (a :: f) t = getP f t := by simp [getP, ha]
      rw [this]
      exact ih (i := i) (fun j y hj hy => hpre (j + 1) y (by omega) (by simpa using hy)) (by simpa using hx)
theorem getP_none {f : List Pr} {t : Int} (h : ∀ (j : Nat) (y : Pr), f[j]? = some y → y.t ≠ t) : getP f t = none := by
  have : f.find? (fun p => p.t == t) = none := by
    rw [List.find?_eq_none]
    intro x hx
    obtain ⟨j, hj⟩ := List.mem_iff_getElem?.1 hx
    simpa using h j x hj
  simp [getP, this]
theorem putF_at {f : List Pr} {p : Pr} {i : Nat} {x : Pr} (hpre : ∀ (j : Nat) (y : Pr), j < i → f[j]? = some y → y.t ≠ p.t) (hx : f[i]? = some x) (ht : x.t = p.t) : putF f p = f.set i p := by
  induction f generalizing i with
  | nil => simp at hx
  | cons a f ih =>
    cases i with
    | zero =>
      simp at hx; subst hx
      have : p = ⟨a.t, p.v⟩ := by cases p; simp_all
      simp [putF, ht]
    | succ i =>
      have ha : a.t ≠ p.t := hpre 0 a (by omega) rfl
      simp only [putF, if_neg ha, List.set_cons_succ]
      rw [ih (i := i) (fun j y hj hy => hpre (j + 1) y (by omega) (by simpa using hy)) (by simpa using hx)]
theorem putF_new {f : List Pr} {p : Pr} (h : ∀ (j : Nat) (y : Pr), f[j]? = some y → y.t ≠ p.t) : putF f p = f ++ [p] := by
  induction f with
  | nil => rfl
  | cons a f ih =>
    have ha : a.t ≠ p.t := h 0 a rfl
    simp only [putF, if_neg ha, List.cons_append]
    rw [ih fun j y hj => h (j + 1) y (by simpa using hj)]
theorem putF_length_le (f : List Pr) (p : Pr) : (putF f p).length ≤ f.length + 1 := by
  induction f with
  | nil => simp [putF]
  | cons a f ih =>
    simp only [putF]
    split
    · simp
    · simp; omega
theorem prs_set {f : List Pr} {i : Nat} {x p : Pr} (hx : f[i]? = some x) (ht : x.t = p.t) : (prs f).set (i * 2 + 1) (.int .u64 p.v) = prs (f.set i p) := by
  induction f generalizing i with
  | nil => simp at hx
  | cons a f ih =>
    cases i with
    | zero =>
      simp at hx; subst hx
      simp [prs_cons, ht]
    | succ i =>
      rw [prs_cons, show (i + 1) * 2 + 1 = i * 2 + 1 + 1 + 1 by omega, List.set_cons_succ, List.set_cons_succ, ih (by simpa using hx), List.set_cons_succ, prs_cons]
set_option maxHeartbeats 1000000 in
theorem runs164 (e : TypeId) (f : List Pr) (tg : Nat) (t : Int) (hl : f.length ≤ 1000) : Runs Tryz.prog cfg 164 [.slice (some ⟨0, 0, none⟩) f.length tg, .int .i64 t] (AH.of [some (.arr e (prs f))])
    fun r H' => r = .ret (optR (getP f t)) ∧ H' = AH.of [some (.arr e (prs f))] := by
  refine Runs.ends ?_
  obtain ⟨n, hn⟩ : ∃ n, f.length = n := ⟨_, rfl⟩
  rw [hn]
  refine runs_by (tbl := []) (by simp) 1001 0 (af := a164) rfl ?_
  rw [a164, b164, run_eq]
  refine ⟨by simp, ?_⟩
  simp (implicitDefEqProofs := false)
  refine loop_view (sg_mono gX_ok (tabS_ok (by simp)) _ _ noY noY_mono) (fun m tm H => ∃ i : Nat, m + i = n ∧ (∀ (j : Nat) (y : Pr), j < i → f[j]? = some y → y.t ≠ t) ∧ tm 1 = .int .i64 t ∧ tm 8 = .slice (some ⟨0, 0, none⟩) n tg ∧ tm 9 = .int .i64 n ∧ tm 10 = .int .i64 i ∧ H = AH.of [some (.arr e (prs f))]) (m := n) ?_ (by omega) ?_
  · refine round_plan [] [0] [some (.arr e (prs f))] n (by omega) ?_ ?_ ⟨0, by omega, fun j y hj => by omega, ?_, ?_, ?_, ?_, rfl⟩ <;> simp
  rintro m tm H ⟨i, hm, hpre, t1, t8, t9, t10, rfl⟩
  by_cases hi : i < n
  · obtain ⟨x, hx⟩ : ∃ x, f[i]? = some x := ⟨f[i]'(by omega), List.getElem?_eq_getElem (by omega)⟩
    have hi' : (i : Int) < n := by omega
    have hwr := inc_i64 hi (by omega)
    have rx := many_prs hx
    have lx : i * 2 + 2 ≤ (prs f).length := by rw [prs_length]; omega
    by_cases hxt : x.t = t
    · have hg := getP_first hpre hx hxt
      simp (implicitDefEqProofs := false) [t1, t8, t9, t10, hi, hi', rx, lx, Pr.cells, hxt]
      refine ends_plan [] [0] ?_ ?_ ?_ <;> simp [hg, optR]
    · have hpre2 : ∀ (j : Nat) (y : Pr), j < i + 1 → f[j]? = some y → y.t ≠ t := fun j y hj hy => by
        by_cases e : j = i
        · subst e; rw [hx] at hy; cases hy; exact hxt
        · exact hpre j y (by omega) hy
      simp (implicitDefEqProofs := false) [t1, t8, t9, t10, hi, hi', rx, lx, Pr.cells, hxt, hwr]
      refine round_plan [] [0] [some (.arr e (prs f))] (m - 1) (by omega) ?_ ?_ ⟨i + 1, by omega, hpre2, ?_, ?_, ?_, ?_, rfl⟩ <;> simp [t1, t8, t9]
  · have hie : i = n := by omega
    subst hie
    have hg : getP f t = none := getP_none fun j y hy => hpre j y (by
      have := (List.getElem?_eq_some_iff.1 hy).1; omega) hy
    simp (implicitDefEqProofs := false) [t1, t8, t9, t10]
    refine ends_plan [] [0] ?_ ?_ ?_ <;> simp [hg, optR]
def asPrs : List Value → Option (List Pr)
  | [] => some []
  | .int .i64 t :: .int .u64 v :: l => (asPrs l).map (⟨t, v⟩ :: ·)
  | _ => none
theorem asPrs_prs : ∀ l : List Pr, asPrs (prs l) = some l
  | [] => rfl
  | e :: l => by rw [prs_cons, asPrs, asPrs_prs l]; rfl
theorem asPrs_inv : ∀ {cs : List Value} {l : List Pr}, asPrs cs = some l → cs = prs l
  | cs, l, e => by
    unfold asPrs at e
    split at e
    · cases e; rfl
    · simp only [Option.map_eq_some_iff] at e
      obtain ⟨l', e1, rfl⟩ := e
      rw [asPrs_inv e1]; rfl
    · cases e
def getPrs (H : AH GD) (k : Nat) : Option (TypeId × List Pr) :=
  match H.get k with
  | some (.arr e cs) => (asPrs cs).map fun h => (e, h)
  | _ => none
theorem getPrs_inv {H : AH GD} {k : Nat} {x : TypeId × List Pr} (hg : getPrs H k = some x) : H.get k = some (.arr x.1 (prs x.2)) := by
  unfold getPrs at hg
  split at hg
  · rename_i e cs he
    simp only [Option.map_eq_some_iff] at hg
    obtain ⟨h, h1, rfl⟩ := hg
    rw [he, asPrs_inv h1]
  · cases hg
attribute [simp] asPrs_prs getPrs
def st164 : CStep GD := fun args H => match args with
  | [.slice (some ⟨k, 0, none⟩) n _, .int .i64 t] => (getPrs H k).map fun x => (n = x.2.length ∧ x.2.length ≤ 1000, .ret (optR (getP x.2 t)), H)
  | _ => none
theorem st164_ok : CStepOk Tryz.prog cfg 164 st164 := by
  intro args H p r H' h hp
  unfold st164 at h
  split at h
  case h_2 => cases h
  simp only [Option.map_eq_some_iff] at h
  obtain ⟨x, hx, h⟩ := h
  rename_i k n tg t
  cases h
  rw [hp.1]
  exact (runs164 x.1 x.2 tg t hp.2).atK (ro_none rfl) [k] (by simp) (by simp) (by simp [getPrs_inv hx]) (by simp) (by simp [optR]) (by simp [upd_get (getPrs_inv hx)])
set_option maxHeartbeats 1000000 in
theorem runs246 (e : TypeId) (l : List Pr) (tg : Nat) (hl : l.length ≤ 1000) : Runs Tryz.prog cfg 246 [.slice (some ⟨0, 0, none⟩) l.length tg] (AH.of [some (.arr e (prs l))])
    fun r H' => r = .ret (.slice (some ⟨1, 0, none⟩) l.length 1) ∧ H' = AH.of [some (.arr e (prs l)), some (.arr 104 (prs l))] := by
  refine Runs.ends ?_
  refine runs_by (tbl := []) (by simp) 0 0 (af := a246) rfl ?_
  rw [a246, b246, run_eq]
  refine ⟨by simp, ?_⟩
  have h1 : l.length * 16 ≤ 140737488355328 ∧ l.length ≤ 9223372036854775807 := by omega
  have h2 := take_prs l
  have h3 : l.length * 2 ≤ (prs l).length := by rw [prs_length]; omega
  simp (implicitDefEqProofs := false) [h1, h2, h3]
  repeat' (first | with_reducible apply And.intro | with_reducible intro _)
  all_goals first
    | (refine ends_plan [] [0, 2] ?_ ?_ ?_ <;> simp; done)
    | (have : l = [] := by assumption
       subst this
       refine ends_wk (r' := .ret (.slice (some ⟨1, 0, none⟩) 0 1)) (leR_ret (by simp)) (ends_plan [.nil 104] [0, 1] ?_ ?_ ?_) <;> simp [prs])
def st246 : CStep GD := fun args H => match args with
  | [.slice (some ⟨k, 0, none⟩) n _] => (getPrs H k).map fun x => (n = x.2.length ∧ x.2.length ≤ 1000, .ret (.slice (some ⟨H.next, 0, none⟩) x.2.length 1), H.add (.arr 104 (prs x.2)))
  | _ => none
theorem st246_ok : CStepOk Tryz.prog cfg 246 st246 := by
  intro args H p r H' h hp
  unfold st246 at h
  split at h
  case h_2 => cases h
  simp only [Option.map_eq_some_iff] at h
  obtain ⟨x, hx, h⟩ := h
  rename_i k n tg
  cases h
  rw [hp.1]
  exact (runs246 x.1 x.2 tg hp.2).atK (ro_none rfl) [k] (by simp) (by simp) (by simp [getPrs_inv hx]) (by simp) (by simp) (by simp [upd_get (getPrs_inv hx)])
def tblPut : List (FuncId × CStep GD) := [(246, st246)]
theorem tblPut_ok : ∀ x ∈ tblPut, CStepOk Tryz.prog cfg x.1 x.2 := by simp [tblPut, st246_ok]
set_option maxHeartbeats 2000000 in
theorem runs215 (e : TypeId) (f : List Pr) (tg : Nat) (p : Pr) (hl : f.length ≤ 1000) : Runs Tryz.prog cfg 215 [.slice (some ⟨0, 0, none⟩) f.length tg, .agg #[.int .i64 p.t, .int .u64 p.v]] (AH.of [some (.arr e (prs f))])
    fun r H' => r = .ret (.slice (some ⟨1, 0, none⟩) (putF f p).length 1) ∧ H' = AH.of [some (.arr e (prs f)), some (.arr 104 (prs (putF f p)))] := by
  refine Runs.ends ?_
  obtain ⟨n, hn⟩ : ∃ n, f.length = n := ⟨_, rfl⟩
  rw [hn]
  have hn2 : n ≤ 1000 := by omega
  refine runs_by (tbl := tblPut) tblPut_ok 1001 0 (af := a215) rfl ?_
  rw [a215, b215, run_eq]
  refine ⟨by simp, ?_⟩
  simp (implicitDefEqProofs := false) [tblPut, st246, hn, hn2]
  refine loop_inv (sg_mono gX_ok (tabS_ok tblPut_ok) _ _ noY noY_mono) (fun m tm H => ∃ i : Nat, m + i = n ∧ (∀ (j : Nat) (y : Pr), j < i → f[j]? = some y → y.t ≠ p.t) ∧ tm 3 = .pointer (some ⟨1, 0, none⟩) ∧ tm 5 = .slice (some ⟨2, 0, none⟩) n 1 ∧ tm 10 = .int .i64 n ∧ tm 11 = .int .i64 i ∧ H = AH.of [some (.arr e (prs f)), some (.arr 104 [.int .i64 p.t, .int .u64 p.v]), some (.arr 104 (prs f))]) (m := n) ⟨0, by simp⟩ (by omega) ?_
  rintro m tm H ⟨i, hm, hpre, t3, t5, t10, t11, rfl⟩
  by_cases hi : i < n
  · obtain ⟨x, hx⟩ : ∃ x, f[i]? = some x := ⟨f[i]'(by omega), List.getElem?_eq_getElem (by omega)⟩
    have hi' : (i : Int) < n := by omega
    have hwr := inc_i64 hi (by omega)
    have rx := (prs_at hx).1
    have lx : i * 2 + 1 < (prs f).length := by rw [prs_length]; omega
    have lx2 : i * 2 + 2 ≤ (prs f).length := by rw [prs_length]; omega
    by_cases hxt : x.t = p.t
    · have hg := putF_at hpre hx hxt
      have hset := prs_set hx hxt
      simp (implicitDefEqProofs := false) [t3, t5, t10, t11, hi, hi', rx, lx, lx2, hxt, hset]
      refine ends_plan [] [0, 2] ?_ ?_ ?_ <;> simp [hg, hn]
    · have hpre2 : ∀ (j : Nat) (y : Pr), j < i + 1 → f[j]? = some y → y.t ≠ p.t := fun j y hj hy => by
        by_cases e : j = i
        · subst e; rw [hx] at hy; cases hy; exact hxt
        · exact hpre j y (by omega) hy
      simp (implicitDefEqProofs := false) [t3, t5, t10, t11, hi, hi', rx, lx, hxt, hwr]
      exact ⟨m - 1, by omega, i + 1, by omega, hpre2, by omega⟩
  · have hie : i = n := by omega
    subst hie
    have hg : putF f p = f ++ [p] := putF_new fun j y hy => hpre j y (by
      have := (List.getElem?_eq_some_iff.1 hy).1; omega) hy
    have h1 : (i + 1) * 16 ≤ 140737488355328 ∧ i ≤ 9223372036854775806 := by omega
    have h2 : (prs f).take (i * 2) = prs f := by rw [← hn]; exact take_prs f
    have h3 : i * 2 ≤ (prs f).length := by rw [prs_length]; omega
    simp (implicitDefEqProofs := false) [t3, t5, t10, t11, h1, h2, h3]
    refine ends_plan [] [0, 4] ?_ ?_ ?_ <;> simp [hg, hn, prs_append, prs_single]
def st215 : CStep GD := fun args H => match args with
  | [.slice (some ⟨k, 0, none⟩) n _, .agg ⟨[.int .i64 t, .int .u64 v]⟩] => (getPrs H k).map fun x => (n = x.2.length ∧ x.2.length ≤ 1000, .ret (.slice (some ⟨H.next, 0, none⟩) (putF x.2 ⟨t, v⟩).length 1), H.add (.arr 104 (prs (putF x.2 ⟨t, v⟩))))
  | _ => none
theorem st215_ok : CStepOk Tryz.prog cfg 215 st215 := by
  intro args H p r H' h hp
  unfold st215 at h
  split at h
  case h_2 => cases h
  simp only [Option.map_eq_some_iff] at h
  obtain ⟨x, hx, h⟩ := h
  rename_i k n tg t v
  cases h
  rw [hp.1]
  exact (runs215 x.1 x.2 tg ⟨t, v⟩ hp.2).atK (ro_none rfl) [k] (by simp) (by simp) (by simp [getPrs_inv hx]) (by simp) (by simp) (by simp [upd_get (getPrs_inv hx)])
end YtapbabkndhaemaaGreat
end Go.Proofs
/-
  WRITES: New, Push, Drop, Depth.
-/
namespace Go.Proofs
namespace YtapbabkndhaemaaGreat
open Go.Abs
theorem runs48 : Runs Tryz.prog cfg 48 [] (AH.of []) fun r H' => r = .ret (.pointer (some ⟨0, 0, none⟩)) ∧ H' = AH.of [some (.hi (.log [[]]))] := by
  refine Runs.ends ?_
  refine runs_by (tbl := []) (by simp) 0 2 (af := a48) rfl ?_
  rw [a48, b48, run_eq]
  refine ⟨by simp, ?_⟩
  simp (implicitDefEqProofs := false) [forms106, a106, b106]
  refine ends_plan [.nil 104, .pack (GD.stk [[]]) 0 [2], .pack (GD.log [[]]) 1 [0]] [1] ?_ ?_ ?_ <;> simp [frag_stk1, frag_log, AObj.mine, prs]
def st48 : CStep GD := fun args H => match args with
  | [] => some (True, .ret (.pointer (some ⟨H.next, 0, none⟩)), H.add (.hi (.log [[]])))
  | _ => none
theorem st48_ok : CStepOk Tryz.prog cfg 48 st48 := by
  intro args H p r H' h hp
  unfold st48 at h
  split at h
  case h_2 => cases h
  cases h
  exact runs48.atK (ro_none rfl) [] (by simp) (by simp) trivial (by simp) (by simp) (by simp)
theorem runs158 (f : List Pr) (fs : List (List Pr)) (hl : fs.length ≤ 100) : Runs Tryz.prog cfg 158 [.pointer (some ⟨0, 0, none⟩)] (AH.of [some (.hi (.log (f :: fs)))])
    fun r H' => r = .ret (.int .i64 (if 4 ≤ fs.length then 4 else 0)) ∧ H' = AH.of [some (.hi (if 4 ≤ fs.length then .log (f :: fs) else .log ([] :: f :: fs)))] := by
  refine Runs.ends ?_
  by_cases h : 4 ≤ fs.length
  · have h' : (4 : Int) ≤ fs.length := by omega
    refine runs_by (tbl := []) (by simp) 0 2 (af := a158) rfl ?_
    rw [a158, b158, run_eq]
    refine ⟨by simp, ?_⟩
    simp (implicitDefEqProofs := false) [forms106, a106, b106, frag_log, h, h']
    refine ends_plan [.pack (GD.log (f :: fs)) 0 [1]] [0] ?_ ?_ ?_ <;> simp [frag_log, AObj.mine, h]
  · have h' : ¬ (4 : Int) ≤ fs.length := by omega
    have hw : IntKind.i64.wrap ((fs.length : Int) + 1) = (fs.length : Int) + 1 := wrap_i64 (by omega) (by omega)
    refine runs_by (tbl := []) (by simp) 0 2 (af := a158) rfl ?_
    rw [a158, b158, run_eq]
    refine ⟨by simp, ?_⟩
    simp (implicitDefEqProofs := false) [forms106, a106, b106, frag_log, h, h', hw]
    refine ends_plan [.nil 104, .pack (GD.stk ([] :: f :: fs)) 2 [3, 1], .pack (GD.log ([] :: f :: fs)) 0 [2]] [0] ?_ ?_ ?_ <;> simp [frag_log, frag_stk2, AObj.mine, prs, h]
def d158 : DStep
  | .log (f :: fs), [] => some (fs.length ≤ 100, .int .i64 (if 4 ≤ fs.length then 4 else 0), if 4 ≤ fs.length then .log (f :: fs) else .log ([] :: f :: fs))
  | _, _ => none
theorem st158_ok : CStepOk Tryz.prog cfg 158 (dataSt d158) := data_ok fun d rest p v d' h hp => by
  unfold d158 at h
  split at h
  · cases h; exact ⟨rfl, rfl, runs158 _ _ hp⟩
  · cases h
theorem runs159 (f : List Pr) (fs : List (List Pr)) (hl : fs.length ≤ 100) : Runs Tryz.prog cfg 159 [.pointer (some ⟨0, 0, none⟩)] (AH.of [some (.hi (.log (f :: fs)))])
    fun r H' => r = .ret (.int .i64 (if fs = [] then 8 else 0)) ∧ H' = AH.of [some (.hi (if fs = [] then .log (f :: fs) else .log fs))] := by
  refine Runs.ends ?_
  cases fs with
  | nil =>
    refine runs_by (tbl := []) (by simp) 0 2 (af := a159) rfl ?_
    rw [a159, b159, run_eq]
    refine ⟨by simp, ?_⟩
    simp (implicitDefEqProofs := false) [forms214, a214, b214, frag_log]
    refine ends_plan [.pack (GD.log [f]) 0 [1]] [0] ?_ ?_ ?_ <;> simp [frag_log, AObj.mine]
  | cons g fs =>
    have hne : ¬ ((fs.length : Int) + 1 = 0) := by omega
    have hl' : fs.length + 1 ≤ 100 := hl
    have hw : IntKind.i64.wrap (fs.length : Int) = fs.length := wrap_i64 (by omega) (by omega)
    refine runs_by (tbl := []) (by simp) 0 2 (af := a159) rfl ?_
    rw [a159, b159, run_eq]
    refine ⟨by simp, ?_⟩
    simp (implicitDefEqProofs := false) [forms214, a214, b214, frag_log, frag_stk2, hne, hw]
    refine ends_plan [.pack (GD.log (g :: fs)) 0 [3]] [0] ?_ ?_ ?_ <;> simp [frag_log, AObj.mine]
def d159 : DStep
  | .log (f :: fs), [] => some (fs.length ≤ 100, .int .i64 (if fs = [] then 8 else 0), if fs = [] then .log (f :: fs) else .log fs)
  | _, _ => none
theorem st159_ok : CStepOk Tryz.prog cfg 159 (dataSt d159) := data_ok fun d rest p v d' h hp => by
  unfold d159 at h
  split at h
  · cases h; exact ⟨rfl, rfl, runs159 _ _ hp⟩
  · cases h
theorem runs107 (fs : List (List Pr)) : Runs Tryz.prog cfg 107 [.pointer (some ⟨0, 0, none⟩)] (AH.of [some (.hi (.log fs))])
    fun r H' => r = .ret (.int .i64 ((fs.length : Int) - 1)) ∧ H' = AH.of [some (.hi (.log fs))] := by
  refine Runs.ends ?_
  refine runs_by (tbl := []) (by simp) 0 2 (af := a107) rfl ?_
  rw [a107, b107, run_eq]
  refine ⟨by simp, ?_⟩
  simp (implicitDefEqProofs := false) [frag_log]
  refine ends_plan [.pack (GD.log fs) 0 [1]] [0] ?_ ?_ ?_ <;> simp [frag_log, AObj.mine]
def d107 : DStep
  | .log fs, [] => some (True, .int .i64 ((fs.length : Int) - 1), .log fs)
  | _, _ => none
theorem st107_ok : CStepOk Tryz.prog cfg 107 (dataSt d107) := data_ok fun d rest p v d' h hp => by
  unfold d107 at h
  split at h
  · cases h; exact ⟨rfl, rfl, runs107 _⟩
  · cases h
end YtapbabkndhaemaaGreat
end Go.Proofs
/-
  WRITES: Get, down the frames.
-/
namespace Go.Proofs
namespace YtapbabkndhaemaaGreat
open Go.Abs
def getLog (fs : List (List Pr)) (t : Int) : Option Int := fs.findSome? fun f => getP f t
theorem getLog_nil (t : Int) : getLog [] t = none := rfl
theorem getLog_some {f : List Pr} {fs : List (List Pr)} {t v : Int} (h : getP f t = some v) : getLog (f :: fs) t = some v := by simp [getLog, h]
theorem getLog_none {f : List Pr} {fs : List (List Pr)} {t : Int} (h : getP f t = none) : getLog (f :: fs) t = getLog fs t := by simp [getLog, h]
def lenLog (fs : List (List Pr)) : Int := ((fs.map List.length).sum : Nat)
theorem lenLog_nil : lenLog [] = 0 := rfl
theorem lenLog_cons (f : List Pr) (fs : List (List Pr)) : lenLog (f :: fs) = f.length + lenLog fs := by simp [lenLog]
theorem lenLog_nonneg (fs : List (List Pr)) : 0 ≤ lenLog fs := by simp [lenLog]
theorem lenLog_mem {f : List Pr} : ∀ {fs : List (List Pr)}, f ∈ fs → (f.length : Int) ≤ lenLog fs
  | g :: fs, h => by
    rw [lenLog_cons]
    rcases List.mem_cons.1 h with rfl | h
    · have := lenLog_nonneg fs; omega
    · have := lenLog_mem h; omega
def GoodLog (fs : List (List Pr)) : Prop := fs ≠ [] ∧ fs.length ≤ 5 ∧ lenLog fs ≤ 16
theorem GoodLog.le {fs : List (List Pr)} (h : GoodLog fs) : ∀ f ∈ fs, f.length ≤ 1000 := fun f hf => by
  have := lenLog_mem hf
  have := h.2.2
  omega
inductive GW (fs : List (List Pr)) (t dd : Int) (r : Loop) : Nat → AH GD → Prop
  | c0 (f : List Pr) (rs : List (List Pr)) (h : fs = f :: rs) : GW fs t dd r 5 (AH.of [some (.arr 168 [.pointer (some ⟨4, 0, none⟩), .int .i64 dd]), some (.arr 3 [.int .i64 t]), some (.arr 30 [.int .u64 0]), some (.arr 4 [.bool false]), some (.hi (.stk (f :: rs))), some (.arr 164 [.pointer (some ⟨4, 0, none⟩)]), some (.loopr r 0 none)])
  | c1 (g1 f : List Pr) (rs : List (List Pr)) (h : fs = g1 :: f :: rs) (n1 : getP g1 t = none) : GW fs t dd r 4 (AH.of [some (.arr 168 [.pointer (some ⟨4, 0, none⟩), .int .i64 dd]), some (.arr 3 [.int .i64 t]), some (.arr 30 [.int .u64 0]), some (.arr 4 [.bool false]), some (.arr 213 [.slice (some ⟨7, 0, none⟩) g1.length 1, .pointer (some ⟨8, 0, none⟩)]), some (.arr 164 [.pointer (some ⟨8, 0, none⟩)]), some (.loopr r 0 none), some (.arr 104 (prs g1)), some (.hi (.stk (f :: rs)))])
  | n1 (g1 : List Pr) (h : fs = [g1]) (n1 : getP g1 t = none) : GW fs t dd r 4 (AH.of [some (.arr 168 [.pointer (some ⟨4, 0, none⟩), .int .i64 dd]), some (.arr 3 [.int .i64 t]), some (.arr 30 [.int .u64 0]), some (.arr 4 [.bool false]), some (.arr 213 [.slice (some ⟨7, 0, none⟩) g1.length 1, .pointer none]), some (.arr 164 [.pointer none]), some (.loopr r 0 none), some (.arr 104 (prs g1))])
  | c2 (g1 g2 f : List Pr) (rs : List (List Pr)) (h : fs = g1 :: g2 :: f :: rs) (n1 : getP g1 t = none) (n2 : getP g2 t = none) : GW fs t dd r 3 (AH.of [some (.arr 168 [.pointer (some ⟨4, 0, none⟩), .int .i64 dd]), some (.arr 3 [.int .i64 t]), some (.arr 30 [.int .u64 0]), some (.arr 4 [.bool false]), some (.arr 213 [.slice (some ⟨7, 0, none⟩) g1.length 1, .pointer (some ⟨8, 0, none⟩)]), some (.arr 164 [.pointer (some ⟨10, 0, none⟩)]), some (.loopr r 0 none), some (.arr 104 (prs g1)), some (.arr 213 [.slice (some ⟨9, 0, none⟩) g2.length 1, .pointer (some ⟨10, 0, none⟩)]), some (.arr 104 (prs g2)), some (.hi (.stk (f :: rs)))])
  | n2 (g1 g2 : List Pr) (h : fs = [g1, g2]) (n1 : getP g1 t = none) (n2 : getP g2 t = none) : GW fs t dd r 3 (AH.of [some (.arr 168 [.pointer (some ⟨4, 0, none⟩), .int .i64 dd]), some (.arr 3 [.int .i64 t]), some (.arr 30 [.int .u64 0]), some (.arr 4 [.bool false]), some (.arr 213 [.slice (some ⟨7, 0, none⟩) g1.length 1, .pointer (some ⟨8, 0, none⟩)]), some (.arr 164 [.pointer none]), some (.loopr r 0 none), some (.arr 104 (prs g1)), some (.arr 213 [.slice (some ⟨9, 0, none⟩) g2.length 1, .pointer none]), some (.arr 104 (prs g2))])
  | c3 (g1 g2 g3 f : List Pr) (rs : List (List Pr)) (h : fs = g1 :: g2 :: g3 :: f :: rs) (n1 : getP g1 t = none) (n2 : getP g2 t = none) (n3 : getP g3 t = none) : GW fs t dd r 2 (AH.of [some (.arr 168 [.pointer (some ⟨4, 0, none⟩), .int .i64 dd]), some (.arr 3 [.int .i64 t]), some (.arr 30 [.int .u64 0]), some (.arr 4 [.bool false]), some (.arr 213 [.slice (some ⟨7, 0, none⟩) g1.length 1, .pointer (some ⟨8, 0, none⟩)]), some (.arr 164 [.pointer (some ⟨12, 0, none⟩)]), some (.loopr r 0 none), some (.arr 104 (prs g1)), some (.arr 213 [.slice (some ⟨9, 0, none⟩) g2.length 1, .pointer (some ⟨10, 0, none⟩)]), some (.arr 104 (prs g2)), some (.arr 213 [.slice (some ⟨11, 0, none⟩) g3.length 1, .pointer (some ⟨12, 0, none⟩)]), some (.arr 104 (prs g3)), some (.hi (.stk (f :: rs)))])
  | n3 (g1 g2 g3 : List Pr) (h : fs = [g1, g2, g3]) (n1 : getP g1 t = none) (n2 : getP g2 t = none) (n3 : getP g3 t = none) : GW fs t dd r 2 (AH.of [some (.arr 168 [.pointer (some ⟨4, 0, none⟩), .int .i64 dd]), some (.arr 3 [.int .i64 t]), some (.arr 30 [.int .u64 0]), some (.arr 4 [.bool false]), some (.arr 213 [.slice (some ⟨7, 0, none⟩) g1.length 1, .pointer (some ⟨8, 0, none⟩)]), some (.arr 164 [.pointer none]), some (.loopr r 0 none), some (.arr 104 (prs g1)), some (.arr 213 [.slice (some ⟨9, 0, none⟩) g2.length 1, .pointer (some ⟨10, 0, none⟩)]), some (.arr 104 (prs g2)), some (.arr 213 [.slice (some ⟨11, 0, none⟩) g3.length 1, .pointer none]), some (.arr 104 (prs g3))])
  | c4 (g1 g2 g3 g4 f : List Pr) (rs : List (List Pr)) (h : fs = g1 :: g2 :: g3 :: g4 :: f :: rs) (n1 : getP g1 t = none) (n2 : getP g2 t = none) (n3 : getP g3 t = none) (n4 : getP g4 t = none) : GW fs t dd r 1 (AH.of [some (.arr 168 [.pointer (some ⟨4, 0, none⟩), .int .i64 dd]), some (.arr 3 [.int .i64 t]), some (.arr 30 [.int .u64 0]), some (.arr 4 [.bool false]), some (.arr 213 [.slice (some ⟨7, 0, none⟩) g1.length 1, .pointer (some ⟨8, 0, none⟩)]), some (.arr 164 [.pointer (some ⟨14, 0, none⟩)]), some (.loopr r 0 none), some (.arr 104 (prs g1)), some (.arr 213 [.slice (some ⟨9, 0, none⟩) g2.length 1, .pointer (some ⟨10, 0, none⟩)]), some (.arr 104 (prs g2)), some (.arr 213 [.slice (some ⟨11, 0, none⟩) g3.length 1, .pointer (some ⟨12, 0, none⟩)]), some (.arr 104 (prs g3)), some (.arr 213 [.slice (some ⟨13, 0, none⟩) g4.length 1, .pointer (some ⟨14, 0, none⟩)]), some (.arr 104 (prs g4)), some (.hi (.stk (f :: rs)))])
  | n4 (g1 g2 g3 g4 : List Pr) (h : fs = [g1, g2, g3, g4]) (n1 : getP g1 t = none) (n2 : getP g2 t = none) (n3 : getP g3 t = none) (n4 : getP g4 t = none) : GW fs t dd r 1 (AH.of [some (.arr 168 [.pointer (some ⟨4, 0, none⟩), .int .i64 dd]), some (.arr 3 [.int .i64 t]), some (.arr 30 [.int .u64 0]), some (.arr 4 [.bool false]), some (.arr 213 [.slice (some ⟨7, 0, none⟩) g1.length 1, .pointer (some ⟨8, 0, none⟩)]), some (.arr 164 [.pointer none]), some (.loopr r 0 none), some (.arr 104 (prs g1)), some (.arr 213 [.slice (some ⟨9, 0, none⟩) g2.length 1, .pointer (some ⟨10, 0, none⟩)]), some (.arr 104 (prs g2)), some (.arr 213 [.slice (some ⟨11, 0, none⟩) g3.length 1, .pointer (some ⟨12, 0, none⟩)]), some (.arr 104 (prs g3)), some (.arr 213 [.slice (some ⟨13, 0, none⟩) g4.length 1, .pointer none]), some (.arr 104 (prs g4))])
  | n5 (g1 g2 g3 g4 g5 : List Pr) (h : fs = [g1, g2, g3, g4, g5]) (n1 : getP g1 t = none) (n2 : getP g2 t = none) (n3 : getP g3 t = none) (n4 : getP g4 t = none) (n5 : getP g5 t = none) : GW fs t dd r 0 (AH.of [some (.arr 168 [.pointer (some ⟨4, 0, none⟩), .int .i64 dd]), some (.arr 3 [.int .i64 t]), some (.arr 30 [.int .u64 0]), some (.arr 4 [.bool false]), some (.arr 213 [.slice (some ⟨7, 0, none⟩) g1.length 1, .pointer (some ⟨8, 0, none⟩)]), some (.arr 164 [.pointer none]), some (.loopr r 0 none), some (.arr 104 (prs g1)), some (.arr 213 [.slice (some ⟨9, 0, none⟩) g2.length 1, .pointer (some ⟨10, 0, none⟩)]), some (.arr 104 (prs g2)), some (.arr 213 [.slice (some ⟨11, 0, none⟩) g3.length 1, .pointer (some ⟨12, 0, none⟩)]), some (.arr 104 (prs g3)), some (.arr 213 [.slice (some ⟨13, 0, none⟩) g4.length 1, .pointer (some ⟨14, 0, none⟩)]), some (.arr 104 (prs g4)), some (.arr 213 [.slice (some ⟨15, 0, none⟩) g5.length 1, .pointer none]), some (.arr 104 (prs g5))])
def tblG : List (FuncId × CStep GD) := [(164, st164)]
theorem tblG_ok : ∀ x ∈ tblG, CStepOk Tryz.prog cfg x.1 x.2 := by simp [tblG, st164_ok]
set_option maxHeartbeats 8000000 in
theorem runs112 (fs : List (List Pr)) (t : Int) (hne : fs ≠ []) (hl : fs.length ≤ 5) (hf : ∀ f ∈ fs, f.length ≤ 1000) : Runs Tryz.prog cfg 112 [.pointer (some ⟨0, 0, none⟩), .int .i64 t] (AH.of [some (.hi (.log fs))])
    fun r H' => r = .ret (optR (getLog fs t)) ∧ H' = AH.of [some (.hi (.log fs))] := by
  refine Runs.ends ?_
  obtain ⟨dd, hdd⟩ : ∃ dd, (fs.length : Int) - 1 = dd := ⟨_, rfl⟩
  refine runs_by (tbl := tblG) tblG_ok 6 4 (af := a112) rfl ?_
  rw [a112, b112, run_eq]
  refine ⟨by simp, ?_⟩
  simp (implicitDefEqProofs := false) [tblG, forms163, a163, b163, forms217, a217, b217, frag_log, hdd]
  intro r
  refine loop_inv (sg_mono gX_ok (tabS_ok tblG_ok) _ _ _ (yldX_mono (sg_mono gX_ok (tabS_ok tblG_ok) _ _ noY noY_mono))) (fun m tm H => tm 0 = .func (.yield 6) #[] #[] ∧ tm 1 = .pointer (some ⟨5, 0, none⟩) ∧ GW fs t dd r m H) (m := 5) ?_ (by omega) ?_
  · cases fs with
    | nil => exact (hne rfl).elim
    | cons f rs => exact ⟨by simp, by simp, .c0 f rs rfl⟩
  rintro m tm H ⟨t0, t1, hw⟩
  cases hw with
  | c0 f rs h =>
    subst h
    have hfl : f.length ≤ 1000 := hf f (by simp)
    cases hv : getP f t with
    | some v =>
      cases rs with
      | nil =>
        simp (implicitDefEqProofs := false) [tblG, st164, t0, t1, hv, hfl, frag_stk1, optR]
        refine ends_plan [.pack (GD.stk [f]) 4 [7], .pack (GD.log (f :: [])) 0 [4]] [0] ?_ ?_ ?_ <;> simp [frag_stk1, frag_stk2, frag_log, AObj.mine, getLog_none, getLog_some, hv, optR, ← hdd]
      | cons q rs =>
        simp (implicitDefEqProofs := false) [tblG, st164, t0, t1, hv, hfl, frag_stk2, optR]
        refine ends_plan [.pack (GD.stk (f :: q :: rs)) 4 [7, 8], .pack (GD.log (f :: q :: rs)) 0 [4]] [0] ?_ ?_ ?_ <;> simp [frag_stk1, frag_stk2, frag_log, AObj.mine, getLog_none, getLog_some, hv, optR, ← hdd]
    | none =>
      cases rs with
      | nil =>
        simp (implicitDefEqProofs := false) [tblG, st164, t0, t1, hv, hfl, frag_stk1, optR]
        exact ⟨4, by omega, .n1 f rfl  hv⟩
      | cons q rs =>
        simp (implicitDefEqProofs := false) [tblG, st164, t0, t1, hv, hfl, frag_stk2, optR]
        exact ⟨4, by omega, .c1 f q rs rfl  hv⟩
  | c1 g1 f rs h n1 =>
    subst h
    have hfl : f.length ≤ 1000 := hf f (by simp)
    cases hv : getP f t with
    | some v =>
      cases rs with
      | nil =>
        simp (implicitDefEqProofs := false) [tblG, st164, t0, t1, hv, hfl, frag_stk1, optR]
        refine ends_plan [.pack (GD.stk [f]) 8 [9], .pack (GD.stk (g1 :: f :: [])) 4 [7, 8], .pack (GD.log (g1 :: f :: [])) 0 [4]] [0] ?_ ?_ ?_ <;> simp [frag_stk1, frag_stk2, frag_log, AObj.mine, getLog_none, getLog_some, n1, hv, optR, ← hdd]
      | cons q rs =>
        simp (implicitDefEqProofs := false) [tblG, st164, t0, t1, hv, hfl, frag_stk2, optR]
        refine ends_plan [.pack (GD.stk (f :: q :: rs)) 8 [9, 10], .pack (GD.stk (g1 :: f :: q :: rs)) 4 [7, 8], .pack (GD.log (g1 :: f :: q :: rs)) 0 [4]] [0] ?_ ?_ ?_ <;> simp [frag_stk1, frag_stk2, frag_log, AObj.mine, getLog_none, getLog_some, n1, hv, optR, ← hdd]
    | none =>
      cases rs with
      | nil =>
        simp (implicitDefEqProofs := false) [tblG, st164, t0, t1, hv, hfl, frag_stk1, optR]
        exact ⟨3, by omega, .n2 g1 f rfl n1 hv⟩
      | cons q rs =>
        simp (implicitDefEqProofs := false) [tblG, st164, t0, t1, hv, hfl, frag_stk2, optR]
        exact ⟨3, by omega, .c2 g1 f q rs rfl n1 hv⟩
  | n1 g1 h n1 =>
    subst h
    simp (implicitDefEqProofs := false) [t0, t1]
    refine ends_plan [.pack (GD.stk [g1]) 4 [7], .pack (GD.log (g1 :: [])) 0 [4]] [0] ?_ ?_ ?_ <;> simp [frag_stk1, frag_stk2, frag_log, AObj.mine, getLog_none, getLog_nil, optR, n1, ← hdd]
  | c2 g1 g2 f rs h n1 n2 =>
    subst h
    have hfl : f.length ≤ 1000 := hf f (by simp)
    cases hv : getP f t with
    | some v =>
      cases rs with
      | nil =>
        simp (implicitDefEqProofs := false) [tblG, st164, t0, t1, hv, hfl, frag_stk1, optR]
        refine ends_plan [.pack (GD.stk [f]) 10 [11], .pack (GD.stk (g2 :: f :: [])) 8 [9, 10], .pack (GD.stk (g1 :: g2 :: f :: [])) 4 [7, 8], .pack (GD.log (g1 :: g2 :: f :: [])) 0 [4]] [0] ?_ ?_ ?_ <;> simp [frag_stk1, frag_stk2, frag_log, AObj.mine, getLog_none, getLog_some, n1, n2, hv, optR, ← hdd]
      | cons q rs =>
        simp (implicitDefEqProofs := false) [tblG, st164, t0, t1, hv, hfl, frag_stk2, optR]
        refine ends_plan [.pack (GD.stk (f :: q :: rs)) 10 [11, 12], .pack (GD.stk (g2 :: f :: q :: rs)) 8 [9, 10], .pack (GD.stk (g1 :: g2 :: f :: q :: rs)) 4 [7, 8], .pack (GD.log (g1 :: g2 :: f :: q :: rs)) 0 [4]] [0] ?_ ?_ ?_ <;> simp [frag_stk1, frag_stk2, frag_log, AObj.mine, getLog_none, getLog_some, n1, n2, hv, optR, ← hdd]
    | none =>
      cases rs with
      | nil =>
        simp (implicitDefEqProofs := false) [tblG, st164, t0, t1, hv, hfl, frag_stk1, optR]
        exact ⟨2, by omega, .n3 g1 g2 f rfl n1 n2 hv⟩
      | cons q rs =>
        simp (implicitDefEqProofs := false) [tblG, st164, t0, t1, hv, hfl, frag_stk2, optR]
        exact ⟨2, by omega, .c3 g1 g2 f q rs rfl n1 n2 hv⟩
  | n2 g1 g2 h n1 n2 =>
    subst h
    simp (implicitDefEqProofs := false) [t0, t1]
    refine ends_plan [.pack (GD.stk [g2]) 8 [9], .pack (GD.stk (g1 :: g2 :: [])) 4 [7, 8], .pack (GD.log (g1 :: g2 :: [])) 0 [4]] [0] ?_ ?_ ?_ <;> simp [frag_stk1, frag_stk2, frag_log, AObj.mine, getLog_none, getLog_nil, optR, n1, n2, ← hdd]
  | c3 g1 g2 g3 f rs h n1 n2 n3 =>
    subst h
    have hfl : f.length ≤ 1000 := hf f (by simp)
    cases hv : getP f t with
    | some v =>
      cases rs with
      | nil =>
        simp (implicitDefEqProofs := false) [tblG, st164, t0, t1, hv, hfl, frag_stk1, optR]
        refine ends_plan [.pack (GD.stk [f]) 12 [13], .pack (GD.stk (g3 :: f :: [])) 10 [11, 12], .pack (GD.stk (g2 :: g3 :: f :: [])) 8 [9, 10], .pack (GD.stk (g1 :: g2 :: g3 :: f :: [])) 4 [7, 8], .pack (GD.log (g1 :: g2 :: g3 :: f :: [])) 0 [4]] [0] ?_ ?_ ?_ <;> simp [frag_stk1, frag_stk2, frag_log, AObj.mine, getLog_none, getLog_some, n1, n2, n3, hv, optR, ← hdd]
      | cons q rs =>
        simp (implicitDefEqProofs := false) [tblG, st164, t0, t1, hv, hfl, frag_stk2, optR]
        refine ends_plan [.pack (GD.stk (f :: q :: rs)) 12 [13, 14], .pack (GD.stk (g3 :: f :: q :: rs)) 10 [11, 12], .pack (GD.stk (g2 :: g3 :: f :: q :: rs)) 8 [9, 10], .pack (GD.stk (g1 :: g2 :: g3 :: f :: q :: rs)) 4 [7, 8], .pack (GD.log (g1 :: g2 :: g3 :: f :: q :: rs)) 0 [4]] [0] ?_ ?_ ?_ <;> simp [frag_stk1, frag_stk2, frag_log, AObj.mine, getLog_none, getLog_some, n1, n2, n3, hv, optR, ← hdd]
    | none =>
      cases rs with
      | nil =>
        simp (implicitDefEqProofs := false) [tblG, st164, t0, t1, hv, hfl, frag_stk1, optR]
        exact ⟨1, by omega, .n4 g1 g2 g3 f rfl n1 n2 n3 hv⟩
      | cons q rs =>
        simp (implicitDefEqProofs := false) [tblG, st164, t0, t1, hv, hfl, frag_stk2, optR]
        exact ⟨1, by omega, .c4 g1 g2 g3 f q rs rfl n1 n2 n3 hv⟩
  | n3 g1 g2 g3 h n1 n2 n3 =>
    subst h
    simp (implicitDefEqProofs := false) [t0, t1]
    refine ends_plan [.pack (GD.stk [g3]) 10 [11], .pack (GD.stk (g2 :: g3 :: [])) 8 [9, 10], .pack (GD.stk (g1 :: g2 :: g3 :: [])) 4 [7, 8], .pack (GD.log (g1 :: g2 :: g3 :: [])) 0 [4]] [0] ?_ ?_ ?_ <;> simp [frag_stk1, frag_stk2, frag_log, AObj.mine, getLog_none, getLog_nil, optR, n1, n2, n3, ← hdd]
  | c4 g1 g2 g3 g4 f rs h n1 n2 n3 n4 =>
    subst h
    have hfl : f.length ≤ 1000 := hf f (by simp)
    cases hv : getP f t with
    | some v =>
      cases rs with
      | nil =>
        simp (implicitDefEqProofs := false) [tblG, st164, t0, t1, hv, hfl, frag_stk1, optR]
        refine ends_plan [.pack (GD.stk [f]) 14 [15], .pack (GD.stk (g4 :: f :: [])) 12 [13, 14], .pack (GD.stk (g3 :: g4 :: f :: [])) 10 [11, 12], .pack (GD.stk (g2 :: g3 :: g4 :: f :: [])) 8 [9, 10], .pack (GD.stk (g1 :: g2 :: g3 :: g4 :: f :: [])) 4 [7, 8], .pack (GD.log (g1 :: g2 :: g3 :: g4 :: f :: [])) 0 [4]] [0] ?_ ?_ ?_ <;> simp [frag_stk1, frag_stk2, frag_log, AObj.mine, getLog_none, getLog_some, n1, n2, n3, n4, hv, optR, ← hdd]
      | cons q rs =>
        simp at hl
    | none =>
      cases rs with
      | nil =>
        simp (implicitDefEqProofs := false) [tblG, st164, t0, t1, hv, hfl, frag_stk1, optR]
        exact .n5 g1 g2 g3 g4 f rfl n1 n2 n3 n4 hv
      | cons q rs =>
        simp at hl
  | n4 g1 g2 g3 g4 h n1 n2 n3 n4 =>
    subst h
    simp (implicitDefEqProofs := false) [t0, t1]
    refine ends_plan [.pack (GD.stk [g4]) 12 [13], .pack (GD.stk (g3 :: g4 :: [])) 10 [11, 12], .pack (GD.stk (g2 :: g3 :: g4 :: [])) 8 [9, 10], .pack (GD.stk (g1 :: g2 :: g3 :: g4 :: [])) 4 [7, 8], .pack (GD.log (g1 :: g2 :: g3 :: g4 :: [])) 0 [4]] [0] ?_ ?_ ?_ <;> simp [frag_stk1, frag_stk2, frag_log, AObj.mine, getLog_none, getLog_nil, optR, n1, n2, n3, n4, ← hdd]
  | n5 g1 g2 g3 g4 g5 h n1 n2 n3 n4 n5 =>
    subst h
    simp (implicitDefEqProofs := false) [t0, t1]
    refine ends_plan [.pack (GD.stk [g5]) 14 [15], .pack (GD.stk (g4 :: g5 :: [])) 12 [13, 14], .pack (GD.stk (g3 :: g4 :: g5 :: [])) 10 [11, 12], .pack (GD.stk (g2 :: g3 :: g4 :: g5 :: [])) 8 [9, 10], .pack (GD.stk (g1 :: g2 :: g3 :: g4 :: g5 :: [])) 4 [7, 8], .pack (GD.log (g1 :: g2 :: g3 :: g4 :: g5 :: [])) 0 [4]] [0] ?_ ?_ ?_ <;> simp [frag_stk1, frag_stk2, frag_log, AObj.mine, getLog_none, getLog_nil, optR, n1, n2, n3, n4, n5, ← hdd]
def d112 : DStep
  | .log fs, [.int .i64 t] => some (GoodLog fs, optR (getLog fs t), .log fs)
  | _, _ => none
theorem st112_ok : CStepOk Tryz.prog cfg 112 (dataSt d112) := data_ok fun d rest p v d' h hp => by
  unfold d112 at h
  split at h
  · cases h; exact ⟨rfl, rfl, runs112 _ _ hp.1 hp.2.1 hp.le⟩
  · cases h
end YtapbabkndhaemaaGreat
end Go.Proofs
/-
  WRITES: Len, down the frames.
-/
namespace Go.Proofs
namespace YtapbabkndhaemaaGreat
open Go.Abs
inductive LW (fs : List (List Pr)) (dd : Int) (r : Loop) : Nat → AH GD → Prop
  | c0 (f : List Pr) (rs : List (List Pr)) (h : fs = f :: rs) (s : Int) (hs : s = 0) : LW fs dd r 5 (AH.of [some (.arr 168 [.pointer (some ⟨2, 0, none⟩), .int .i64 dd]), some (.arr 3 [.int .i64 s]), some (.hi (.stk (f :: rs))), some (.arr 164 [.pointer (some ⟨2, 0, none⟩)]), some (.loopr r 0 none)])
  | c1 (g1 f : List Pr) (rs : List (List Pr)) (h : fs = g1 :: f :: rs) (s : Int) (hs : s = (g1.length : Int)) : LW fs dd r 4 (AH.of [some (.arr 168 [.pointer (some ⟨2, 0, none⟩), .int .i64 dd]), some (.arr 3 [.int .i64 s]), some (.arr 213 [.slice (some ⟨5, 0, none⟩) g1.length 1, .pointer (some ⟨6, 0, none⟩)]), some (.arr 164 [.pointer (some ⟨6, 0, none⟩)]), some (.loopr r 0 none), some (.arr 104 (prs g1)), some (.hi (.stk (f :: rs)))])
  | n1 (g1 : List Pr) (h : fs = [g1]) (s : Int) (hs : s = (g1.length : Int)) : LW fs dd r 4 (AH.of [some (.arr 168 [.pointer (some ⟨2, 0, none⟩), .int .i64 dd]), some (.arr 3 [.int .i64 s]), some (.arr 213 [.slice (some ⟨5, 0, none⟩) g1.length 1, .pointer none]), some (.arr 164 [.pointer none]), some (.loopr r 0 none), some (.arr 104 (prs g1))])
  | c2 (g1 g2 f : List Pr) (rs : List (List Pr)) (h : fs = g1 :: g2 :: f :: rs) (s : Int) (hs : s = (g1.length : Int) + (g2.length : Int)) : LW fs dd r 3 (AH.of [some (.arr 168 [.pointer (some ⟨2, 0, none⟩), .int .i64 dd]), some (.arr 3 [.int .i64 s]), some (.arr 213 [.slice (some ⟨5, 0, none⟩) g1.length 1, .pointer (some ⟨6, 0, none⟩)]), some (.arr 164 [.pointer (some ⟨8, 0, none⟩)]), some (.loopr r 0 none), some (.arr 104 (prs g1)), some (.arr 213 [.slice (some ⟨7, 0, none⟩) g2.length 1, .pointer (some ⟨8, 0, none⟩)]), some (.arr 104 (prs g2)), some (.hi (.stk (f :: rs)))])
  | n2 (g1 g2 : List Pr) (h : fs = [g1, g2]) (s : Int) (hs : s = (g1.length : Int) + (g2.length : Int)) : LW fs dd r 3 (AH.of [some (.arr 168 [.pointer (some ⟨2, 0, none⟩), .int .i64 dd]), some (.arr 3 [.int .i64 s]), some (.arr 213 [.slice (some ⟨5, 0, none⟩) g1.length 1, .pointer (some ⟨6, 0, none⟩)]), some (.arr 164 [.pointer none]), some (.loopr r 0 none), some (.arr 104 (prs g1)), some (.arr 213 [.slice (some ⟨7, 0, none⟩) g2.length 1, .pointer none]), some (.arr 104 (prs g2))])
  | c3 (g1 g2 g3 f : List Pr) (rs : List (List Pr)) (h : fs = g1 :: g2 :: g3 :: f :: rs) (s : Int) (hs : s = (g1.length : Int) + (g2.length : Int) + (g3.length : Int)) : LW fs dd r 2 (AH.of [some (.arr 168 [.pointer (some ⟨2, 0, none⟩), .int .i64 dd]), some (.arr 3 [.int .i64 s]), some (.arr 213 [.slice (some ⟨5, 0, none⟩) g1.length 1, .pointer (some ⟨6, 0, none⟩)]), some (.arr 164 [.pointer (some ⟨10, 0, none⟩)]), some (.loopr r 0 none), some (.arr 104 (prs g1)), some (.arr 213 [.slice (some ⟨7, 0, none⟩) g2.length 1, .pointer (some ⟨8, 0, none⟩)]), some (.arr 104 (prs g2)), some (.arr 213 [.slice (some ⟨9, 0, none⟩) g3.length 1, .pointer (some ⟨10, 0, none⟩)]), some (.arr 104 (prs g3)), some (.hi (.stk (f :: rs)))])
  | n3 (g1 g2 g3 : List Pr) (h : fs = [g1, g2, g3]) (s : Int) (hs : s = (g1.length : Int) + (g2.length : Int) + (g3.length : Int)) : LW fs dd r 2 (AH.of [some (.arr 168 [.pointer (some ⟨2, 0, none⟩), .int .i64 dd]), some (.arr 3 [.int .i64 s]), some (.arr 213 [.slice (some ⟨5, 0, none⟩) g1.length 1, .pointer (some ⟨6, 0, none⟩)]), some (.arr 164 [.pointer none]), some (.loopr r 0 none), some (.arr 104 (prs g1)), some (.arr 213 [.slice (some ⟨7, 0, none⟩) g2.length 1, .pointer (some ⟨8, 0, none⟩)]), some (.arr 104 (prs g2)), some (.arr 213 [.slice (some ⟨9, 0, none⟩) g3.length 1, .pointer none]), some (.arr 104 (prs g3))])
  | c4 (g1 g2 g3 g4 f : List Pr) (rs : List (List Pr)) (h : fs = g1 :: g2 :: g3 :: g4 :: f :: rs) (s : Int) (hs : s = (g1.length : Int) + (g2.length : Int) + (g3.length : Int) + (g4.length : Int)) : LW fs dd r 1 (AH.of [some (.arr 168 [.pointer (some ⟨2, 0, none⟩), .int .i64 dd]), some (.arr 3 [.int .i64 s]), some (.arr 213 [.slice (some ⟨5, 0, none⟩) g1.length 1, .pointer (some ⟨6, 0, none⟩)]), some (.arr 164 [.pointer (some ⟨12, 0, none⟩)]), some (.loopr r 0 none), some (.arr 104 (prs g1)), some (.arr 213 [.slice (some ⟨7, 0, none⟩) g2.length 1, .pointer (some ⟨8, 0, none⟩)]), some (.arr 104 (prs g2)), some (.arr 213 [.slice (some ⟨9, 0, none⟩) g3.length 1, .pointer (some ⟨10, 0, none⟩)]), some (.arr 104 (prs g3)), some (.arr 213 [.slice (some ⟨11, 0, none⟩) g4.length 1, .pointer (some ⟨12, 0, none⟩)]), some (.arr 104 (prs g4)), some (.hi (.stk (f :: rs)))])
  | n4 (g1 g2 g3 g4 : List Pr) (h : fs = [g1, g2, g3, g4]) (s : Int) (hs : s = (g1.length : Int) + (g2.length : Int) + (g3.length : Int) + (g4.length : Int)) : LW fs dd r 1 (AH.of [some (.arr 168 [.pointer (some ⟨2, 0, none⟩), .int .i64 dd]), some (.arr 3 [.int .i64 s]), some (.arr 213 [.slice (some ⟨5, 0, none⟩) g1.length 1, .pointer (some ⟨6, 0, none⟩)]), some (.arr 164 [.pointer none]), some (.loopr r 0 none), some (.arr 104 (prs g1)), some (.arr 213 [.slice (some ⟨7, 0, none⟩) g2.length 1, .pointer (some ⟨8, 0, none⟩)]), some (.arr 104 (prs g2)), some (.arr 213 [.slice (some ⟨9, 0, none⟩) g3.length 1, .pointer (some ⟨10, 0, none⟩)]), some (.arr 104 (prs g3)), some (.arr 213 [.slice (some ⟨11, 0, none⟩) g4.length 1, .pointer none]), some (.arr 104 (prs g4))])
  | n5 (g1 g2 g3 g4 g5 : List Pr) (h : fs = [g1, g2, g3, g4, g5]) (s : Int) (hs : s = (g1.length : Int) + (g2.length : Int) + (g3.length : Int) + (g4.length : Int) + (g5.length : Int)) : LW fs dd r 0 (AH.of [some (.arr 168 [.pointer (some ⟨2, 0, none⟩), .int .i64 dd]), some (.arr 3 [.int .i64 s]), some (.arr 213 [.slice (some ⟨5, 0, none⟩) g1.length 1, .pointer (some ⟨6, 0, none⟩)]), some (.arr 164 [.pointer none]), some (.loopr r 0 none), some (.arr 104 (prs g1)), some (.arr 213 [.slice (some ⟨7, 0, none⟩) g2.length 1, .pointer (some ⟨8, 0, none⟩)]), some (.arr 104 (prs g2)), some (.arr 213 [.slice (some ⟨9, 0, none⟩) g3.length 1, .pointer (some ⟨10, 0, none⟩)]), some (.arr 104 (prs g3)), some (.arr 213 [.slice (some ⟨11, 0, none⟩) g4.length 1, .pointer (some ⟨12, 0, none⟩)]), some (.arr 104 (prs g4)), some (.arr 213 [.slice (some ⟨13, 0, none⟩) g5.length 1, .pointer none]), some (.arr 104 (prs g5))])
set_option maxHeartbeats 8000000 in
theorem runs216 (fs : List (List Pr)) (hne : fs ≠ []) (hl : fs.length ≤ 5) (hf : ∀ f ∈ fs, f.length ≤ 1000) : Runs Tryz.prog cfg 216 [.pointer (some ⟨0, 0, none⟩)] (AH.of [some (.hi (.log fs))])
    fun r H' => r = .ret (.int .i64 (lenLog fs)) ∧ H' = AH.of [some (.hi (.log fs))] := by
  refine Runs.ends ?_
  obtain ⟨dd, hdd⟩ : ∃ dd, (fs.length : Int) - 1 = dd := ⟨_, rfl⟩
  refine runs_by (tbl := []) (by simp) 6 4 (af := a216) rfl ?_
  rw [a216, b216, run_eq]
  refine ⟨by simp, ?_⟩
  simp (implicitDefEqProofs := false) [forms163, a163, b163, forms217, a217, b217, frag_log, hdd]
  intro r
  refine loop_inv (sg_mono gX_ok (tabS_ok (by simp)) _ _ _ (yldX_mono (sg_mono gX_ok (tabS_ok (by simp)) _ _ noY noY_mono))) (fun m tm H => tm 0 = .func (.yield 4) #[] #[] ∧ tm 1 = .pointer (some ⟨3, 0, none⟩) ∧ LW fs dd r m H) (m := 5) ?_ (by omega) ?_
  · cases fs with
    | nil => exact (hne rfl).elim
    | cons f rs => exact ⟨by simp, by simp, .c0 f rs rfl 0 rfl⟩
  rintro m tm H ⟨t0, t1, hw⟩
  cases hw with
  | c0 f rs h s hs =>
    subst h
    have hfl : f.length ≤ 1000 := hf f (by simp)
    have hs0 : ∀ x ∈ (f :: rs : List (List Pr)), x.length ≤ 1000 := hf
    have hwr : IntKind.i64.wrap (s + f.length) = s + f.length := wrap_i64 (by omega) (by omega)
    cases rs with
    | nil =>
      simp (implicitDefEqProofs := false) [t0, t1, hwr, frag_stk1]
      exact ⟨4, by omega, .n1 f rfl (s + f.length) (by omega)⟩
    | cons q rs =>
      simp (implicitDefEqProofs := false) [t0, t1, hwr, frag_stk2]
      exact ⟨4, by omega, .c1 f q rs rfl (s + f.length) (by omega)⟩
  | c1 g1 f rs h s hs =>
    subst h
    have hfl : f.length ≤ 1000 := hf f (by simp)
    have hs0 : ∀ x ∈ (g1 :: f :: rs : List (List Pr)), x.length ≤ 1000 := hf
    have hg1 : g1.length ≤ 1000 := hf g1 (by simp)
    have hwr : IntKind.i64.wrap (s + f.length) = s + f.length := wrap_i64 (by omega) (by omega)
    cases rs with
    | nil =>
      simp (implicitDefEqProofs := false) [t0, t1, hwr, frag_stk1]
      exact ⟨3, by omega, .n2 g1 f rfl (s + f.length) (by omega)⟩
    | cons q rs =>
      simp (implicitDefEqProofs := false) [t0, t1, hwr, frag_stk2]
      exact ⟨3, by omega, .c2 g1 f q rs rfl (s + f.length) (by omega)⟩
  | n1 g1 h s hs =>
    subst h
    simp (implicitDefEqProofs := false) [t0, t1]
    refine ends_plan [.pack (GD.stk [g1]) 2 [5], .pack (GD.log (g1 :: [])) 0 [2]] [0] ?_ ?_ ?_ <;> simp [frag_stk1, frag_stk2, frag_log, AObj.mine, lenLog_cons, lenLog_nil, ← hdd] <;> omega
  | c2 g1 g2 f rs h s hs =>
    subst h
    have hfl : f.length ≤ 1000 := hf f (by simp)
    have hs0 : ∀ x ∈ (g1 :: g2 :: f :: rs : List (List Pr)), x.length ≤ 1000 := hf
    have hg1 : g1.length ≤ 1000 := hf g1 (by simp)
    have hg2 : g2.length ≤ 1000 := hf g2 (by simp)
    have hwr : IntKind.i64.wrap (s + f.length) = s + f.length := wrap_i64 (by omega) (by omega)
    cases rs with
    | nil =>
      simp (implicitDefEqProofs := false) [t0, t1, hwr, frag_stk1]
      exact ⟨2, by omega, .n3 g1 g2 f rfl (s + f.length) (by omega)⟩
    | cons q rs =>
      simp (implicitDefEqProofs := false) [t0, t1, hwr, frag_stk2]
      exact ⟨2, by omega, .c3 g1 g2 f q rs rfl (s + f.length) (by omega)⟩
  | n2 g1 g2 h s hs =>
    subst h
    simp (implicitDefEqProofs := false) [t0, t1]
    refine ends_plan [.pack (GD.stk [g2]) 6 [7], .pack (GD.stk (g1 :: g2 :: [])) 2 [5, 6], .pack (GD.log (g1 :: g2 :: [])) 0 [2]] [0] ?_ ?_ ?_ <;> simp [frag_stk1, frag_stk2, frag_log, AObj.mine, lenLog_cons, lenLog_nil, ← hdd] <;> omega
  | c3 g1 g2 g3 f rs h s hs =>
    subst h
    have hfl : f.length ≤ 1000 := hf f (by simp)
    have hs0 : ∀ x ∈ (g1 :: g2 :: g3 :: f :: rs : List (List Pr)), x.length ≤ 1000 := hf
    have hg1 : g1.length ≤ 1000 := hf g1 (by simp)
    have hg2 : g2.length ≤ 1000 := hf g2 (by simp)
    have hg3 : g3.length ≤ 1000 := hf g3 (by simp)
    have hwr : IntKind.i64.wrap (s + f.length) = s + f.length := wrap_i64 (by omega) (by omega)
    cases rs with
    | nil =>
      simp (implicitDefEqProofs := false) [t0, t1, hwr, frag_stk1]
      exact ⟨1, by omega, .n4 g1 g2 g3 f rfl (s + f.length) (by omega)⟩
    | cons q rs =>
      simp (implicitDefEqProofs := false) [t0, t1, hwr, frag_stk2]
      exact ⟨1, by omega, .c4 g1 g2 g3 f q rs rfl (s + f.length) (by omega)⟩
  | n3 g1 g2 g3 h s hs =>
    subst h
    simp (implicitDefEqProofs := false) [t0, t1]
    refine ends_plan [.pack (GD.stk [g3]) 8 [9], .pack (GD.stk (g2 :: g3 :: [])) 6 [7, 8], .pack (GD.stk (g1 :: g2 :: g3 :: [])) 2 [5, 6], .pack (GD.log (g1 :: g2 :: g3 :: [])) 0 [2]] [0] ?_ ?_ ?_ <;> simp [frag_stk1, frag_stk2, frag_log, AObj.mine, lenLog_cons, lenLog_nil, ← hdd] <;> omega
  | c4 g1 g2 g3 g4 f rs h s hs =>
    subst h
    have hfl : f.length ≤ 1000 := hf f (by simp)
    have hs0 : ∀ x ∈ (g1 :: g2 :: g3 :: g4 :: f :: rs : List (List Pr)), x.length ≤ 1000 := hf
    have hg1 : g1.length ≤ 1000 := hf g1 (by simp)
    have hg2 : g2.length ≤ 1000 := hf g2 (by simp)
    have hg3 : g3.length ≤ 1000 := hf g3 (by simp)
    have hg4 : g4.length ≤ 1000 := hf g4 (by simp)
    have hwr : IntKind.i64.wrap (s + f.length) = s + f.length := wrap_i64 (by omega) (by omega)
    cases rs with
    | nil =>
      simp (implicitDefEqProofs := false) [t0, t1, hwr, frag_stk1]
      exact .n5 g1 g2 g3 g4 f rfl (s + f.length) (by omega)
    | cons q rs =>
      simp at hl
  | n4 g1 g2 g3 g4 h s hs =>
    subst h
    simp (implicitDefEqProofs := false) [t0, t1]
    refine ends_plan [.pack (GD.stk [g4]) 10 [11], .pack (GD.stk (g3 :: g4 :: [])) 8 [9, 10], .pack (GD.stk (g2 :: g3 :: g4 :: [])) 6 [7, 8], .pack (GD.stk (g1 :: g2 :: g3 :: g4 :: [])) 2 [5, 6], .pack (GD.log (g1 :: g2 :: g3 :: g4 :: [])) 0 [2]] [0] ?_ ?_ ?_ <;> simp [frag_stk1, frag_stk2, frag_log, AObj.mine, lenLog_cons, lenLog_nil, ← hdd] <;> omega
  | n5 g1 g2 g3 g4 g5 h s hs =>
    subst h
    simp (implicitDefEqProofs := false) [t0, t1]
    refine ends_plan [.pack (GD.stk [g5]) 12 [13], .pack (GD.stk (g4 :: g5 :: [])) 10 [11, 12], .pack (GD.stk (g3 :: g4 :: g5 :: [])) 8 [9, 10], .pack (GD.stk (g2 :: g3 :: g4 :: g5 :: [])) 6 [7, 8], .pack (GD.stk (g1 :: g2 :: g3 :: g4 :: g5 :: [])) 2 [5, 6], .pack (GD.log (g1 :: g2 :: g3 :: g4 :: g5 :: [])) 0 [2]] [0] ?_ ?_ ?_ <;> simp [frag_stk1, frag_stk2, frag_log, AObj.mine, lenLog_cons, lenLog_nil, ← hdd] <;> omega
def d216 : DStep
  | .log fs, [] => some (GoodLog fs, .int .i64 (lenLog fs), .log fs)
  | _, _ => none
theorem st216_ok : CStepOk Tryz.prog cfg 216 (dataSt d216) := data_ok fun d rest p v d' h hp => by
  unfold d216 at h
  split at h
  · cases h; exact ⟨rfl, rfl, runs216 _ hp.1 hp.2.1 hp.le⟩
  · cases h
end YtapbabkndhaemaaGreat
end Go.Proofs
/-
  VALUES: which are right; which are the same.
-/
namespace Go.Proofs
namespace YtapbabkndhaemaaGreat
open Go.Abs
def rightB (v : Int) : Bool := decide (bAndNot .u64 v 9223372036854775808 ≤ 9218868437227405312) || decide (v = 9221120237041090560)
theorem runs43 (v : Int) (H : AH GD) : Runs Tryz.prog cfg 43 [.int .u64 v] H fun r H' => r = .ret (.bool (rightB v)) ∧ H' = H := by
  refine runs_by (tbl := []) (by simp) 0 0 (af := a43) rfl ?_
  rw [a43, b43, run_eq]
  refine ⟨by simp, ?_⟩
  simp (implicitDefEqProofs := false)
  repeat' (first | with_reducible apply And.intro | with_reducible intro _)
  all_goals (simp [rightB, *] <;> omega)
def st43 : CStep GD := fun args H => match args with
  | [x] => (asU x).map fun v => (True, .ret (.bool (rightB v)), H)
  | _ => none
theorem st43_ok : CStepOk Tryz.prog cfg 43 st43 := by
  intro args H p r H' h hp
  unfold st43 at h
  split at h
  case h_2 => cases h
  simp only [Option.map_eq_some_iff] at h
  obtain ⟨v, hv, h⟩ := h
  cases h
  rw [asU_inv hv]
  exact runs43 v H
theorem runs97 (v : Int) (h0 : 0 ≤ v) (h1 : v < 18446744073709551616) (H : AH GD) : Runs Tryz.prog cfg 97 [.int .u64 v] H fun r H' => r = .ret (.bool (rightB v)) ∧ H' = H := by
  refine runs_by (tbl := []) (by simp) 0 0 (af := a97) rfl ?_
  rw [a97, b97, run_eq]
  refine ⟨by simp, ?_⟩
  have e : abin .eql (.float .f64 v.toNat) (.float .f64 v.toNat) = some (.bool (decide (bAndNot .u64 v 9223372036854775808 ≤ 9218868437227405312))) := by
    simp only [abin, order_self, bAndNot_sign h0 h1]
    simp
    omega
  simp (implicitDefEqProofs := false) [e]
  repeat' (first | with_reducible apply And.intro | with_reducible intro _)
  all_goals (simp [rightB, *] <;> omega)
def st97 : CStep GD := fun args H => match args with
  | [x] => (asU x).map fun v => (0 ≤ v ∧ v < 18446744073709551616, .ret (.bool (rightB v)), H)
  | _ => none
theorem st97_ok : CStepOk Tryz.prog cfg 97 st97 := by
  intro args H p r H' h hp
  unfold st97 at h
  split at h
  case h_2 => cases h
  simp only [Option.map_eq_some_iff] at h
  obtain ⟨v, hv, h⟩ := h
  cases h
  rw [asU_inv hv]
  exact runs97 v hp.1 hp.2 H
end YtapbabkndhaemaaGreat
end Go.Proofs
/-
  WRITES: Put.
-/
namespace Go.Proofs
namespace YtapbabkndhaemaaGreat
open Go.Abs
def putCode (f : List Pr) (fs : List (List Pr)) (t v : Int) : Int :=
  if t < 0 ∨ 12 ≤ t then 2 else if rightB v = false then 3 else if (getP f t).isNone = true ∧ 16 ≤ lenLog (f :: fs) then 4 else 0
def tblP : List (FuncId × CStep GD) := [(164, st164), (215, st215), (216, dataSt d216), (43, st43)]
theorem tblP_ok : ∀ x ∈ tblP, CStepOk Tryz.prog cfg x.1 x.2 := by simp [tblP, st164_ok, st215_ok, st216_ok, st43_ok]
set_option maxHeartbeats 4000000 in
theorem runs161 (f : List Pr) (fs : List (List Pr)) (t v : Int) (hg : GoodLog (f :: fs)) (hv : 0 ≤ v ∧ v < 18446744073709551616) : Runs Tryz.prog cfg 161 [.pointer (some ⟨0, 0, none⟩), .int .i64 t, .int .u64 v] (AH.of [some (.hi (.log (f :: fs)))])
    fun r H' => r = .ret (.int .i64 (putCode f fs t v)) ∧ H' = AH.of [some (.hi (if putCode f fs t v = 0 then .log (putF f ⟨t, v⟩ :: fs) else .log (f :: fs)))] := by
  refine Runs.ends ?_
  have hfl : f.length ≤ 1000 := hg.le f (by simp)
  have hgg : GoodLog (f :: fs) := hg
  by_cases h1 : t < 0
  · refine runs_by (tbl := tblP) tblP_ok 0 2 (af := a161) rfl ?_
    rw [a161, b161, run_eq]
    refine ⟨by simp, ?_⟩
    simp (implicitDefEqProofs := false) [h1]
    refine ends_plan [] [0] ?_ ?_ ?_ <;> simp [putCode, h1]
  by_cases h2 : 12 ≤ t
  · refine runs_by (tbl := tblP) tblP_ok 0 2 (af := a161) rfl ?_
    rw [a161, b161, run_eq]
    refine ⟨by simp, ?_⟩
    simp (implicitDefEqProofs := false) [h1, h2]
    refine ends_plan [] [0] ?_ ?_ ?_ <;> simp [putCode, h1, h2]
  cases h3 : rightB v with
  | false =>
    refine runs_by (tbl := tblP) tblP_ok 0 2 (af := a161) rfl ?_
    rw [a161, b161, run_eq]
    refine ⟨by simp, ?_⟩
    simp (implicitDefEqProofs := false) [h1, h2, h3, tblP, st43, hv.1, hv.2]
    refine ends_plan [] [0] ?_ ?_ ?_ <;> simp [putCode, h1, h2, h3]
  | true =>
    have done : ∀ (hc : putCode f fs t v = 0), (GD.log (putF f ⟨t, v⟩ :: fs)) = if putCode f fs t v = 0 then .log (putF f ⟨t, v⟩ :: fs) else .log (f :: fs) := fun hc => by rw [if_pos hc]
    cases h4 : getP f t with
    | some w =>
      have hc : putCode f fs t v = 0 := by simp [putCode, h1, h2, h3, h4]
      cases fs with
      | nil =>
        refine runs_by (tbl := tblP) tblP_ok 0 2 (af := a161) rfl ?_
        rw [a161, b161, run_eq]
        refine ⟨by simp, ?_⟩
        simp (implicitDefEqProofs := false) [h1, h2, h3, h4, tblP, st43, hv.1, hv.2, st164, st215, hfl, optR, forms106, a106, b106, frag_log, frag_stk1]
        refine ends_plan [.pack (GD.stk [putF f ⟨t, v⟩]) 4 [3], .pack (GD.log [putF f ⟨t, v⟩]) 0 [4]] [0] ?_ ?_ ?_ <;> simp [hc, frag_stk1, frag_log, AObj.mine]
      | cons q rs =>
        refine runs_by (tbl := tblP) tblP_ok 0 2 (af := a161) rfl ?_
        rw [a161, b161, run_eq]
        refine ⟨by simp, ?_⟩
        simp (implicitDefEqProofs := false) [h1, h2, h3, h4, tblP, st43, hv.1, hv.2, st164, st215, hfl, optR, forms106, a106, b106, frag_log, frag_stk2]
        refine ends_plan [.pack (GD.stk (putF f ⟨t, v⟩ :: q :: rs)) 5 [4, 3], .pack (GD.log (putF f ⟨t, v⟩ :: q :: rs)) 0 [5]] [0] ?_ ?_ ?_ <;> simp [hc, frag_stk2, frag_log, AObj.mine]
    | none =>
      by_cases h5 : 16 ≤ lenLog (f :: fs)
      · have hc : putCode f fs t v = 4 := by simp [putCode, h1, h2, h3, h4, h5]
        cases fs with
        | nil =>
          refine runs_by (tbl := tblP) tblP_ok 0 2 (af := a161) rfl ?_
          rw [a161, b161, run_eq]
          refine ⟨by simp, ?_⟩
          simp (implicitDefEqProofs := false) [h1, h2, h3, h4, tblP, st43, hv.1, hv.2, st164, st215, hfl, optR, forms106, a106, b106, frag_log, frag_stk1]
          refine pack_first [.pack (GD.stk [f]) 1 [2], .pack (GD.log [f]) 0 [1]] ?_ ?_
          · simp [frag_stk1, frag_log, AObj.mine]
          simp (implicitDefEqProofs := false) [tblP, dataSt, d216, hgg, h5]
          refine ends_plan [] [0] ?_ ?_ ?_ <;> simp [hc]
        | cons q rs =>
          refine runs_by (tbl := tblP) tblP_ok 0 2 (af := a161) rfl ?_
          rw [a161, b161, run_eq]
          refine ⟨by simp, ?_⟩
          simp (implicitDefEqProofs := false) [h1, h2, h3, h4, tblP, st43, hv.1, hv.2, st164, st215, hfl, optR, forms106, a106, b106, frag_log, frag_stk2]
          refine pack_first [.pack (GD.stk (f :: q :: rs)) 1 [2, 3], .pack (GD.log (f :: q :: rs)) 0 [1]] ?_ ?_
          · simp [frag_stk2, frag_log, AObj.mine]
          simp (implicitDefEqProofs := false) [tblP, dataSt, d216, hgg, h5]
          refine ends_plan [] [0] ?_ ?_ ?_ <;> simp [hc]
      · have hc : putCode f fs t v = 0 := by simp [putCode, h1, h2, h3, h4, h5]
        cases fs with
        | nil =>
          refine runs_by (tbl := tblP) tblP_ok 0 2 (af := a161) rfl ?_
          rw [a161, b161, run_eq]
          refine ⟨by simp, ?_⟩
          simp (implicitDefEqProofs := false) [h1, h2, h3, h4, tblP, st43, hv.1, hv.2, st164, st215, hfl, optR, forms106, a106, b106, frag_log, frag_stk1]
          refine pack_first [.pack (GD.stk [f]) 1 [2], .pack (GD.log [f]) 0 [1]] ?_ ?_
          · simp [frag_stk1, frag_log, AObj.mine]
          simp (implicitDefEqProofs := false) [tblP, dataSt, d216, hgg, h5, st215, hfl, forms106, a106, b106, frag_log, frag_stk1]
          refine ends_plan [.pack (GD.stk [putF f ⟨t, v⟩]) 6 [5], .pack (GD.log [putF f ⟨t, v⟩]) 0 [6]] [0] ?_ ?_ ?_ <;> simp [hc, frag_stk1, frag_log, AObj.mine]
        | cons q rs =>
          refine runs_by (tbl := tblP) tblP_ok 0 2 (af := a161) rfl ?_
          rw [a161, b161, run_eq]
          refine ⟨by simp, ?_⟩
          simp (implicitDefEqProofs := false) [h1, h2, h3, h4, tblP, st43, hv.1, hv.2, st164, st215, hfl, optR, forms106, a106, b106, frag_log, frag_stk2]
          refine pack_first [.pack (GD.stk (f :: q :: rs)) 1 [2, 3], .pack (GD.log (f :: q :: rs)) 0 [1]] ?_ ?_
          · simp [frag_stk2, frag_log, AObj.mine]
          simp (implicitDefEqProofs := false) [tblP, dataSt, d216, hgg, h5, st215, hfl, forms106, a106, b106, frag_log, frag_stk2]
          refine ends_plan [.pack (GD.stk (putF f ⟨t, v⟩ :: q :: rs)) 8 [7, 6], .pack (GD.log (putF f ⟨t, v⟩ :: q :: rs)) 0 [8]] [0] ?_ ?_ ?_ <;> simp [hc, frag_stk2, frag_log, AObj.mine]
def d161 : DStep
  | .log (f :: fs), [.int .i64 t, .int .u64 v] => some (GoodLog (f :: fs) ∧ 0 ≤ v ∧ v < 18446744073709551616, .int .i64 (putCode f fs t v), if putCode f fs t v = 0 then .log (putF f ⟨t, v⟩ :: fs) else .log (f :: fs))
  | _, _ => none
theorem st161_ok : CStepOk Tryz.prog cfg 161 (dataSt d161) := data_ok fun d rest p v d' h hp => by
  unfold d161 at h
  split at h
  · cases h; exact ⟨rfl, rfl, runs161 _ _ _ _ hp.1 hp.2⟩
  · cases h
end YtapbabkndhaemaaGreat
end Go.Proofs
/-
  WRITES: Merge, All.
-/
namespace Go.Proofs
namespace YtapbabkndhaemaaGreat
open Go.Abs
def mergeF (g f : List Pr) : List Pr := f.foldl putF g
theorem mergeF_succ {g f : List Pr} {i : Nat} {x : Pr} (h : f[i]? = some x) : mergeF g (f.take (i + 1)) = putF (mergeF g (f.take i)) x := by
  unfold mergeF
  rw [List.take_add_one, h, List.foldl_append]
  rfl
theorem mergeF_le (g f : List Pr) : (mergeF g f).length ≤ g.length + f.length := by
  unfold mergeF
  induction f generalizing g with
  | nil => simp
  | cons a f ih =>
    have h1 := ih (putF g a)
    have h2 := putF_length_le g a
    simp only [List.foldl_cons, List.length_cons]
    omega
def tblM : List (FuncId × CStep GD) := [(215, st215)]
theorem tblM_ok : ∀ x ∈ tblM, CStepOk Tryz.prog cfg x.1 x.2 := by simp [tblM, st215_ok]
theorem runs160_1 (f : List Pr) : Runs Tryz.prog cfg 160 [.pointer (some ⟨0, 0, none⟩)] (AH.of [some (.hi (.log [f]))])
    fun r H' => r = .ret (.int .i64 8) ∧ H' = AH.of [some (.hi (.log [f]))] := by
  refine Runs.ends ?_
  refine runs_by (tbl := []) (by simp) 0 2 (af := a160) rfl ?_
  rw [a160, b160, run_eq]
  refine ⟨by simp, ?_⟩
  simp (implicitDefEqProofs := false) [forms214, a214, b214, frag_log]
  refine ends_plan [.pack (GD.log [f]) 0 [1]] [0] ?_ ?_ ?_ <;> simp [frag_log, AObj.mine]
set_option maxHeartbeats 4000000 in
theorem runs160_2 (f g : List Pr) (rs : List (List Pr)) (hl : rs.length ≤ 100) (hfg : f.length + g.length ≤ 1000) : Runs Tryz.prog cfg 160 [.pointer (some ⟨0, 0, none⟩)] (AH.of [some (.hi (.log (f :: g :: rs)))])
    fun r H' => r = .ret (.int .i64 0) ∧ H' = AH.of [some (.hi (.log (mergeF g f :: rs)))] := by
  refine Runs.ends ?_
  have hne : ¬ ((rs.length : Int) + 1 = 0) := by omega
  have hw : IntKind.i64.wrap (rs.length : Int) = rs.length := wrap_i64 (by omega) (by omega)
  obtain ⟨n, hn⟩ : ∃ n, f.length = n := ⟨_, rfl⟩
  cases rs with
  | nil =>
    refine runs_by (tbl := tblM) tblM_ok 1001 2 (af := a160) rfl ?_
    rw [a160, b160, run_eq]
    refine ⟨by simp, ?_⟩
    have hw0 : IntKind.i64.wrap 0 = 0 := by decide
    simp (implicitDefEqProofs := false) [forms214, a214, b214, frag_log, frag_stk2, frag_stk1, hn, hw0]
    refine loop_view (sg_mono gX_ok (tabS_ok tblM_ok) _ _ noY noY_mono) (fun m tm H => ∃ i : Nat, m + i = n ∧ tm 0 = .pointer (some ⟨0, 0, none⟩) ∧ tm 23 = .slice (some ⟨2, 0, none⟩) n 1 ∧ tm 24 = .int .i64 n ∧ tm 25 = .int .i64 i ∧ ∃ q : Nat, tm 5 = .slice (some ⟨q, 0, none⟩) (mergeF g (f.take i)).length 1 ∧
      ((q = 4 ∧ mergeF g (f.take i) = g ∧ H = AH.of [some (.arr 168 [.pointer (some ⟨3, 0, none⟩), .int .i64 0]), none, some (.arr 104 (prs f)), some (.arr 213 [.slice (some ⟨4, 0, none⟩) g.length 1, .pointer none]), some (.arr 104 (prs g))]) ∨
       (q = 5 ∧ H = AH.of [some (.arr 168 [.pointer (some ⟨3, 0, none⟩), .int .i64 0]), none, some (.arr 104 (prs f)), some (.arr 213 [.slice (some ⟨4, 0, none⟩) g.length 1, .pointer none]), some (.arr 104 (prs g)), some (.arr 104 (prs (mergeF g (f.take i))))]))) (m := n) ?_ (by omega) ?_
    · refine round_plan [] [0, 1, 2, 3, 4] [some (.arr 168 [.pointer (some ⟨3, 0, none⟩), .int .i64 0]), none, some (.arr 104 (prs f)), some (.arr 213 [.slice (some ⟨4, 0, none⟩) g.length 1, .pointer none]), some (.arr 104 (prs g))] n (by omega) ?_ ?_ ⟨0, by omega, ?_, ?_, ?_, ?_, 4, ?_, .inl ⟨rfl, rfl, rfl⟩⟩ <;> simp [mergeF]
    rintro m tm H ⟨i, hm, t0, t23, t24, t25, q, t5, hH⟩
    have hml : (mergeF g (f.take i)).length ≤ 1000 := by
      have := mergeF_le g (f.take i)
      rw [List.length_take] at this
      omega
    by_cases hi : i < n
    · obtain ⟨x, hx⟩ : ∃ x, f[i]? = some x := ⟨f[i]'(by omega), List.getElem?_eq_getElem (by omega)⟩
      have hi' : (i : Int) < n := by omega
      have hwr := inc_i64 hi (by omega)
      have rx := many_prs hx
      have lx : i * 2 + 2 ≤ (prs f).length := by rw [prs_length]; omega
      have hsuc := mergeF_succ (g := g) hx
      rcases hH with ⟨rfl, hg, rfl⟩ | ⟨rfl, rfl⟩
      · rw [hg] at t5 hsuc hml
        simp (implicitDefEqProofs := false) [tblM, st215, t0, t5, t23, t24, t25, hi, hi', rx, lx, Pr.cells, hwr, hml]
        refine round_plan [] [0, 1, 2, 3, 4, 6] [some (.arr 168 [.pointer (some ⟨3, 0, none⟩), .int .i64 0]), none, some (.arr 104 (prs f)), some (.arr 213 [.slice (some ⟨4, 0, none⟩) g.length 1, .pointer none]), some (.arr 104 (prs g)), some (.arr 104 (prs (mergeF g (f.take (i + 1)))))] (m - 1) (by omega) ?_ ?_ ⟨i + 1, by omega, ?_, ?_, ?_, ?_, 5, ?_, .inr ⟨rfl, rfl⟩⟩ <;> simp [t0, t23, t24, hsuc]
      · simp (implicitDefEqProofs := false) [tblM, st215, t0, t5, t23, t24, t25, hi, hi', rx, lx, Pr.cells, hwr, hml]
        refine round_plan [] [0, 1, 2, 3, 4, 7] [some (.arr 168 [.pointer (some ⟨3, 0, none⟩), .int .i64 0]), none, some (.arr 104 (prs f)), some (.arr 213 [.slice (some ⟨4, 0, none⟩) g.length 1, .pointer none]), some (.arr 104 (prs g)), some (.arr 104 (prs (mergeF g (f.take (i + 1)))))] (m - 1) (by omega) ?_ ?_ ⟨i + 1, by omega, ?_, ?_, ?_, ?_, 5, ?_, .inr ⟨rfl, rfl⟩⟩ <;> simp [t0, t23, t24, hsuc]
    · have hie : i = n := by omega
      subst hie
      have hf : f.take i = f := List.take_of_length_le (by omega)
      rw [hf] at t5 hH
      rcases hH with ⟨rfl, hg, rfl⟩ | ⟨rfl, rfl⟩
      · rw [hg] at t5
        simp (implicitDefEqProofs := false) [t0, t5, t23, t24, t25, forms106, a106, b106]
        refine ends_plan [.pack (GD.stk [g]) 5 [4], .pack (GD.log [g]) 0 [5]] [0] ?_ ?_ ?_ <;> simp [frag_stk1, frag_log, AObj.mine, hg]
      · simp (implicitDefEqProofs := false) [t0, t5, t23, t24, t25, forms106, a106, b106]
        refine ends_plan [.pack (GD.stk [mergeF g f]) 6 [5], .pack (GD.log [mergeF g f]) 0 [6]] [0] ?_ ?_ ?_ <;> simp [frag_stk1, frag_log, AObj.mine]
  | cons p rs =>
    obtain ⟨dd, hdd⟩ : ∃ dd, (rs.length : Int) + 1 = dd := ⟨_, rfl⟩
    have hw2 : IntKind.i64.wrap ((rs.length : Int) + 1) = (rs.length : Int) + 1 := wrap_i64 (by omega) (by simp at hl; omega)
    have hne2 : ¬ (dd + 1 = 0) := by omega
    rw [hdd] at hw2
    refine runs_by (tbl := tblM) tblM_ok 1001 2 (af := a160) rfl ?_
    rw [a160, b160, run_eq]
    refine ⟨by simp, ?_⟩
    simp (implicitDefEqProofs := false) [forms214, a214, b214, frag_log, frag_stk2, hn, hdd, hw2, hne2]
    refine loop_view (sg_mono gX_ok (tabS_ok tblM_ok) _ _ noY noY_mono) (fun m tm H => ∃ i : Nat, m + i = n ∧ tm 0 = .pointer (some ⟨0, 0, none⟩) ∧ tm 23 = .slice (some ⟨2, 0, none⟩) n 1 ∧ tm 24 = .int .i64 n ∧ tm 25 = .int .i64 i ∧ ∃ q : Nat, tm 5 = .slice (some ⟨q, 0, none⟩) (mergeF g (f.take i)).length 1 ∧
      ((q = 4 ∧ mergeF g (f.take i) = g ∧ H = AH.of [some (.arr 168 [.pointer (some ⟨3, 0, none⟩), .int .i64 dd]), none, some (.arr 104 (prs f)), some (.arr 213 [.slice (some ⟨4, 0, none⟩) g.length 1, .pointer (some ⟨5, 0, none⟩)]), some (.arr 104 (prs g)), some (.hi (.stk (p :: rs)))]) ∨
       (q = 6 ∧ H = AH.of [some (.arr 168 [.pointer (some ⟨3, 0, none⟩), .int .i64 dd]), none, some (.arr 104 (prs f)), some (.arr 213 [.slice (some ⟨4, 0, none⟩) g.length 1, .pointer (some ⟨5, 0, none⟩)]), some (.arr 104 (prs g)), some (.hi (.stk (p :: rs))), some (.arr 104 (prs (mergeF g (f.take i))))]))) (m := n) ?_ (by omega) ?_
    · refine round_plan [] [0, 1, 2, 3, 4, 5] [some (.arr 168 [.pointer (some ⟨3, 0, none⟩), .int .i64 dd]), none, some (.arr 104 (prs f)), some (.arr 213 [.slice (some ⟨4, 0, none⟩) g.length 1, .pointer (some ⟨5, 0, none⟩)]), some (.arr 104 (prs g)), some (.hi (.stk (p :: rs)))] n (by omega) ?_ ?_ ⟨0, by omega, ?_, ?_, ?_, ?_, 4, ?_, .inl ⟨rfl, rfl, rfl⟩⟩ <;> simp [mergeF]
    rintro m tm H ⟨i, hm, t0, t23, t24, t25, q, t5, hH⟩
    have hml : (mergeF g (f.take i)).length ≤ 1000 := by
      have := mergeF_le g (f.take i)
      rw [List.length_take] at this
      omega
    by_cases hi : i < n
    · obtain ⟨x, hx⟩ : ∃ x, f[i]? = some x := ⟨f[i]'(by omega), List.getElem?_eq_getElem (by omega)⟩
      have hi' : (i : Int) < n := by omega
      have hwr := inc_i64 hi (by omega)
      have rx := many_prs hx
      have lx : i * 2 + 2 ≤ (prs f).length := by rw [prs_length]; omega
      have hsuc := mergeF_succ (g := g) hx
      rcases hH with ⟨rfl, hg, rfl⟩ | ⟨rfl, rfl⟩
      · rw [hg] at t5 hsuc hml
        simp (implicitDefEqProofs := false) [tblM, st215, t0, t5, t23, t24, t25, hi, hi', rx, lx, Pr.cells, hwr, hml]
        refine round_plan [] [0, 1, 2, 3, 4, 5, 7] [some (.arr 168 [.pointer (some ⟨3, 0, none⟩), .int .i64 dd]), none, some (.arr 104 (prs f)), some (.arr 213 [.slice (some ⟨4, 0, none⟩) g.length 1, .pointer (some ⟨5, 0, none⟩)]), some (.arr 104 (prs g)), some (.hi (.stk (p :: rs))), some (.arr 104 (prs (mergeF g (f.take (i + 1)))))] (m - 1) (by omega) ?_ ?_ ⟨i + 1, by omega, ?_, ?_, ?_, ?_, 6, ?_, .inr ⟨rfl, rfl⟩⟩ <;> simp [t0, t23, t24, hsuc]
      · simp (implicitDefEqProofs := false) [tblM, st215, t0, t5, t23, t24, t25, hi, hi', rx, lx, Pr.cells, hwr, hml]
        refine round_plan [] [0, 1, 2, 3, 4, 5, 8] [some (.arr 168 [.pointer (some ⟨3, 0, none⟩), .int .i64 dd]), none, some (.arr 104 (prs f)), some (.arr 213 [.slice (some ⟨4, 0, none⟩) g.length 1, .pointer (some ⟨5, 0, none⟩)]), some (.arr 104 (prs g)), some (.hi (.stk (p :: rs))), some (.arr 104 (prs (mergeF g (f.take (i + 1)))))] (m - 1) (by omega) ?_ ?_ ⟨i + 1, by omega, ?_, ?_, ?_, ?_, 6, ?_, .inr ⟨rfl, rfl⟩⟩ <;> simp [t0, t23, t24, hsuc]
    · have hie : i = n := by omega
      subst hie
      have hf : f.take i = f := List.take_of_length_le (by omega)
      rw [hf] at t5 hH
      rcases hH with ⟨rfl, hg, rfl⟩ | ⟨rfl, rfl⟩
      · rw [hg] at t5
        simp (implicitDefEqProofs := false) [t0, t5, t23, t24, t25, forms106, a106, b106]
        refine ends_plan [.pack (GD.stk (g :: p :: rs)) 6 [4, 5], .pack (GD.log (g :: p :: rs)) 0 [6]] [0] ?_ ?_ ?_ <;> simp [frag_stk2, frag_log, AObj.mine, hg, hdd]
      · simp (implicitDefEqProofs := false) [t0, t5, t23, t24, t25, forms106, a106, b106]
        refine ends_plan [.pack (GD.stk (mergeF g f :: p :: rs)) 7 [6, 5], .pack (GD.log (mergeF g f :: p :: rs)) 0 [7]] [0] ?_ ?_ ?_ <;> simp [frag_stk2, frag_log, AObj.mine, hdd]
def d160 : DStep
  | .log [f], [] => some (True, .int .i64 8, .log [f])
  | .log (f :: g :: rs), [] => some (GoodLog (f :: g :: rs), .int .i64 0, .log (mergeF g f :: rs))
  | _, _ => none
theorem st160_ok : CStepOk Tryz.prog cfg 160 (dataSt d160) := data_ok fun d rest p v d' h hp => by
  unfold d160 at h
  split at h
  · cases h; exact ⟨rfl, rfl, runs160_1 _⟩
  · cases h
    refine ⟨rfl, rfl, runs160_2 _ _ _ ?_ ?_⟩
    · have := hp.2.1; simp at this; omega
    · have := hp.2.2; rw [lenLog_cons, lenLog_cons] at this
      have := lenLog_nonneg ‹List (List Pr)›
      omega
  · cases h
def allN (fs : List (List Pr)) (n : Nat) : List Pr := (List.range n).filterMap fun t : Nat => (getLog fs t).map fun v => (⟨t, v⟩ : Pr)
def allL (fs : List (List Pr)) : List Pr := allN fs 12
theorem allN_succ (fs : List (List Pr)) (n : Nat) : allN fs (n + 1) = allN fs n ++ (match getLog fs n with | some v => [⟨n, v⟩] | none => []) := by
  unfold allN
  rw [List.range_succ, List.filterMap_append]
  cases h : getLog fs n <;> simp [h]
theorem allN_le (fs : List (List Pr)) (n : Nat) : (allN fs n).length ≤ n := by
  unfold allN
  have := List.length_filterMap_le (fun t : Nat => (getLog fs t).map fun v => (⟨t, v⟩ : Pr)) (List.range n)
  simpa using this
def tblA : List (FuncId × CStep GD) := [(112, dataSt d112)]
theorem tblA_ok : ∀ x ∈ tblA, CStepOk Tryz.prog cfg x.1 x.2 := by simp [tblA, st112_ok]
set_option maxHeartbeats 4000000 in
theorem runs55 (fs : List (List Pr)) (hg : GoodLog fs) : Runs Tryz.prog cfg 55 [.pointer (some ⟨0, 0, none⟩)] (AH.of [some (.hi (.log fs))])
    fun r H' => r = .ret (.slice (some ⟨1, 0, none⟩) (allL fs).length 1) ∧ H' = AH.of [some (.hi (.log fs)), some (.arr 104 (prs (allL fs)))] := by
  refine Runs.ends ?_
  refine runs_by (tbl := tblA) tblA_ok 13 0 (af := a55) rfl ?_
  rw [a55, b55, run_eq]
  refine ⟨by simp, ?_⟩
  simp (implicitDefEqProofs := false)
  refine loop_view (sg_mono gX_ok (tabS_ok tblA_ok) _ _ noY noY_mono) (fun m tm H => ∃ i : Nat, m + i = 12 ∧ tm 0 = .pointer (some ⟨0, 0, none⟩) ∧ tm 3 = .slice (some ⟨1, 0, none⟩) (allN fs i).length 1 ∧ tm 7 = .int .i64 i ∧ H = AH.of [some (.hi (.log fs)), some (.arr 104 (prs (allN fs i)))]) (m := 12) ?_ (by omega) ?_
  · refine round_wk [.nil 104] [0, 1] [some (.hi (.log fs)), some (.arr 104 (prs []))] [(3, .slice (some ⟨1, 0, none⟩) 0 1)] 12 (by omega) ?_ ?_ ?_ ⟨0, by omega, ?_, ?_, ?_, rfl⟩ <;> simp [allN, prs]
    done
  rintro m tm H ⟨i, hm, t0, t3, t7, rfl⟩
  have hle := allN_le fs i
  by_cases hi : i < 12
  · have hi' : (i : Int) < 12 := by omega
    have hwr := inc_i64 hi (by omega)
    have hsuc := allN_succ fs i
    have hr3 : ((allN fs i).length + 1) * 16 ≤ 140737488355328 ∧ (allN fs i).length ≤ 9223372036854775806 := by omega
    have htk := take_prs (allN fs i)
    have hll : (allN fs i).length * 2 ≤ (prs (allN fs i)).length := by rw [prs_length]; omega
    cases hv : getLog fs i with
    | none =>
      simp only [hv, List.append_nil] at hsuc
      simp (implicitDefEqProofs := false) [tblA, dataSt, d112, hg, t0, t3, t7, hi, hi', hwr, hv, optR]
      refine round_plan [] [0, 1] [some (.hi (.log fs)), some (.arr 104 (prs (allN fs (i + 1))))] (m - 1) (by omega) ?_ ?_ ⟨i + 1, by omega, ?_, ?_, ?_, rfl⟩ <;> simp [t0, t3, hsuc]
    | some v =>
      simp only [hv] at hsuc
      simp (implicitDefEqProofs := false) [tblA, dataSt, d112, hg, t0, t3, t7, hi, hi', hwr, hv, optR, hr3, htk, hll]
      refine round_plan [] [0, 3] [some (.hi (.log fs)), some (.arr 104 (prs (allN fs (i + 1))))] (m - 1) (by omega) ?_ ?_ ⟨i + 1, by omega, ?_, ?_, ?_, rfl⟩ <;> simp [t0, hsuc, prs_append, prs_single]
  · have hie : i = 12 := by omega
    subst hie
    simp (implicitDefEqProofs := false) [t0, t3, t7]
    refine ends_plan [] [0, 1] ?_ ?_ ?_ <;> simp [allL]
def st55 : CStep GD := fun args H => match args with
  | [.pointer (some ⟨k, 0, none⟩)] => match H.get k with
    | some (.hi (.log fs)) => some (GoodLog fs, .ret (.slice (some ⟨H.next, 0, none⟩) (allL fs).length 1), H.add (.arr 104 (prs (allL fs))))
    | _ => none
  | _ => none
theorem st55_ok : CStepOk Tryz.prog cfg 55 st55 := by
  intro args H p r H' h hp
  unfold st55 at h
  split at h
  case h_2 => cases h
  split at h
  case h_2 => cases h
  rename_i k x fs hk
  cases h
  exact (runs55 fs hp).atK (ro_none rfl) [k] (by simp) (by simp) (by simp [hk]) (by simp) (by simp) (by simp [upd_get hk])
end YtapbabkndhaemaaGreat
end Go.Proofs
/-
  WRITES: what is good stays so.
-/
namespace Go.Proofs
namespace YtapbabkndhaemaaGreat
open Go.Abs
theorem good_log_nil : GoodLog [[]] := ⟨by simp, by simp, by simp [lenLog]⟩
theorem putF_len {f : List Pr} {p : Pr} : (putF f p).length = f.length ∨ (getP f p.t = none ∧ (putF f p).length = f.length + 1) := by
  induction f with
  | nil => exact .inr ⟨rfl, rfl⟩
  | cons a f ih =>
    simp only [putF]
    split
    · exact .inl rfl
    · rename_i h
      have e : getP (a :: f) p.t = getP f p.t := by simp [getP, h]
      rcases ih with h1 | ⟨h1, h2⟩
      · exact .inl (by simp [h1])
      · exact .inr ⟨by rw [e]; exact h1, by simp [h2]⟩
theorem put_good {f : List Pr} {fs : List (List Pr)} {t v : Int} (h : GoodLog (f :: fs)) (hc : putCode f fs t v = 0) : GoodLog (putF f ⟨t, v⟩ :: fs) := by
  refine ⟨by simp, by simpa using h.2.1, ?_⟩
  have h16 := h.2.2
  rw [lenLog_cons] at h16 ⊢
  rcases putF_len (f := f) (p := ⟨t, v⟩) with h1 | ⟨h1, h2⟩
  · rw [h1]; exact h16
  · unfold putCode at hc
    split at hc
    · cases hc
    · split at hc
      · cases hc
      · split at hc
        · cases hc
        · rename_i h3
          have h1' : getP f t = none := h1
          rw [h1', lenLog_cons] at h3
          simp at h3
          rw [h2]
          omega
theorem merge_good {f g : List Pr} {fs : List (List Pr)} (h : GoodLog (f :: g :: fs)) : GoodLog (mergeF g f :: fs) := by
  refine ⟨by simp, by have := h.2.1; simp at this ⊢; omega, ?_⟩
  have h16 := h.2.2
  have := mergeF_le g f
  rw [lenLog_cons, lenLog_cons] at h16
  rw [lenLog_cons]
  omega
theorem drop_good {f g : List Pr} {fs : List (List Pr)} (h : GoodLog (f :: g :: fs)) : GoodLog (g :: fs) := by
  refine ⟨by simp, by have := h.2.1; simp at this ⊢; omega, ?_⟩
  have h16 := h.2.2
  rw [lenLog_cons] at h16
  omega
theorem push_good {f : List Pr} {fs : List (List Pr)} (h : GoodLog (f :: fs)) (hl : (f :: fs).length < 5) : GoodLog ([] :: f :: fs) := by
  refine ⟨by simp, by simp at hl ⊢; omega, ?_⟩
  have h16 := h.2.2
  rw [lenLog_cons]
  simpa using h16
end YtapbabkndhaemaaGreat
end Go.Proofs
/-
  What engines have in common: replies, frames behind a deed, what may be asked for.
-/
namespace Go.Proofs
namespace YtapbabkndhaemaaGreat
open Go.Abs
structure Rp where
  done : Bool
  val : Int
  busy : Bool
  owner : Int
  ended : Bool
  why : Int
  err : Int
  deriving DecidableEq
def Rp.cells (r : Rp) : List Value := [.bool r.done, .int .u64 r.val, .bool r.busy, .int .i64 r.owner, .bool r.ended, .int .u8 r.why, .int .i64 r.err]
def Rp.v (r : Rp) : Value := .agg r.cells.toArray
def rpNone : Rp := ⟨false, 0, false, 0, false, 0, 0⟩
def rpErr (e : Int) : Rp := ⟨false, 0, false, 0, false, 0, e⟩
def rpDone (v : Int) : Rp := ⟨true, v, false, 0, false, 0, 0⟩
def rpEnd (why : Int) : Rp := ⟨true, 0, false, 0, true, why, 0⟩
def rpBusy (o : Int) : Rp := ⟨false, 0, true, o, false, 0, 0⟩
def pushF (fs : List (List Pr)) : List (List Pr) := if 5 ≤ fs.length then fs else [] :: fs
def dropF : List (List Pr) → List (List Pr)
  | f :: g :: fs => g :: fs
  | fs => fs
def mergeFs : List (List Pr) → List (List Pr)
  | f :: g :: fs => mergeF g f :: fs
  | fs => fs
def putFs : List (List Pr) → Int → Int → List (List Pr)
  | f :: fs, t, v => putF f ⟨t, v⟩ :: fs
  | [], _, _ => []
def putCs : List (List Pr) → Int → Int → Int
  | f :: fs, t, v => putCode f fs t v
  | [], _, _ => 0
def wantL (fs : List (List Pr)) (hl : Nat) (x : Ak) : Int :=
  if x.k = 0 ∨ 7 < x.k then 2
  else if (x.k = 1 ∨ x.k = 2) ∧ (x.t < 0 ∨ (hl : Int) ≤ x.t) then 2
  else if x.k = 2 ∧ rightB x.v = false then 3
  else if fs.length = 1 ∧ (x.k = 4 ∨ x.k = 5) then 8
  else if 1 < fs.length ∧ x.k = 6 then 8
  else if 5 ≤ fs.length ∧ x.k = 3 then 4
  else 0
theorem putF_mem {f : List Pr} {p q : Pr} (h : q ∈ putF f p) : q = p ∨ q ∈ f ∨ (∃ r ∈ f, q = ⟨r.t, p.v⟩) := by
  induction f with
  | nil => simp [putF] at h; exact .inl h
  | cons a f ih =>
    simp only [putF] at h
    split at h
    · rcases List.mem_cons.1 h with rfl | h
      · exact .inr (.inr ⟨a, by simp, rfl⟩)
      · exact .inr (.inl (by simp [h]))
    · rcases List.mem_cons.1 h with rfl | h
      · exact .inr (.inl (by simp))
      · rcases ih h with h | h | ⟨r, hr, h⟩
        · exact .inl h
        · exact .inr (.inl (by simp [h]))
        · exact .inr (.inr ⟨r, by simp [hr], h⟩)
theorem mergeF_mem {g f : List Pr} {P : Pr → Prop} (hg : ∀ p ∈ g, P p) (hf : ∀ p ∈ f, P p) (hP : ∀ p q, P p → P q → P ⟨p.t, q.v⟩) : ∀ p ∈ mergeF g f, P p := by
  unfold mergeF
  induction f generalizing g with
  | nil => exact hg
  | cons a f ih =>
    refine ih (g := putF g a) (fun p hp => ?_) (fun p hp => hf p (by simp [hp]))
    rcases putF_mem hp with rfl | h | ⟨r, hr, rfl⟩
    · exact hf _ (by simp)
    · exact hg p h
    · exact hP r a (hg r hr) (hf a (by simp))
theorem allL_le (fs : List (List Pr)) : (allL fs).length ≤ 12 := allN_le fs 12
theorem allL_mem {fs : List (List Pr)} {p : Pr} (hp : p ∈ allL fs) : ∃ f ∈ fs, p ∈ f := by
  unfold allL allN at hp
  obtain ⟨t, _, ht⟩ := List.mem_filterMap.1 hp
  simp only [Option.map_eq_some_iff] at ht
  obtain ⟨v, hv, rfl⟩ := ht
  unfold getLog at hv
  obtain ⟨f, hf, hg⟩ := List.exists_of_findSome?_eq_some hv
  refine ⟨f, hf, ?_⟩
  unfold getP at hg
  simp only [Option.map_eq_some_iff] at hg
  obtain ⟨q, hq, rfl⟩ := hg
  have h1 := List.mem_of_find?_eq_some hq
  have h2 : q.t = (t : Int) := by simpa using List.find?_some hq
  rw [← h2]; exact h1
end YtapbabkndhaemaaGreat
end Go.Proofs
/-
  VALUES: which are the same.
-/
namespace Go.Proofs
namespace YtapbabkndhaemaaGreat
open Go.Abs
end YtapbabkndhaemaaGreat
end Go.Proofs
/-
  What was read, as data.
-/
namespace Go.Proofs
namespace YtapbabkndhaemaaGreat
open Go.Abs
def getE (l : List Ent) (t : Int) : Option Ent := l.find? fun e => e.t == t
def addCode (l : List Ent) (e : Ent) : Int :=
  if e.t < 0 ∨ 12 ≤ e.t ∨ 1099511627776 < e.n then 2
  else if !rightB e.v then 3
  else if (getE l e.t).isSome then 0
  else if (8 : Int) ≤ l.length then 4
  else 0
def addL (l : List Ent) (e : Ent) : List Ent :=
  if addCode l e = 0 ∧ (getE l e.t).isNone then l ++ [e] else l
theorem tvars_length (l : List Ent) : (tvars l).length = l.length := by simp [tvars]
theorem tvars_ground (l : List Ent) : grounds (tvars l) = true := by
  induction l with
  | nil => rfl
  | cons e l ih => simp [tvars, grounds, ground] at ih ⊢; exact ih
theorem rows_cons (e : Ent) (l : List Ent) : rows (e :: l) = .int .i64 e.t :: .int .u64 e.v :: .int .u64 e.n :: rows l := rfl
theorem rows_length (l : List Ent) : (rows l).length = l.length * 3 := by
  induction l with
  | nil => rfl
  | cons e l ih => rw [rows_cons, List.length_cons, List.length_cons, List.length_cons, ih, List.length_cons]; omega
theorem rows_ground (l : List Ent) : grounds (rows l) = true := by
  induction l with
  | nil => rfl
  | cons e l ih => rw [rows_cons]; simp [grounds, ground, ih]
theorem ren_tvars (θ : Nat → Nat) (l : List Ent) : rens θ (tvars l) = tvars l := rens_ground θ _ (tvars_ground l)
theorem ren_rows (θ : Nat → Nat) (l : List Ent) : rens θ (rows l) = rows l := rens_ground θ _ (rows_ground l)
theorem ren_epairs (θ : Nat → Nat) (l : List Ent) : renP θ (epairs l) = epairs l := by
  simp only [renP, epairs, List.map_map]
  refine List.map_congr_left fun e _ => ?_
  simp only [Function.comp]
  rw [ren_ground θ (.int .i64 e.t) rfl, ren_ground θ e.val rfl]
theorem tvars_add (l : List Ent) (e : Ent) : tvars (l ++ [e]) = tvars l ++ [.int .i64 e.t] := by simp [tvars]
theorem take_tvars (l : List Ent) : (tvars l).take l.length = tvars l := List.take_of_length_le (by simp [tvars_length])
theorem many_rows {i : Nat} {x : Ent} : ∀ {l : List Ent}, l[i]? = some x → ((rows l).drop (i * 3)).take 3 = x.cells := by
  induction i with
  | zero =>
    intro l h
    cases l with
    | nil => simp at h
    | cons e l => simp at h; subst h; rfl
  | succ i ih =>
    intro l h
    cases l with
    | nil => simp at h
    | cons e l =>
      rw [rows_cons, show (i + 1) * 3 = i * 3 + 1 + 1 + 1 by omega]
      simpa using ih (l := l) (by simpa using h)
def Uniq (l : List Ent) : Prop := (l.map (·.t)).Nodup
theorem Uniq.get {l : List Ent} (h : Uniq l) : ∀ (i : Nat) (x : Ent), l[i]? = some x → getE l x.t = some x := by
  induction l with
  | nil => intro i x hx; simp at hx
  | cons a l ih =>
    intro i x hx
    simp only [Uniq, List.map_cons, List.nodup_cons] at h
    cases i with
    | zero => simp at hx; subst hx; simp [getE]
    | succ i =>
      have hx' : l[i]? = some x := by simpa using hx
      have hne : (a.t == x.t) = false := by
        simp only [beq_eq_false_iff_ne, ne_eq]
        intro e
        exact h.1 (List.mem_map.2 ⟨x, List.mem_of_getElem? hx', e.symm⟩)
      simp only [getE, List.find?_cons, hne]
      exact ih h.2 i x hx'
theorem epairs_length (l : List Ent) : (epairs l).length = l.length := by simp [epairs]
theorem epairs_add (l : List Ent) (e : Ent) : epairs (l ++ [e]) = epairs l ++ [(.int .i64 e.t, e.val)] := by simp [epairs]
theorem getE_none' {l : List Ent} {t : Int} (h : ∀ x ∈ l, x.t ≠ t) : getE l t = none := by
  simp only [getE, List.find?_eq_none]
  intro x hx
  simpa using h x hx
theorem find_alike {l : List Ent} {es : List MapEntry} {c : Nat} (h : AlikeM (epairs l) es c) (hu : Uniq l) (t : Int) : findIn false (.int .i64 t) es = some ((getE l t).map Ent.val) := by
  have key : ∀ es' : List MapEntry, (∀ e ∈ es', ∃ x ∈ l, e.key = .int .i64 x.t ∧ e.val = x.val) →
      (findIn false (.int .i64 t) es' = some none ∧ ∀ e ∈ es', e.key ≠ .int .i64 t) ∨ ∃ x ∈ l, x.t = t ∧ findIn false (.int .i64 t) es' = some (some x.val) := by
    intro es'
    induction es' with
    | nil => intro _; exact .inl ⟨rfl, fun e he => by simp at he⟩
    | cons e es' ih =>
      intro hm
      obtain ⟨x, hx, hk, hv⟩ := hm e (by simp)
      rw [findIn, hk, sameK]
      simp only [Bool.false_eq_true, if_false, if_true]
      by_cases ht : t = x.t
      · right
        refine ⟨x, hx, ht.symm, ?_⟩
        simp [ht, hv]
      · have h1 : (t == x.t) = false := by simpa using ht
        rw [h1]
        rcases ih (fun e he => hm e (by simp [he])) with ⟨h2, h3⟩ | h2
        · refine .inl ⟨h2, fun e' he' => ?_⟩
          rcases List.mem_cons.1 he' with rfl | he'
          · rw [hk]; intro h4; injection h4 with _ h5; exact ht h5.symm
          · exact h3 e' he'
        · exact .inr h2
  have hmem : ∀ e ∈ es, ∃ x ∈ l, e.key = .int .i64 x.t ∧ e.val = x.val := by
    intro e he
    have : (e.key, e.val) ∈ epairs l := h.1.mem_iff.1 (List.mem_map.2 ⟨e, he, rfl⟩)
    obtain ⟨x, hx, hp⟩ := List.mem_map.1 this
    simp only [Prod.mk.injEq] at hp
    exact ⟨x, hx, hp.1.symm, hp.2.symm⟩
  rcases key es hmem with ⟨h1, h2⟩ | ⟨x, hx, ht, h1⟩
  · rw [h1, getE_none' fun x hx ht => ?_]; rfl
    have : ((Value.int .i64 x.t, x.val) : Value × Value) ∈ pairs es := h.1.mem_iff.2 (List.mem_map.2 ⟨x, hx, rfl⟩)
    obtain ⟨e, he, hp⟩ := List.mem_map.1 this
    simp only [Prod.mk.injEq] at hp
    exact h2 e he (by rw [hp.1, ht])
  · obtain ⟨i, hi⟩ := List.mem_iff_getElem?.1 hx
    have := hu.get i x hi
    rw [ht] at this
    rw [h1, this]; rfl
theorem put_alike {l : List Ent} {es : List MapEntry} {c : Nat} (h : AlikeM (epairs l) es c) (hu : Uniq l) (x : Ent) (hn : getE l x.t = none) : putIn false (.int .i64 x.t) x.val c es = some (es ++ [⟨.int .i64 x.t, x.val, c⟩], c + 1) :=
  put_new (by rw [find_alike h hu, hn]; rfl)
theorem add_alike {l : List Ent} {es : List MapEntry} {c : Nat} (h : AlikeM (epairs l) es c) (x : Ent) : AlikeM (epairs (l ++ [x])) (es ++ [⟨.int .i64 x.t, x.val, c⟩]) (c + 1) := by
  rw [epairs_add]; exact h.add _ _
structure Good (l : List Ent) : Prop where
  len : l.length ≤ 8
  uniq : Uniq l
  range : ∀ e ∈ l, 0 ≤ e.t ∧ e.t < 12
theorem good_nil : Good [] := ⟨by simp, by simp [Uniq], fun e he => by simp at he⟩
theorem add_range {l : List Ent} {e : Ent} (h : addCode l e = 0) : 0 ≤ e.t ∧ e.t < 12 := by
  unfold addCode at h
  split at h
  · cases h
  · omega
theorem add_len {l : List Ent} {e : Ent} (h : addCode l e = 0) (hg : getE l e.t = none) : l.length < 8 := by
  unfold addCode at h
  split at h
  · cases h
  · split at h
    · cases h
    · rw [hg] at h
      simp at h
      omega
theorem addL_none {l : List Ent} {e : Ent} (h : addCode l e = 0) (hg : getE l e.t = none) : addL l e = l ++ [e] := by simp [addL, h, hg]
theorem addL_some {l : List Ent} {e x : Ent} (hg : getE l e.t = some x) : addL l e = l := by simp [addL, hg]
theorem addL_bad {l : List Ent} {e : Ent} (h : addCode l e ≠ 0) : addL l e = l := by simp [addL, h]
theorem Good.add {l : List Ent} (h : Good l) (e : Ent) : Good (addL l e) := by
  by_cases hc : addCode l e = 0
  · cases hg : getE l e.t with
    | some x => rw [addL_some hg]; exact h
    | none =>
      rw [addL_none hc hg]
      have := add_len hc hg
      refine ⟨by simp; omega, ?_, fun y hy => ?_⟩
      · show ((l ++ [e]).map (·.t)).Nodup
        rw [List.map_append]
        refine List.nodup_append.2 ⟨h.uniq, by simp, ?_⟩
        rintro a ha b hb rfl
        simp only [List.map_cons, List.map_nil, List.mem_singleton] at hb
        subst hb
        obtain ⟨x, hx, hxe⟩ := List.mem_map.1 ha
        simp only [getE, List.find?_eq_none] at hg
        exact absurd hxe (by simpa using hg x hx)
      · rcases List.mem_append.1 hy with hy | hy
        · exact h.range y hy
        · have : y = e := by simpa using hy
          subst this; exact add_range hc
  · rw [addL_bad hc]; exact h
def asEnt : Value → Option Ent
  | .agg ⟨[.int .i64 t, .int .u64 v, .int .u64 n]⟩ => some ⟨t, v, n⟩
  | _ => none
theorem asEnt_eq (t v n : Int) : asEnt (.agg #[.int .i64 t, .int .u64 v, .int .u64 n]) = some ⟨t, v, n⟩ := rfl
theorem asEnt_val (e : Ent) : asEnt e.val = some e := rfl
theorem asEnt_inv {v : Value} {e : Ent} (h : asEnt v = some e) : v = e.val := by
  unfold asEnt at h
  split at h
  · cases h; rfl
  · cases h
def getSet (H : AH GD) (k : Nat) : Option (Nat × List Ent) :=
  match H.get k with
  | some (.hi (.set c l)) => some (c, l)
  | _ => none
def getRset (H : AH GD) (k : Nat) : Option (List Ent) :=
  match H.get k with
  | some (.hi (.rset l)) => some l
  | _ => none
theorem getSet_inv {H : AH GD} {k : Nat} {x : Nat × List Ent} (h : getSet H k = some x) : H.get k = some (.hi (.set x.1 x.2)) := by
  unfold getSet at h
  split at h
  · rename_i h2; cases h; exact h2
  · cases h
attribute [simp] asEnt_eq asEnt_val getSet getRset ren_tvars ren_rows ren_epairs
end YtapbabkndhaemaaGreat
end Go.Proofs
/-
  Set.Add: what it comes to.
-/
namespace Go.Proofs
namespace YtapbabkndhaemaaGreat
open Go.Abs
theorem ren_alike {l : List Ent} {es : List MapEntry} {c : Nat} (h : AlikeM (epairs l) es c) (θ : Nat → Nat) : es.map (fun e => (⟨ren θ e.key, ren θ e.val, e.born⟩ : MapEntry)) = es :=
  ren_entries θ fun e he => by
    have : (e.key, e.val) ∈ epairs l := h.1.mem_iff.1 (List.mem_map.2 ⟨e, he, rfl⟩)
    obtain ⟨x, _, hp⟩ := List.mem_map.1 this
    simp only [Prod.mk.injEq] at hp
    rw [← hp.1, ← hp.2]
    exact ⟨rfl, rfl⟩
theorem Runs.openSet {f : FuncId} {args : List Value} {K : AEnd → AH GD → Prop} {c : Nat} {l : List Ent}
    (h : ∀ es cc, AlikeM (epairs l) es cc → es.length = l.length → (∀ θ, es.map (fun e => (⟨ren θ e.key, ren θ e.val, e.born⟩ : MapEntry)) = es) → Runs Tryz.prog cfg f args (AH.of [some (.arr 163 [.slice (some ⟨1, 0, none⟩) l.length 1, .map (some 2)]), some (.arr 3 (tvars l)), some (.map es cc)]) K) :
    Runs Tryz.prog cfg f args (AH.of [some (.hi (.set c l))]) K := by
  have e : openK frag (AH.of [some (.hi (.set c l))]) 0 = some (AH.of [some (.arr 163 [.slice (some ⟨1, 0, none⟩) l.length 1, .map (some 2)]), some (.arr 3 (tvars l)), some (.mapq (epairs l))]) := by
    simp [frag_set]
  refine Runs.opn 0 e (Runs.expose 2 (ps := epairs l) rfl fun es cc hes => ?_)
  have := h es cc hes (by rw [hes.len, epairs_length]) (ren_alike hes)
  rw [of_upd _ _ _ (by simp)]
  exact this
set_option maxHeartbeats 1000000 in
theorem runs153 (t v n : Int) (c : Nat) (l : List Ent) (hu : Uniq l) : Runs Tryz.prog cfg 153 [.pointer (some ⟨0, 0, none⟩), .agg #[.int .i64 t, .int .u64 v, .int .u64 n]] (AH.of [some (.hi (.set c l))])
    fun r H' => r = .ret (.int .i64 (addCode l ⟨t, v, n⟩)) ∧ H' = AH.of [some (.hi (.set c (addL l ⟨t, v, n⟩)))] := by
  refine Runs.ends ?_
  refine Runs.openSet fun es cc hes hlen hren => ?_
  refine runs_by (tbl := []) (by simp) 0 2 (af := a153) rfl ?_
  rw [a153, b153, run_eq]
  refine ⟨by simp, ?_⟩
  have hf := find_alike hes hu
  have hg : getE l t = none → putIn false (.int .i64 t) (.agg #[.int .i64 t, .int .u64 v, .int .u64 n]) cc es = some (es ++ [⟨.int .i64 t, .agg #[.int .i64 t, .int .u64 v, .int .u64 n], cc⟩], cc + 1) := put_alike hes hu ⟨t, v, n⟩
  have hadd : AlikeM (epairs (l ++ [⟨t, v, n⟩])) (es ++ [⟨.int .i64 t, .agg #[.int .i64 t, .int .u64 v, .int .u64 n], cc⟩]) (cc + 1) := add_alike hes ⟨t, v, n⟩
  cases h5 : getE l t with
  | some e =>
    simp (implicitDefEqProofs := false) [forms43, a43, b43, hf, h5, Ent.val, Ent.cells]
    repeat' (first | with_reducible apply And.intro | with_reducible intro _)
    all_goals (refine ends_plan [.pack (GD.set c l) 0 [1, 2]] [0] ?_ ?_ ?_ <;> simp [frag_set, AObj.mine, addL, addCode, rightB, hes, *] <;> omega)
  | none =>
    simp (implicitDefEqProofs := false) [forms43, a43, b43, hf, h5, hg h5, tvars_length, take_tvars]
    repeat' (first | with_reducible apply And.intro | with_reducible intro _)
    all_goals first
      | omega
      | (refine ends_plan [.pack (GD.set c l) 0 [1, 2]] [0] ?_ ?_ ?_ <;> simp [frag_set, AObj.mine, addL, addCode, rightB, hes, *] <;> omega)
      | (subst_vars; refine ends_plan [.pack (GD.set c (l ++ [⟨t, 9221120237041090560, n⟩])) 0 [6, 2]] [0] ?_ ?_ ?_ <;> simp [frag_set, AObj.mine, addL, addCode, rightB, tvars_add, hadd, *] <;> omega)
      | (refine ends_plan [.pack (GD.set c (l ++ [⟨t, v, n⟩])) 0 [6, 2]] [0] ?_ ?_ ?_ <;> simp [frag_set, AObj.mine, addL, addCode, rightB, tvars_add, hadd, *] <;> omega)
end YtapbabkndhaemaaGreat
end Go.Proofs
/-
  Values; New, Get, Len: what they come to, as steps.
-/
namespace Go.Proofs
namespace YtapbabkndhaemaaGreat
open Go.Abs
theorem runs47 : Runs Tryz.prog cfg 47 [] (AH.of []) fun r H' => r = .ret (.pointer (some ⟨0, 0, none⟩)) ∧ H' = AH.of [some (.hi (.set 0 []))] := by
  refine Runs.ends ?_
  refine runs_by (tbl := []) (by simp) 0 0 (af := a47) rfl ?_
  rw [a47, b47, run_eq]
  refine ⟨by simp, ?_⟩
  simp (implicitDefEqProofs := false)
  refine ends_plan [.nil 3, .pack (GD.set 0 []) 1 [2, 0]] [1] ?_ ?_ ?_ <;> simp [frag_set, AObj.mine, tvars, epairs, renP, AlikeM.nil]
def st47 : CStep GD := fun args H => match args with
  | [] => some (True, .ret (.pointer (some ⟨H.next, 0, none⟩)), H.add (.hi (.set 0 [])))
  | _ => none
theorem st47_ok : CStepOk Tryz.prog cfg 47 st47 := by
  intro args H p r H' h hp
  unfold st47 at h
  split at h
  case h_2 => cases h
  cases h
  exact runs47.atK (ro_none rfl) [] (by simp) (by simp) trivial (by simp) (by simp) (by simp)
def st153 : CStep GD := fun args H => match args with
  | [x, y] => (ptr0 x).bind fun k => (asEnt y).bind fun e => (getSet H k).map fun s => (Uniq s.2, .ret (.int .i64 (addCode s.2 e)), H.upd k (.hi (.set s.1 (addL s.2 e))))
  | _ => none
theorem st153_ok : CStepOk Tryz.prog cfg 153 st153 := by
  intro args H p r H' h hp
  unfold st153 at h
  split at h
  case h_2 => cases h
  simp only [Option.map_eq_some_iff, Option.bind_eq_some_iff] at h
  obtain ⟨k, hk, e, he, s, hs, h⟩ := h
  cases h
  rw [ptr0_inv hk, asEnt_inv he]
  exact (runs153 e.t e.v e.n s.1 s.2 hp).atK (ro_none rfl) [k] (by simp) (by simp) (by simp [getSet_inv hs]) (by simp [Ent.val, Ent.cells]) (by simp) (by simp)
end YtapbabkndhaemaaGreat
end Go.Proofs
/-
  The reference: Get, Add.
-/
namespace Go.Proofs
namespace YtapbabkndhaemaaGreat
open Go.Abs
end YtapbabkndhaemaaGreat
end Go.Proofs
/-
  List, play.
-/
namespace Go.Proofs
namespace YtapbabkndhaemaaGreat
open Go.Abs
theorem rows_take {l : List Ent} {i : Nat} {x : Ent} (h : l[i]? = some x) : rows (l.take (i + 1)) = rows (l.take i) ++ [.int .i64 x.t, .int .u64 x.v, .int .u64 x.n] := by
  rw [List.take_add_one, h]
  simp [rows, Ent.cells]
theorem tvars_at {l : List Ent} {i : Nat} {x : Ent} (h : l[i]? = some x) : (tvars l)[i]? = some (.int .i64 x.t) := by simp [tvars, h]
set_option maxHeartbeats 1000000 in
theorem runs98 (c : Nat) (l : List Ent) (hl : l.length ≤ 8) (hu : Uniq l) : Runs Tryz.prog cfg 98 [.pointer (some ⟨0, 0, none⟩)] (AH.of [some (.hi (.set c l))])
    fun r H' => r = .ret (.slice (some ⟨1, 0, none⟩) l.length 1) ∧ H' = AH.of [some (.hi (.set c l)), some (.arr 191 (rows l))] := by
  refine Runs.ends ?_
  refine Runs.openSet fun es cc hes hlen hren => ?_
  have hf := find_alike hes hu
  refine runs_by (tbl := []) (by simp) (l.length + 1) 0 (af := a98) rfl ?_
  rw [a98, b98, run_eq]
  refine ⟨by simp, ?_⟩
  simp (implicitDefEqProofs := false) [frag_set]
  refine loop_view (sg_mono gX_ok (tabS_ok (by simp)) _ _ noY noY_mono) (fun m tm H => ∃ i : Nat, m + i = l.length ∧ tm 0 = .pointer (some ⟨0, 0, none⟩) ∧ tm 3 = .slice (some ⟨3, 0, none⟩) i 1 ∧ tm 11 = .slice (some ⟨1, 0, none⟩) l.length 1 ∧ tm 12 = .int .i64 l.length ∧ tm 13 = .int .i64 i ∧
    H = AH.of [some (.arr 163 [.slice (some ⟨1, 0, none⟩) l.length 1, .map (some 2)]), some (.arr 3 (tvars l)), some (.map es cc), some (.arr 191 (rows (l.take i)))]) (m := l.length) ?_ (by omega) ?_
  · refine round_wk [.nil 191] [0, 1, 2, 3] [some (.arr 163 [.slice (some ⟨1, 0, none⟩) l.length 1, .map (some 2)]), some (.arr 3 (tvars l)), some (.map es cc), some (.arr 191 [])] [(3, .slice (some ⟨3, 0, none⟩) 0 1)] l.length (by omega) ?_ ?_ ?_ ⟨0, ?_⟩ <;> simp [rows, hren]
    done
  rintro m tm H ⟨i, hm, t0, t3, t11, t12, t13, rfl⟩
  by_cases hi : i < l.length
  · obtain ⟨x, hx⟩ : ∃ x, l[i]? = some x := ⟨l[i], List.getElem?_eq_getElem hi⟩
    have hi' : (i : Int) < l.length := by omega
    have hw : IntKind.i64.wrap ((i : Int) + 1) = ((i + 1 : Nat) : Int) := by rw [wrap_i64 (by omega) (by omega)]; omega
    have hr1 : i * 3 ≤ (rows (l.take i)).length := by rw [rows_length, List.length_take]; omega
    have hr2 : (rows (l.take i)).take (i * 3) = rows (l.take i) := List.take_of_length_le (by rw [rows_length, List.length_take]; omega)
    have hr3 : (i + 1) * 24 ≤ 140737488355328 ∧ i ≤ 9223372036854775806 := by omega
    simp (implicitDefEqProofs := false) [t0, t3, t11, t12, t13, hi, hi', tvars_at hx, hf, hu.get i x hx, Ent.val, Ent.cells, hr1, hr2, hr3, hw]
    refine round_plan [] [0, 1, 2, 5] [some (.arr 163 [.slice (some ⟨1, 0, none⟩) l.length 1, .map (some 2)]), some (.arr 3 (tvars l)), some (.map es cc), some (.arr 191 (rows (l.take (i + 1))))] (m - 1) (by omega) ?_ ?_ ⟨i + 1, by omega, ?_⟩ <;> simp [t0, t3, t11, t12, t13, rows_take hx, hren]
    done
  · have hi' : ¬ (i : Int) < l.length := by omega
    have hil : i = l.length := by omega
    subst hil
    simp (implicitDefEqProofs := false) [t0, t3, t11, t12, t13, hi']
    refine ends_plan [.pack (GD.set c l) 0 [1, 2]] [0, 3] ?_ ?_ ?_ <;> simp [frag_set, AObj.mine, hes]
end YtapbabkndhaemaaGreat
end Go.Proofs
/-
  play.
-/
namespace Go.Proofs
namespace YtapbabkndhaemaaGreat
open Go.Abs
def Ent.Ok (e : Ent) : Prop := 0 ≤ e.v ∧ e.v < 18446744073709551616
def playL (l : List Ent) : List Ent := (l.take 30).foldl addL []
theorem Good.play (l : List Ent) : Good (playL l) := by
  unfold playL
  generalize l.take 30 = m
  have : ∀ (m s : List Ent), Good s → Good (m.foldl addL s) := by
    intro m
    induction m with
    | nil => intro s h; exact h
    | cons e m ih => intro s h; exact ih _ (h.add e)
  exact this m [] good_nil
end YtapbabkndhaemaaGreat
end Go.Proofs
/-
  Broken, Valid, Newest; live.
-/
namespace Go.Proofs
namespace YtapbabkndhaemaaGreat
open Go.Abs
def st98 : CStep GD := fun args H => match args with
  | [x] => (ptr0 x).bind fun k => (getSet H k).map fun s => (s.2.length ≤ 8 ∧ Uniq s.2, .ret (.slice (some ⟨H.next, 0, none⟩) s.2.length 1), H.add (.arr 191 (rows s.2)))
  | _ => none
theorem st98_ok : CStepOk Tryz.prog cfg 98 st98 := by
  intro args H p r H' h hp
  unfold st98 at h
  split at h
  case h_2 => cases h
  simp only [Option.map_eq_some_iff, Option.bind_eq_some_iff] at h
  obtain ⟨k, hk, s, hs, h⟩ := h
  cases h
  rw [ptr0_inv hk]
  exact (runs98 s.1 s.2 hp.1 hp.2).atK (ro_none rfl) [k] (by simp) (by simp) (by simp [getSet_inv hs]) (by simp) (by simp) (by simp [upd_get (getSet_inv hs)])
theorem addL_mem {l : List Ent} {e x : Ent} (h : x ∈ addL l e) : x ∈ l ∨ x = e := by
  unfold addL at h
  split at h
  · rcases List.mem_append.1 h with h | h
    · exact .inl h
    · exact .inr (by simpa using h)
  · exact .inl h
end YtapbabkndhaemaaGreat
end Go.Proofs
/-
  LOCK WORDS: what they say; the program's functions, and the reference's.
-/
namespace Go.Proofs
namespace YtapbabkndhaemaaGreat
open Go.Abs
def wOwn (w : Int) : Int := if w % 32 = 0 then -1 else (w % 32 - 1) / 2
def wVer (w : Int) : Int := w / 32
structure RightW (w : Int) : Prop where
  lo : 0 ≤ w
  ver : w / 32 ≤ 1099511627776
  low : w % 32 = 0 ∨ w % 32 = 1 ∨ w % 32 = 3 ∨ w % 32 = 5 ∨ w % 32 = 7
def bitB (w : Int) (i : Nat) : Bool := decide ((w / 2 ^ i) % 2 = 1)
theorem bit_one {w d : Int} (h0 : 0 ≤ w) (h1 : w < 18446744073709551616) (hd : 0 < d) : bAnd .u64 (w.fdiv d) 1 = w / d % 2 := by
  rw [Int.fdiv_eq_ediv_of_nonneg _ (by omega)]
  have h2 : 0 ≤ w / d := Int.ediv_nonneg h0 (by omega)
  have h3 : w / d ≤ w := Int.ediv_le_self _ h0
  exact bAnd_one h2 (by omega)
def fl (w : Int) (i : Nat) : List Value := [.bool (decide (0 < i) && bitB w 0), .bool (decide (1 < i) && bitB w 1), .bool (decide (2 < i) && bitB w 2), .bool (decide (3 < i) && bitB w 3), .bool (decide (4 < i) && bitB w 4)]
set_option maxHeartbeats 1000000 in
theorem runs204 (w : Int) (h0 : 0 ≤ w) (h1 : w < 18446744073709551616) : Runs Tryz.prog cfg 204 [.int .u64 w] (AH.of [])
    fun r H' => r = .ret (.agg #[.bool (bitB w 0), .bool (bitB w 1), .bool (bitB w 2), .bool (bitB w 3), .bool (bitB w 4)]) ∧ H' = AH.of [] := by
  refine Runs.ends ?_
  refine runs_by (tbl := []) (by simp) 6 0 (af := a204) rfl ?_
  rw [a204, b204, run_eq]
  refine ⟨by simp, ?_⟩
  simp (implicitDefEqProofs := false)
  have hb : ∀ d, 0 < d → bAnd .u64 (w.fdiv d) 1 = w / d % 2 := fun d hd => bit_one h0 h1 hd
  refine loop_inv (sg_mono gX_ok (tabS_ok (by simp)) _ _ noY noY_mono) (fun m tm H => ∃ i : Nat, m + i = 5 ∧ tm 0 = .int .u64 w ∧ tm 2 = .pointer (some ⟨0, 0, none⟩) ∧ tm 3 = .pointer (some ⟨1, 0, none⟩) ∧ tm 5 = .int .i64 i ∧
    H = AH.of [some (.arr 250 [.bool false, .bool false, .bool false, .bool false, .bool false]), some (.arr 250 (fl w i))]) (m := 5) ⟨0, by simp [fl]⟩ (by omega) ?_
  rintro m tm H ⟨i, hm, t0, t2, t3, t5, rfl⟩
  obtain rfl | rfl | rfl | rfl | rfl | rfl : i = 0 ∨ i = 1 ∨ i = 2 ∨ i = 3 ∨ i = 4 ∨ i = 5 := by omega
  · simp (implicitDefEqProofs := false) [t0, t2, t3, t5, hb, fl, bitB, wrap_i64, bAnd_one h0 h1]
    exact ⟨m - 1, by omega, 1, by omega, by simp⟩
  · simp (implicitDefEqProofs := false) [t0, t2, t3, t5, hb, fl, bitB, wrap_i64, IntKind.bits]
    exact ⟨m - 1, by omega, 2, by omega, by simp⟩
  · simp (implicitDefEqProofs := false) [t0, t2, t3, t5, hb, fl, bitB, wrap_i64, IntKind.bits]
    exact ⟨m - 1, by omega, 3, by omega, by simp⟩
  · simp (implicitDefEqProofs := false) [t0, t2, t3, t5, hb, fl, bitB, wrap_i64, IntKind.bits]
    exact ⟨m - 1, by omega, 4, by omega, by simp⟩
  · simp (implicitDefEqProofs := false) [t0, t2, t3, t5, hb, fl, bitB, wrap_i64, IntKind.bits]
    exact ⟨m - 1, by omega, 5, by omega, by simp⟩
  · simp (implicitDefEqProofs := false) [t0, t2, t3, t5, fl]
    refine ends_plan [] [] ?_ ?_ ?_ <;> simp
def st204 : CStep GD := fun args H => match args with
  | [x] => (asU x).map fun w => (0 ≤ w ∧ w < 18446744073709551616, .ret (.agg #[.bool (bitB w 0), .bool (bitB w 1), .bool (bitB w 2), .bool (bitB w 3), .bool (bitB w 4)]), H)
  | _ => none
theorem st204_ok : CStepOk Tryz.prog cfg 204 st204 := by
  intro args H p r H' h hp
  unfold st204 at h
  split at h
  case h_2 => cases h
  simp only [Option.map_eq_some_iff] at h
  obtain ⟨w, hw, h⟩ := h
  cases h
  rw [asU_inv hw]
  exact (runs204 w hp.1 hp.2).atK (ro_none rfl) [] (by simp) (by simp) trivial (by simp) (by simp) (by simp)
end YtapbabkndhaemaaGreat
end Go.Proofs
/-
  Lock words: split, Read, Lock, Unlock, Restore, Next of the program.
-/
namespace Go.Proofs
namespace YtapbabkndhaemaaGreat
open Go.Abs
def mkW (o v : Int) : Int := v * 32 + if o < 0 then 0 else o * 2 + 1
theorem RightW.hi {w : Int} (h : RightW w) : w < 18446744073709551616 := by have := h.ver; omega
theorem RightW.own {w : Int} (h : RightW w) : -1 ≤ wOwn w ∧ wOwn w < 4 := by
  have := h.low
  unfold wOwn
  split <;> omega
theorem mkW_self {w : Int} (h : RightW w) : mkW (wOwn w) (wVer w) = w := by
  have := h.low
  unfold mkW wOwn wVer
  split <;> split <;> omega
theorem mkW_right {o v : Int} (h : -1 ≤ o ∧ o < 4) (h0 : 0 ≤ v) (h1 : v ≤ 1099511627776) : RightW (mkW o v) := by
  unfold mkW
  constructor <;> split <;> omega
theorem mkW_own {o v : Int} (h : -1 ≤ o ∧ o < 4) : wOwn (mkW o v) = o := by
  unfold mkW wOwn
  split <;> split <;> omega
theorem mkW_ver {o v : Int} (h : -1 ≤ o ∧ o < 4) : wVer (mkW o v) = v := by
  unfold mkW wVer
  split <;> omega
theorem RightW.ver0 {w : Int} (h : RightW w) : 0 ≤ wVer w ∧ wVer w ≤ 1099511627776 := ⟨by have := h.lo; unfold wVer; omega, h.ver⟩
def acc (x1 x2 : Bool) (i : Nat) : Int := (if x1 = true ∧ 0 < i then 1 else 0) + (if x2 = true ∧ 1 < i then 2 else 0)
set_option maxHeartbeats 4000000 in
theorem split_odd (w : Int) (h : RightW w) (hl : w % 32 ≠ 0) (x1 x2 : Bool) (b1 : bitB w 1 = x1) (b2 : bitB w 2 = x2) (ho : wOwn w = acc x1 x2 4) : Runs Tryz.prog cfg 149 [.int .u64 w] (AH.of [])
    fun r H' => r = .ret (.tuple #[.agg #[.int .i64 (wOwn w), .int .u64 (wVer w)], .bool true]) ∧ H' = AH.of [] := by
  refine Runs.ends ?_
  have h0 := h.lo
  have h1 := h.hi
  have hv := h.ver
  have hd : w.fdiv 32 = w / 32 := Int.fdiv_eq_ediv_of_nonneg _ (by omega)
  have hlow := h.low
  have b0 : bitB w 0 = true := by simp [bitB]; omega
  have b3 : bitB w 3 = false := by simp [bitB]; omega
  have b4 : bitB w 4 = false := by simp [bitB]; omega
  have hor1 : bOr .i64 0 1 = 1 := by decide
  have hor2 : bOr .i64 0 2 = 2 := by decide
  have hor3 : bOr .i64 1 2 = 3 := by decide
  have ok : ∀ x ∈ [(204, st204)], CStepOk Tryz.prog cfg x.1 x.2 := by simp [st204_ok]
  refine runs_by (tbl := [(204, st204)]) ok 6 2 (af := a149) rfl ?_
  rw [a149, b149, run_eq]
  refine ⟨by simp, ?_⟩
  simp (implicitDefEqProofs := false) [st204, h0, h1, b0, b1, b2, b3, b4, hd, IntKind.bits, aggOf2, aeqA]
  refine loop_inv (sg_mono gX_ok (tabS_ok ok) _ _ noY noY_mono) (fun m tm H => ∃ i : Nat, m + i = 4 ∧ tm 2 = .pointer (some ⟨0, 0, none⟩) ∧ tm 4 = .pointer (some ⟨1, 0, none⟩) ∧ tm 5 = .pointer (some ⟨2, 0, none⟩) ∧ tm 16 = .int .i64 i ∧
    H = AH.of [some (.arr 209 [.int .i64 0, .int .u64 0]), some (.arr 250 [.bool true, .bool x1, .bool x2, .bool false, .bool false]), some (.arr 209 [.int .i64 (acc x1 x2 i), .int .u64 (w / 32)])]) (m := 4) ⟨0, by simp [acc]⟩ (by omega) ?_
  rintro m tm H ⟨i, hm, t2, t4, t5, t16, rfl⟩
  cases x1 <;> cases x2 <;> (
    obtain rfl | rfl | rfl | rfl | rfl : i = 0 ∨ i = 1 ∨ i = 2 ∨ i = 3 ∨ i = 4 := by omega
    · simp (implicitDefEqProofs := false) [t2, t4, t5, t16, wrap_i64, IntKind.bits, acc, hor1, hor2, hor3]
      exact ⟨m - 1, by omega, 1, by omega, by simp⟩
    · simp (implicitDefEqProofs := false) [t2, t4, t5, t16, wrap_i64, IntKind.bits, acc, hor1, hor2, hor3]
      exact ⟨m - 1, by omega, 2, by omega, by simp⟩
    · simp (implicitDefEqProofs := false) [t2, t4, t5, t16, wrap_i64, IntKind.bits, acc, hor1, hor2, hor3]
      exact ⟨m - 1, by omega, 3, by omega, by simp⟩
    · simp (implicitDefEqProofs := false) [t2, t4, t5, t16, wrap_i64, IntKind.bits, acc, hor1, hor2, hor3]
      exact ⟨m - 1, by omega, 4, by omega, by simp⟩
    · simp (implicitDefEqProofs := false) [t2, t4, t5, t16, wrap_i64, IntKind.bits, acc, forms205, a205, b205, forms238, a238, b238, hv]
      refine ends_plan [] [] ?_ ?_ ?_ <;> simp [wVer, ho, acc])
set_option maxHeartbeats 1000000 in
theorem runs149 (w : Int) (h : RightW w) : Runs Tryz.prog cfg 149 [.int .u64 w] (AH.of [])
    fun r H' => r = .ret (.tuple #[.agg #[.int .i64 (wOwn w), .int .u64 (wVer w)], .bool true]) ∧ H' = AH.of [] := by
  by_cases hl : w % 32 = 0
  · refine Runs.ends ?_
    have h0 := h.lo
    have h1 := h.hi
    have hv := h.ver
    refine runs_by (tbl := [(204, st204)]) (by simp [st204_ok]) 6 2 (af := a149) rfl ?_
    rw [a149, b149, run_eq]
    refine ⟨by simp, ?_⟩
    have hd : w.fdiv 32 = w / 32 := Int.fdiv_eq_ediv_of_nonneg _ (by omega)
    have b0 : bitB w 0 = false := by simp [bitB]; omega
    have b1 : bitB w 1 = false := by simp [bitB]; omega
    have b2 : bitB w 2 = false := by simp [bitB]; omega
    have b3 : bitB w 3 = false := by simp [bitB]; omega
    have b4 : bitB w 4 = false := by simp [bitB]; omega
    simp (implicitDefEqProofs := false) [st204, h0, h1, b0, b1, b2, b3, b4, hd, IntKind.bits, aggOf2, aeqA, forms205, a205, b205, hv]
    refine ends_plan [] [] ?_ ?_ ?_ <;> simp [wOwn, wVer, hl]
  · have hlow := h.low
    rcases (by omega : w % 32 = 1 ∨ w % 32 = 3 ∨ w % 32 = 5 ∨ w % 32 = 7) with q | q | q | q
    · exact split_odd w h hl false false (by simp [bitB]; omega) (by simp [bitB]; omega) (by simp [wOwn, acc]; omega)
    · exact split_odd w h hl true false (by simp [bitB]; omega) (by simp [bitB]; omega) (by simp [wOwn, acc]; omega)
    · exact split_odd w h hl false true (by simp [bitB]; omega) (by simp [bitB]; omega) (by simp [wOwn, acc]; omega)
    · exact split_odd w h hl true true (by simp [bitB]; omega) (by simp [bitB]; omega) (by simp [wOwn, acc]; omega)
end YtapbabkndhaemaaGreat
end Go.Proofs
/-
  Lock words: Read, Lock, Unlock, Restore, Next of the program.
-/
namespace Go.Proofs
namespace YtapbabkndhaemaaGreat
open Go.Abs
def lockC (w o : Int) : Int := if ¬ (0 ≤ o ∧ o < 4) then 2 else if wOwn w = o then 6 else if wOwn w ≠ -1 then 7 else 0
def lockV (w o : Int) : Int := if lockC w o = 0 then mkW o (wVer w) else 0
def unlockC (w o v : Int) : Int := if ¬ (0 ≤ o ∧ o < 4) ∨ 1099511627776 < v then 2 else if wOwn w ≠ o ∨ v < wVer w then 8 else 0
def unlockV (w o v : Int) : Int := if unlockC w o v = 0 then mkW (-1) v else 0
def restC (w o : Int) : Int := if ¬ (0 ≤ o ∧ o < 4) then 2 else if wOwn w ≠ o then 8 else 0
def restV (w o : Int) : Int := if restC w o = 0 then mkW (-1) (wVer w) else 0
def nextC (v : Int) : Int := if 1099511627776 < v then 2 else if v = 1099511627776 then 4 else 0
def nextV (v : Int) : Int := if nextC v = 0 then v + 1 else 0
def p149 : PStep
  | [.int .u64 w] => some (RightW w, .tuple #[.agg #[.int .i64 (wOwn w), .int .u64 (wVer w)], .bool true])
  | _ => none
abbrev st149 := pureStep p149
theorem st149_ok : CStepOk Tryz.prog cfg 149 st149 := pure_ok fun args p v h hp => by
  unfold p149 at h
  split at h
  · cases h; exact ⟨rfl, rfl, runs149 _ hp⟩
  · cases h
theorem bOr_word {o v : Int} (ho : 0 ≤ o ∧ o < 4) (h0 : 0 ≤ v) (h1 : v ≤ 1099511627776) : bOr .u64 (v * 32) (bOr .u64 (o * 2) 1) = mkW o v := by
  have e1 : bOr .u64 (o * 2) 1 = o * 2 + 1 := by
    have := bOr_low (a := o) (b := 1) 1 ho.1 (by omega) (by decide) (by omega)
    simpa using this
  have e2 := bOr_low (a := v) (b := o * 2 + 1) 5 h0 (by omega) (by show o * 2 + 1 < 32; omega) (by show v * 32 + (o * 2 + 1) < _; omega)
  rw [e1]
  have e3 : (2 : Int) ^ 5 = 32 := by decide
  rw [e3] at e2
  rw [e2]
  unfold mkW
  rw [if_neg (by omega)]
theorem runs258 (o v : Int) (ho : -1 ≤ o ∧ o < 4) (h0 : 0 ≤ v) (h1 : v ≤ 1099511627776) : Runs Tryz.prog cfg 258 [.agg #[.int .i64 o, .int .u64 v]] (AH.of [])
    fun r H' => r = .ret (.int .u64 (mkW o v)) ∧ H' = AH.of [] := by
  refine Runs.ends ?_
  refine runs_by (tbl := []) (by simp) 0 0 (af := a258) rfl ?_
  rw [a258, b258, run_eq]
  refine ⟨by simp, ?_⟩
  have hw : IntKind.u64.wrap (v * 32) = v * 32 := wrap_u64 (by omega) (by omega)
  by_cases hn : o = -1
  · subst hn
    simp (implicitDefEqProofs := false) [IntKind.bits, hw]
    refine ends_plan [] [] ?_ ?_ ?_ <;> simp [mkW]
  · have ho' : 0 ≤ o ∧ o < 4 := by omega
    have hw2 : IntKind.u64.wrap o = o := wrap_u64 (by omega) (by omega)
    have hw3 : IntKind.u64.wrap (o * 2) = o * 2 := wrap_u64 (by omega) (by omega)
    simp (implicitDefEqProofs := false) [IntKind.bits, hw, hn, hw2, hw3, bOr_word ho' h0 h1]
    refine ends_plan [] [] ?_ ?_ ?_ <;> simp
def p258 : PStep
  | [.agg ⟨[.int .i64 o, .int .u64 v]⟩] => some ((-1 ≤ o ∧ o < 4) ∧ 0 ≤ v ∧ v ≤ 1099511627776, .int .u64 (mkW o v))
  | _ => none
abbrev st258 := pureStep p258
theorem st258_ok : CStepOk Tryz.prog cfg 258 st258 := pure_ok fun args p v h hp => by
  unfold p258 at h
  split at h
  · cases h; exact ⟨rfl, rfl, runs258 _ _ hp.1 hp.2.1 hp.2.2⟩
  · cases h
def tblW : List (FuncId × CStep GD) := [(149, st149), (258, st258)]
theorem tblW_ok : ∀ x ∈ tblW, CStepOk Tryz.prog cfg x.1 x.2 := by simp [tblW, st149_ok, st258_ok]
theorem runs178 (w : Int) (h : RightW w) : Runs Tryz.prog cfg 178 [.int .u64 w] (AH.of [])
    fun r H' => r = .ret (.tuple #[.int .i64 (wOwn w), .int .u64 (wVer w), .int .i64 0]) ∧ H' = AH.of [] := by
  refine Runs.ends ?_
  refine runs_by (tbl := tblW) tblW_ok 0 0 (af := a178) rfl ?_
  rw [a178, b178, run_eq]
  refine ⟨by simp, ?_⟩
  simp (implicitDefEqProofs := false) [tblW, pureStep, p149, h]
  refine ends_plan [] [] ?_ ?_ ?_ <;> simp
def p178 : PStep
  | [.int .u64 w] => some (RightW w, .tuple #[.int .i64 (wOwn w), .int .u64 (wVer w), .int .i64 0])
  | _ => none
abbrev st178 := pureStep p178
theorem st178_ok : CStepOk Tryz.prog cfg 178 st178 := pure_ok fun args p v h hp => by
  unfold p178 at h
  split at h
  · cases h; exact ⟨rfl, rfl, runs178 _ hp⟩
  · cases h
set_option maxHeartbeats 1000000 in
theorem runs242 (w o : Int) (h : RightW w) : Runs Tryz.prog cfg 242 [.int .u64 w, .int .i64 o] (AH.of [])
    fun r H' => r = .ret (.tuple #[.int .u64 (lockV w o), .int .i64 (lockC w o)]) ∧ H' = AH.of [] := by
  refine Runs.ends ?_
  have hv := h.ver0
  have hw := h.own
  refine runs_by (tbl := tblW) tblW_ok 0 4 (af := a242) rfl ?_
  rw [a242, b242, run_eq]
  refine ⟨by simp, ?_⟩
  simp (implicitDefEqProofs := false) [tblW, pureStep, p149, h, forms244, a244, b244, forms238, a238, b238, forms255, a255, b255, forms205, a205, b205, forms245, a245, b245, p258]
  repeat' (first | with_reducible apply And.intro | with_reducible intro _)
  all_goals first
    | omega
    | (refine ends_plan [] [] ?_ ?_ ?_ <;> simp [lockC, lockV, *] <;> omega)
def p242 : PStep
  | [.int .u64 w, .int .i64 o] => some (RightW w, .tuple #[.int .u64 (lockV w o), .int .i64 (lockC w o)])
  | _ => none
abbrev st242 := pureStep p242
theorem st242_ok : CStepOk Tryz.prog cfg 242 st242 := pure_ok fun args p v h hp => by
  unfold p242 at h
  split at h
  · cases h; exact ⟨rfl, rfl, runs242 _ _ hp⟩
  · cases h
set_option maxHeartbeats 1000000 in
theorem runs213 (w o v : Int) (h : RightW w) (hv0 : 0 ≤ v) : Runs Tryz.prog cfg 213 [.int .u64 w, .int .i64 o, .int .u64 v] (AH.of [])
    fun r H' => r = .ret (.tuple #[.int .u64 (unlockV w o v), .int .i64 (unlockC w o v)]) ∧ H' = AH.of [] := by
  refine Runs.ends ?_
  have hv := h.ver0
  have hw := h.own
  refine runs_by (tbl := tblW) tblW_ok 0 4 (af := a213) rfl ?_
  rw [a213, b213, run_eq]
  refine ⟨by simp, ?_⟩
  simp (implicitDefEqProofs := false) [tblW, pureStep, p149, h, forms244, a244, b244, forms238, a238, b238, forms255, a255, b255, forms205, a205, b205, forms245, a245, b245, p258]
  repeat' (first | with_reducible apply And.intro | with_reducible intro _)
  all_goals first
    | omega
    | (refine ends_plan [] [] ?_ ?_ ?_ <;> simp [unlockC, unlockV, *] <;> omega)
def p213 : PStep
  | [.int .u64 w, .int .i64 o, .int .u64 v] => some (RightW w ∧ 0 ≤ v, .tuple #[.int .u64 (unlockV w o v), .int .i64 (unlockC w o v)])
  | _ => none
abbrev st213 := pureStep p213
theorem st213_ok : CStepOk Tryz.prog cfg 213 st213 := pure_ok fun args p v h hp => by
  unfold p213 at h
  split at h
  · cases h; exact ⟨rfl, rfl, runs213 _ _ _ hp.1 hp.2⟩
  · cases h
set_option maxHeartbeats 1000000 in
theorem runs219 (w o : Int) (h : RightW w) : Runs Tryz.prog cfg 219 [.int .u64 w, .int .i64 o] (AH.of [])
    fun r H' => r = .ret (.tuple #[.int .u64 (restV w o), .int .i64 (restC w o)]) ∧ H' = AH.of [] := by
  refine Runs.ends ?_
  have hv := h.ver0
  have hw := h.own
  refine runs_by (tbl := tblW) tblW_ok 0 4 (af := a219) rfl ?_
  rw [a219, b219, run_eq]
  refine ⟨by simp, ?_⟩
  simp (implicitDefEqProofs := false) [tblW, pureStep, p149, h, forms244, a244, b244, forms238, a238, b238, forms255, a255, b255, forms205, a205, b205, forms245, a245, b245, p258]
  repeat' (first | with_reducible apply And.intro | with_reducible intro _)
  all_goals first
    | omega
    | (refine ends_plan [] [] ?_ ?_ ?_ <;> simp [restC, restV, *] <;> omega)
def p219 : PStep
  | [.int .u64 w, .int .i64 o] => some (RightW w, .tuple #[.int .u64 (restV w o), .int .i64 (restC w o)])
  | _ => none
abbrev st219 := pureStep p219
theorem st219_ok : CStepOk Tryz.prog cfg 219 st219 := pure_ok fun args p v h hp => by
  unfold p219 at h
  split at h
  · cases h; exact ⟨rfl, rfl, runs219 _ _ hp⟩
  · cases h
theorem runs256 (v : Int) (h0 : 0 ≤ v) : Runs Tryz.prog cfg 256 [.int .u64 v] (AH.of [])
    fun r H' => r = .ret (.tuple #[.int .u64 (nextV v), .int .i64 (nextC v)]) ∧ H' = AH.of [] := by
  refine Runs.ends ?_
  refine runs_by (tbl := []) (by simp) 0 0 (af := a256) rfl ?_
  rw [a256, b256, run_eq]
  refine ⟨by simp, ?_⟩
  have hw : v < 1099511627776 → IntKind.u64.wrap (v + 1) = v + 1 := fun h => wrap_u64 (by omega) (by omega)
  simp (implicitDefEqProofs := false)
  repeat' (first | with_reducible apply And.intro | with_reducible intro _)
  all_goals first
    | omega
    | (refine ends_plan [] [] ?_ ?_ ?_ <;> simp [nextC, nextV, *] <;> omega)
def p256 : PStep
  | [.int .u64 v] => some (0 ≤ v, .tuple #[.int .u64 (nextV v), .int .i64 (nextC v)])
  | _ => none
abbrev st256 := pureStep p256
theorem st256_ok : CStepOk Tryz.prog cfg 256 st256 := pure_ok fun args p v h hp => by
  unfold p256 at h
  split at h
  · cases h; exact ⟨rfl, rfl, runs256 _ hp⟩
  · cases h
end YtapbabkndhaemaaGreat
end Go.Proofs
/-
  Lock words: the reference's functions.
-/
namespace Go.Proofs
namespace YtapbabkndhaemaaGreat
open Go.Abs
theorem tmod32 {w : Int} (h : 0 ≤ w) : w.tmod 32 = w % 32 := Int.tmod_eq_emod_of_nonneg h
theorem tdiv32 {w : Int} (h : 0 ≤ w) : w.tdiv 32 = w / 32 := Int.tdiv_eq_ediv_of_nonneg h
theorem runs237 (o v : Int) (h0 : 0 ≤ v) (h1 : v ≤ 1099511627776) (ho : 0 ≤ o ∧ o < 4) : Runs Tryz.prog cfg 237 [.int .i64 o, .int .u64 v] (AH.of [])
    fun r H' => r = .ret (.tuple #[.int .u64 (mkW o v), .int .i64 0]) ∧ H' = AH.of [] := by
  refine Runs.ends ?_
  refine runs_by (tbl := []) (by simp) 0 4 (af := a237) rfl ?_
  rw [a237, b237, run_eq]
  refine ⟨by simp, ?_⟩
  have e1 : IntKind.u64.wrap (v * 32) = v * 32 := wrap_u64 (by omega) (by omega)
  have e2 : IntKind.u64.wrap o = o := wrap_u64 (by omega) (by omega)
  have e3 : IntKind.u64.wrap (o * 2) = o * 2 := wrap_u64 (by omega) (by omega)
  have e4 : IntKind.u64.wrap (v * 32 + o * 2) = v * 32 + o * 2 := wrap_u64 (by omega) (by omega)
  have e5 : IntKind.u64.wrap (v * 32 + o * 2 + 1) = v * 32 + o * 2 + 1 := wrap_u64 (by omega) (by omega)
  simp (implicitDefEqProofs := false) [forms252, a252, b252, e1, e2, e3, e4, e5, h1]
  repeat' (first | with_reducible apply And.intro | with_reducible intro _)
  all_goals first
    | omega
    | (refine ends_plan [] [] ?_ ?_ ?_ <;> simp [mkW, *] <;> omega)
def p237 : PStep
  | [.int .i64 o, .int .u64 v] => some (0 ≤ v ∧ v ≤ 1099511627776 ∧ (0 ≤ o ∧ o < 4), .tuple #[.int .u64 (mkW o v), .int .i64 0])
  | _ => none
abbrev st237 := pureStep p237
theorem st237_ok : CStepOk Tryz.prog cfg 237 st237 := pure_ok fun args p v h hp => by
  unfold p237 at h
  split at h
  · cases h; exact ⟨rfl, rfl, runs237 _ _ hp.1 hp.2.1 hp.2.2⟩
  · cases h
theorem runs203 (w : Int) (h : RightW w) : Runs Tryz.prog cfg 203 [.int .u64 w] (AH.of [])
    fun r H' => r = .ret (.tuple #[.int .i64 (wOwn w), .int .u64 (wVer w), .int .i64 0]) ∧ H' = AH.of [] := by
  refine Runs.ends ?_
  have h0 := h.lo
  have hv := h.ver0
  have hv2 := h.ver
  have hlow := h.low
  have ok : ∀ x ∈ [(237, st237)], CStepOk Tryz.prog cfg x.1 x.2 := by simp [st237_ok]
  refine runs_by (tbl := [(237, st237)]) ok 5 0 (af := a203) rfl ?_
  rw [a203, b203, run_eq]
  refine ⟨by simp, ?_⟩
  have hwr : IntKind.u64.wrap (w / 32) = w / 32 := wrap_u64 (by omega) (by omega)
  simp (implicitDefEqProofs := false) [tmod32 h0, tdiv32 h0, hwr]
  refine ⟨fun hb => by omega, fun _ => ⟨fun hz => ?_, fun hz => ?_⟩⟩
  · refine ends_plan [] [] ?_ ?_ ?_ <;> simp [wOwn, wVer, hz]
  have how : wOwn w = (w % 32 - 1) / 2 := by unfold wOwn; rw [if_neg hz]
  refine loop_inv (sg_mono gX_ok (tabS_ok ok) _ _ noY noY_mono) (fun m tm H => ∃ i : Nat, m + i = 4 ∧ (i : Int) ≤ wOwn w ∧ tm 0 = .int .u64 w ∧ tm 5 = .int .u64 (w / 32) ∧ tm 6 = .int .i64 i ∧ H = AH.of []) (m := 4) ⟨0, by omega, by omega, by simp⟩ (by omega) ?_
  rintro m tm H ⟨i, hm, hi, t0, t5, t6, rfl⟩
  have hi4 : (i : Int) < 4 := by omega
  have hw := wrap_i64 (n := (i : Int) + 1) (by omega) (by omega)
  have hvv : 0 ≤ w / 32 := by omega
  simp (implicitDefEqProofs := false) [pureStep, p237, t0, t5, t6, hi4, hw, hv2, hvv]
  refine ⟨fun he => ?_, fun he => ?_⟩
  · have : wOwn w = i := by
      rw [← he]; exact mkW_own (by omega)
    refine ends_plan [] [] ?_ ?_ ?_ <;> simp [this, wVer]
  · have : (i : Int) ≠ wOwn w := fun e => he (by rw [e]; exact mkW_self h)
    exact ⟨m - 1, by omega, i + 1, by omega, by omega, by simp⟩
def p203 : PStep
  | [.int .u64 w] => some (RightW w, .tuple #[.int .i64 (wOwn w), .int .u64 (wVer w), .int .i64 0])
  | _ => none
abbrev st203 := pureStep p203
theorem st203_ok : CStepOk Tryz.prog cfg 203 st203 := pure_ok fun args p v h hp => by
  unfold p203 at h
  split at h
  · cases h; exact ⟨rfl, rfl, runs203 _ hp⟩
  · cases h
def tblWR : List (FuncId × CStep GD) := [(203, st203), (237, st237)]
theorem tblWR_ok : ∀ x ∈ tblWR, CStepOk Tryz.prog cfg x.1 x.2 := by simp [tblWR, st203_ok, st237_ok]
set_option maxHeartbeats 1000000 in
theorem runs250 (w o : Int) (h : RightW w) : Runs Tryz.prog cfg 250 [.int .u64 w, .int .i64 o] (AH.of [])
    fun r H' => r = .ret (.tuple #[.int .u64 (lockV w o), .int .i64 (lockC w o)]) ∧ H' = AH.of [] := by
  refine Runs.ends ?_
  have hv := h.ver0
  have hw := h.own
  refine runs_by (tbl := tblWR) tblWR_ok 0 4 (af := a250) rfl ?_
  rw [a250, b250, run_eq]
  refine ⟨by simp, ?_⟩
  simp (implicitDefEqProofs := false) [tblWR, pureStep, p203, p237, h, forms252, a252, b252, forms253, a253, b253]
  repeat' (first | with_reducible apply And.intro | with_reducible intro _)
  all_goals first
    | omega
    | (refine ends_plan [] [] ?_ ?_ ?_ <;> simp [lockC, lockV, *] <;> omega)
def p250 : PStep
  | [.int .u64 w, .int .i64 o] => some (RightW w, .tuple #[.int .u64 (lockV w o), .int .i64 (lockC w o)])
  | _ => none
abbrev st250 := pureStep p250
theorem st250_ok : CStepOk Tryz.prog cfg 250 st250 := pure_ok fun args p v h hp => by
  unfold p250 at h
  split at h
  · cases h; exact ⟨rfl, rfl, runs250 _ _ hp⟩
  · cases h
set_option maxHeartbeats 1000000 in
theorem runs234 (w o v : Int) (h : RightW w) (hv0 : 0 ≤ v) : Runs Tryz.prog cfg 234 [.int .u64 w, .int .i64 o, .int .u64 v] (AH.of [])
    fun r H' => r = .ret (.tuple #[.int .u64 (unlockV w o v), .int .i64 (unlockC w o v)]) ∧ H' = AH.of [] := by
  refine Runs.ends ?_
  have hv := h.ver0
  have hw := h.own
  have e1 : v ≤ 1099511627776 → IntKind.u64.wrap (v * 32) = v * 32 := fun h => wrap_u64 (by omega) (by omega)
  refine runs_by (tbl := tblWR) tblWR_ok 0 4 (af := a234) rfl ?_
  rw [a234, b234, run_eq]
  refine ⟨by simp, ?_⟩
  simp (implicitDefEqProofs := false) [tblWR, pureStep, p203, p237, h, forms252, a252, b252, forms253, a253, b253]
  repeat' (first | with_reducible apply And.intro | with_reducible intro _)
  all_goals first
    | omega
    | (refine ends_plan [] [] ?_ ?_ ?_ <;> simp [unlockC, unlockV, mkW, *] <;> omega)
def p234 : PStep
  | [.int .u64 w, .int .i64 o, .int .u64 v] => some (RightW w ∧ 0 ≤ v, .tuple #[.int .u64 (unlockV w o v), .int .i64 (unlockC w o v)])
  | _ => none
abbrev st234 := pureStep p234
theorem st234_ok : CStepOk Tryz.prog cfg 234 st234 := pure_ok fun args p v h hp => by
  unfold p234 at h
  split at h
  · cases h; exact ⟨rfl, rfl, runs234 _ _ _ hp.1 hp.2⟩
  · cases h
set_option maxHeartbeats 1000000 in
theorem runs249 (w o : Int) (h : RightW w) : Runs Tryz.prog cfg 249 [.int .u64 w, .int .i64 o] (AH.of [])
    fun r H' => r = .ret (.tuple #[.int .u64 (restV w o), .int .i64 (restC w o)]) ∧ H' = AH.of [] := by
  refine Runs.ends ?_
  have hv := h.ver0
  have hw := h.own
  have e1 : IntKind.u64.wrap (wVer w * 32) = wVer w * 32 := wrap_u64 (by omega) (by omega)
  refine runs_by (tbl := tblWR) tblWR_ok 0 4 (af := a249) rfl ?_
  rw [a249, b249, run_eq]
  refine ⟨by simp, ?_⟩
  simp (implicitDefEqProofs := false) [tblWR, pureStep, p203, p237, h, forms252, a252, b252, forms253, a253, b253, e1]
  repeat' (first | with_reducible apply And.intro | with_reducible intro _)
  all_goals first
    | omega
    | (refine ends_plan [] [] ?_ ?_ ?_ <;> simp [restC, restV, mkW, *] <;> omega)
def p249 : PStep
  | [.int .u64 w, .int .i64 o] => some (RightW w, .tuple #[.int .u64 (restV w o), .int .i64 (restC w o)])
  | _ => none
abbrev st249 := pureStep p249
theorem st249_ok : CStepOk Tryz.prog cfg 249 st249 := pure_ok fun args p v h hp => by
  unfold p249 at h
  split at h
  · cases h; exact ⟨rfl, rfl, runs249 _ _ hp⟩
  · cases h
theorem runs251 (v : Int) (h0 : 0 ≤ v) : Runs Tryz.prog cfg 251 [.int .u64 v] (AH.of [])
    fun r H' => r = .ret (.tuple #[.int .u64 (nextV v), .int .i64 (nextC v)]) ∧ H' = AH.of [] := by
  refine Runs.ends ?_
  refine runs_by (tbl := []) (by simp) 0 0 (af := a251) rfl ?_
  rw [a251, b251, run_eq]
  refine ⟨by simp, ?_⟩
  have hw : v < 1099511627776 → IntKind.u64.wrap (v + 1) = v + 1 := fun h => wrap_u64 (by omega) (by omega)
  simp (implicitDefEqProofs := false)
  repeat' (first | with_reducible apply And.intro | with_reducible intro _)
  all_goals first
    | omega
    | (refine ends_plan [] [] ?_ ?_ ?_ <;> simp [nextC, nextV, *] <;> omega)
def p251 : PStep
  | [.int .u64 v] => some (0 ≤ v, .tuple #[.int .u64 (nextV v), .int .i64 (nextC v)])
  | _ => none
abbrev st251 := pureStep p251
theorem st251_ok : CStepOk Tryz.prog cfg 251 st251 := pure_ok fun args p v h hp => by
  unfold p251 at h
  split at h
  · cases h; exact ⟨rfl, rfl, runs251 _ hp⟩
  · cases h
end YtapbabkndhaemaaGreat
end Go.Proofs
/-
  STRIPES: what a table is; what its methods come to: of the program, and of the reference.
-/
namespace Go.Proofs
namespace YtapbabkndhaemaaGreat
open Go.Abs
structure GoodT (ws : List Int) (c : Int) : Prop where
  len1 : 1 ≤ ws.length
  len8 : ws.length ≤ 8
  right : ∀ w ∈ ws, RightW w ∧ wVer w ≤ c
  c0 : 0 ≤ c
  c1 : c ≤ 1099511627776
def getW (ws : List Int) (s : Int) : Int := ws.getD s.toNat 0
def inR (ws : List Int) (s : Int) : Prop := 0 ≤ s ∧ s < ws.length
instance (ws : List Int) (s : Int) : Decidable (inR ws s) := by unfold inR; infer_instance
theorem GoodT.get {ws : List Int} {c : Int} (h : GoodT ws c) {i : Nat} {w : Int} (hi : ws[i]? = some w) : RightW w ∧ wVer w ≤ c := h.right w (List.mem_of_getElem? hi)
theorem getW_at {ws : List Int} {i : Nat} {w : Int} (hi : ws[i]? = some w) : getW ws i = w := by simp [getW, hi]
def lockTC (ws : List Int) (o s : Int) : Int := if inR ws s then lockC (getW ws s) o else 2
def lockTL (ws : List Int) (o s : Int) : List Int := if lockTC ws o s = 0 then ws.set s.toNat (lockV (getW ws s) o) else ws
def unlockTC (ws : List Int) (c o s v : Int) : Int := if inR ws s then (if c < v then 2 else unlockC (getW ws s) o v) else 2
def unlockTL (ws : List Int) (c o s v : Int) : List Int := if unlockTC ws c o s v = 0 then ws.set s.toNat (unlockV (getW ws s) o v) else ws
def restTC (ws : List Int) (o s : Int) : Int := if inR ws s then restC (getW ws s) o else 2
def restTL (ws : List Int) (o s : Int) : List Int := if restTC ws o s = 0 then ws.set s.toNat (restV (getW ws s) o) else ws
def wordTV (ws : List Int) (s : Int) : Int := if inR ws s then getW ws s else 0
def wordTC (ws : List Int) (s : Int) : Int := if inR ws s then 0 else 2
def ownTV (ws : List Int) (s : Int) : Int := if inR ws s then (if 0 ≤ wOwn (getW ws s) then wOwn (getW ws s) else 0) else 0
def ownTB (ws : List Int) (s : Int) : Bool := if inR ws s then decide (0 ≤ wOwn (getW ws s)) else false
def verT (ws : List Int) (s : Int) : Int := if inR ws s then wVer (getW ws s) else 0
def tickL (c : Int) : Int := if nextC c = 0 then nextV c else c
def ofT (ws : List Int) (t : Int) : Int := if 0 ≤ t ∧ t < 12 then (t * 5 + 3) % ws.length else -1
def tblT : List (FuncId × CStep GD) := [(242, st242), (213, st213), (219, st219), (256, st256), (178, st178), (250, st250), (234, st234), (249, st249), (251, st251), (203, st203)]
theorem tblT_ok : ∀ x ∈ tblT, CStepOk Tryz.prog cfg x.1 x.2 := by simp [tblT, st242_ok, st213_ok, st219_ok, st256_ok, st178_ok, st250_ok, st234_ok, st249_ok, st251_ok, st203_ok]
set_option maxHeartbeats 1000000 in
theorem runs209 (ws : List Int) (c : Int) (o s : Int) (h : GoodT ws c) : Runs Tryz.prog cfg 209 [.pointer (some ⟨0, 0, none⟩), .int .i64 o, .int .i64 s] (AH.of [some (.hi (.tab ws c))])
    fun r H' => r = .ret (.int .i64 (lockTC ws o s)) ∧ H' = AH.of [some (.hi (.tab (lockTL ws o s) (c)))] := by
  refine Runs.ends ?_
  refine Runs.opn 0 rfl ?_
  have h0 := h.c0
  have h8 := h.len8
  refine runs_by (tbl := tblT) tblT_ok 0 4 (af := a209) rfl ?_
  rw [a209, b209, run_eq]
  refine ⟨by simp, ?_⟩
  by_cases hr : inR ws s
  · obtain ⟨i, rfl⟩ := Int.eq_ofNat_of_zero_le hr.1
    have hi : i < ws.length := by have := hr.2; omega
    obtain ⟨w, hx⟩ : ∃ w, ws[i]? = some w := ⟨ws[i], List.getElem?_eq_getElem hi⟩
    have hw := h.get hx
    have hi' : ¬ (ws.length : Int) ≤ i := by omega
    have hi2 : (i : Int) < ws.length := by omega
    have hi3 : ¬ (i : Int) < 0 := by omega
    simp (implicitDefEqProofs := false) [tblT, pureStep, p242, p213, p219, p256, p178, p250, p234, p249, p251, p203, frag_tab, forms211, a211, b211, forms148, a148, b148, forms241, a241, b241, hi, hi', hi2, hi3, us_at hx, hw.1, us_set]
    repeat' (first | with_reducible apply And.intro | with_reducible intro _)
    all_goals first
      | omega
      | (rw [us_length]; omega)
      | (refine ends_plan [.pack (GD.tab (lockTL ws o i) (c)) 0 [1]] [0] ?_ ?_ ?_ <;> simp [lockTC, lockTL, frag_tab, AObj.mine, hr, getW_at hx, *] <;> omega)
  · have hr2 : s < 0 ∨ (ws.length : Int) ≤ s := by unfold inR at hr; omega
    simp (implicitDefEqProofs := false) [tblT, frag_tab, forms211, a211, b211, forms148, a148, b148, forms241, a241, b241]
    repeat' (first | with_reducible apply And.intro | with_reducible intro _)
    all_goals first
      | omega
      | (rw [us_length]; omega)
      | (refine ends_plan [.pack (GD.tab ws c) 0 [1]] [0] ?_ ?_ ?_ <;> simp [lockTC, lockTL, frag_tab, AObj.mine, hr] <;> omega)
def st209 : CStep GD := fun args H => match args with
  | [.pointer (some ⟨k, 0, none⟩), .int .i64 o, .int .i64 s] => match H.get k with
    | some (.hi (.tab ws c)) => some (GoodT ws c, .ret (.int .i64 (lockTC ws o s)), H.upd k (.hi (.tab (lockTL ws o s) (c))))
    | _ => none
  | _ => none
theorem st209_ok : CStepOk Tryz.prog cfg 209 st209 := by
  intro args H p r H' h hp
  unfold st209 at h
  split at h
  case h_2 => cases h
  split at h
  case h_2 => cases h
  rename_i k o s x1 ws c hk
  cases h
  exact (runs209 ws c o s hp).atK (ro_none rfl) [k] (by simp) (by simp) (by simp [hk]) (by simp) (by simp) (by simp [upd_get hk])
set_option maxHeartbeats 1000000 in
theorem runs156 (ws : List Int) (c : Int) (o s v : Int) (h : GoodT ws c) (hv : 0 ≤ v) : Runs Tryz.prog cfg 156 [.pointer (some ⟨0, 0, none⟩), .int .i64 o, .int .i64 s, .int .u64 v] (AH.of [some (.hi (.tab ws c))])
    fun r H' => r = .ret (.int .i64 (unlockTC ws c o s v)) ∧ H' = AH.of [some (.hi (.tab (unlockTL ws c o s v) (c)))] := by
  refine Runs.ends ?_
  refine Runs.opn 0 rfl ?_
  have h0 := h.c0
  have h8 := h.len8
  refine runs_by (tbl := tblT) tblT_ok 0 4 (af := a156) rfl ?_
  rw [a156, b156, run_eq]
  refine ⟨by simp, ?_⟩
  by_cases hr : inR ws s
  · obtain ⟨i, rfl⟩ := Int.eq_ofNat_of_zero_le hr.1
    have hi : i < ws.length := by have := hr.2; omega
    obtain ⟨w, hx⟩ : ∃ w, ws[i]? = some w := ⟨ws[i], List.getElem?_eq_getElem hi⟩
    have hw := h.get hx
    have hi' : ¬ (ws.length : Int) ≤ i := by omega
    have hi2 : (i : Int) < ws.length := by omega
    have hi3 : ¬ (i : Int) < 0 := by omega
    by_cases hcv : c < v
    · simp (implicitDefEqProofs := false) [tblT, pureStep, p242, p213, p219, p256, p178, p250, p234, p249, p251, p203, frag_tab, forms211, a211, b211, forms148, a148, b148, forms212, a212, b212, hi, hi', hi2, hi3, us_at hx, hw.1, us_set, hv, hcv]
      repeat' (first | with_reducible apply And.intro | with_reducible intro _)
      all_goals first
        | omega
        | (rw [us_length]; omega)
        | (refine ends_plan [.pack (GD.tab (unlockTL ws c o i v) (c)) 0 [1]] [0] ?_ ?_ ?_ <;> simp [unlockTC, unlockTL, frag_tab, AObj.mine, hr, getW_at hx, *] <;> omega)
    · simp (implicitDefEqProofs := false) [tblT, pureStep, p242, p213, p219, p256, p178, p250, p234, p249, p251, p203, frag_tab, forms211, a211, b211, forms148, a148, b148, forms212, a212, b212, hi, hi', hi2, hi3, us_at hx, hw.1, us_set, hv, hcv]
      repeat' (first | with_reducible apply And.intro | with_reducible intro _)
      all_goals first
        | omega
        | (rw [us_length]; omega)
        | (refine ends_plan [.pack (GD.tab (unlockTL ws c o i v) (c)) 0 [1]] [0] ?_ ?_ ?_ <;> simp [unlockTC, unlockTL, frag_tab, AObj.mine, hr, getW_at hx, *] <;> omega)
  · have hr2 : s < 0 ∨ (ws.length : Int) ≤ s := by unfold inR at hr; omega
    simp (implicitDefEqProofs := false) [tblT, frag_tab, forms211, a211, b211, forms148, a148, b148, forms212, a212, b212]
    repeat' (first | with_reducible apply And.intro | with_reducible intro _)
    all_goals first
      | omega
      | (rw [us_length]; omega)
      | (refine ends_plan [.pack (GD.tab ws c) 0 [1]] [0] ?_ ?_ ?_ <;> simp [unlockTC, unlockTL, frag_tab, AObj.mine, hr] <;> omega)
def st156 : CStep GD := fun args H => match args with
  | [.pointer (some ⟨k, 0, none⟩), .int .i64 o, .int .i64 s, .int .u64 v] => match H.get k with
    | some (.hi (.tab ws c)) => some (GoodT ws c ∧ 0 ≤ v, .ret (.int .i64 (unlockTC ws c o s v)), H.upd k (.hi (.tab (unlockTL ws c o s v) (c))))
    | _ => none
  | _ => none
theorem st156_ok : CStepOk Tryz.prog cfg 156 st156 := by
  intro args H p r H' h hp
  unfold st156 at h
  split at h
  case h_2 => cases h
  split at h
  case h_2 => cases h
  rename_i k o s v x1 ws c hk
  cases h
  exact (runs156 ws c o s v hp.1 hp.2).atK (ro_none rfl) [k] (by simp) (by simp) (by simp [hk]) (by simp) (by simp) (by simp [upd_get hk])
set_option maxHeartbeats 1000000 in
theorem runs165 (ws : List Int) (c : Int) (o s : Int) (h : GoodT ws c) : Runs Tryz.prog cfg 165 [.pointer (some ⟨0, 0, none⟩), .int .i64 o, .int .i64 s] (AH.of [some (.hi (.tab ws c))])
    fun r H' => r = .ret (.int .i64 (restTC ws o s)) ∧ H' = AH.of [some (.hi (.tab (restTL ws o s) (c)))] := by
  refine Runs.ends ?_
  refine Runs.opn 0 rfl ?_
  have h0 := h.c0
  have h8 := h.len8
  refine runs_by (tbl := tblT) tblT_ok 0 4 (af := a165) rfl ?_
  rw [a165, b165, run_eq]
  refine ⟨by simp, ?_⟩
  by_cases hr : inR ws s
  · obtain ⟨i, rfl⟩ := Int.eq_ofNat_of_zero_le hr.1
    have hi : i < ws.length := by have := hr.2; omega
    obtain ⟨w, hx⟩ : ∃ w, ws[i]? = some w := ⟨ws[i], List.getElem?_eq_getElem hi⟩
    have hw := h.get hx
    have hi' : ¬ (ws.length : Int) ≤ i := by omega
    have hi2 : (i : Int) < ws.length := by omega
    have hi3 : ¬ (i : Int) < 0 := by omega
    simp (implicitDefEqProofs := false) [tblT, pureStep, p242, p213, p219, p256, p178, p250, p234, p249, p251, p203, frag_tab, forms211, a211, b211, forms148, a148, b148, forms218, a218, b218, hi, hi', hi2, hi3, us_at hx, hw.1, us_set]
    repeat' (first | with_reducible apply And.intro | with_reducible intro _)
    all_goals first
      | omega
      | (rw [us_length]; omega)
      | (refine ends_plan [.pack (GD.tab (restTL ws o i) (c)) 0 [1]] [0] ?_ ?_ ?_ <;> simp [restTC, restTL, frag_tab, AObj.mine, hr, getW_at hx, *] <;> omega)
  · have hr2 : s < 0 ∨ (ws.length : Int) ≤ s := by unfold inR at hr; omega
    simp (implicitDefEqProofs := false) [tblT, frag_tab, forms211, a211, b211, forms148, a148, b148, forms218, a218, b218]
    repeat' (first | with_reducible apply And.intro | with_reducible intro _)
    all_goals first
      | omega
      | (rw [us_length]; omega)
      | (refine ends_plan [.pack (GD.tab ws c) 0 [1]] [0] ?_ ?_ ?_ <;> simp [restTC, restTL, frag_tab, AObj.mine, hr] <;> omega)
def st165 : CStep GD := fun args H => match args with
  | [.pointer (some ⟨k, 0, none⟩), .int .i64 o, .int .i64 s] => match H.get k with
    | some (.hi (.tab ws c)) => some (GoodT ws c, .ret (.int .i64 (restTC ws o s)), H.upd k (.hi (.tab (restTL ws o s) (c))))
    | _ => none
  | _ => none
theorem st165_ok : CStepOk Tryz.prog cfg 165 st165 := by
  intro args H p r H' h hp
  unfold st165 at h
  split at h
  case h_2 => cases h
  split at h
  case h_2 => cases h
  rename_i k o s x1 ws c hk
  cases h
  exact (runs165 ws c o s hp).atK (ro_none rfl) [k] (by simp) (by simp) (by simp [hk]) (by simp) (by simp) (by simp [upd_get hk])
set_option maxHeartbeats 1000000 in
theorem runs230 (ws : List Int) (c : Int) (o s : Int) (h : GoodT ws c) : Runs Tryz.prog cfg 230 [.pointer (some ⟨0, 0, none⟩), .int .i64 o, .int .i64 s] (AH.of [some (.hi (.rtab ws c))])
    fun r H' => r = .ret (.int .i64 (restTC ws o s)) ∧ H' = AH.of [some (.hi (.rtab (restTL ws o s) (c)))] := by
  refine Runs.ends ?_
  refine Runs.opn 0 rfl ?_
  have h0 := h.c0
  have h8 := h.len8
  refine runs_by (tbl := tblT) tblT_ok 0 4 (af := a230) rfl ?_
  rw [a230, b230, run_eq]
  refine ⟨by simp, ?_⟩
  by_cases hr : inR ws s
  · obtain ⟨i, rfl⟩ := Int.eq_ofNat_of_zero_le hr.1
    have hi : i < ws.length := by have := hr.2; omega
    obtain ⟨w, hx⟩ : ∃ w, ws[i]? = some w := ⟨ws[i], List.getElem?_eq_getElem hi⟩
    have hw := h.get hx
    have hi' : ¬ (ws.length : Int) ≤ i := by omega
    have hi2 : (i : Int) < ws.length := by omega
    have hi3 : ¬ (i : Int) < 0 := by omega
    simp (implicitDefEqProofs := false) [tblT, pureStep, p242, p213, p219, p256, p178, p250, p234, p249, p251, p203, frag_rtab, forms201, a201, b201, hi, hi', hi2, hi3, us_at hx, hw.1, us_set]
    repeat' (first | with_reducible apply And.intro | with_reducible intro _)
    all_goals first
      | omega
      | (rw [us_length]; omega)
      | (refine ends_plan [.pack (GD.rtab (restTL ws o i) (c)) 0 [1]] [0] ?_ ?_ ?_ <;> simp [restTC, restTL, frag_rtab, AObj.mine, hr, getW_at hx, *] <;> omega)
  · have hr2 : s < 0 ∨ (ws.length : Int) ≤ s := by unfold inR at hr; omega
    simp (implicitDefEqProofs := false) [tblT, frag_rtab, forms201, a201, b201]
    repeat' (first | with_reducible apply And.intro | with_reducible intro _)
    all_goals first
      | omega
      | (rw [us_length]; omega)
      | (refine ends_plan [.pack (GD.rtab ws c) 0 [1]] [0] ?_ ?_ ?_ <;> simp [restTC, restTL, frag_rtab, AObj.mine, hr] <;> omega)
def st230 : CStep GD := fun args H => match args with
  | [.pointer (some ⟨k, 0, none⟩), .int .i64 o, .int .i64 s] => match H.get k with
    | some (.hi (.rtab ws c)) => some (GoodT ws c, .ret (.int .i64 (restTC ws o s)), H.upd k (.hi (.rtab (restTL ws o s) (c))))
    | _ => none
  | _ => none
theorem st230_ok : CStepOk Tryz.prog cfg 230 st230 := by
  intro args H p r H' h hp
  unfold st230 at h
  split at h
  case h_2 => cases h
  split at h
  case h_2 => cases h
  rename_i k o s x1 ws c hk
  cases h
  exact (runs230 ws c o s hp).atK (ro_none rfl) [k] (by simp) (by simp) (by simp [hk]) (by simp) (by simp) (by simp [upd_get hk])
end YtapbabkndhaemaaGreat
end Go.Proofs
/-
  Stripes: what is read off a table; its clock.
-/
namespace Go.Proofs
namespace YtapbabkndhaemaaGreat
open Go.Abs
set_option maxHeartbeats 1000000 in
theorem runs102 (ws : List Int) (c : Int) (s : Int) (h : GoodT ws c) : Runs Tryz.prog cfg 102 [.pointer (some ⟨0, 0, none⟩), .int .i64 s] (AH.of [some (.hi (.tab ws c))])
    fun r H' => r = .ret (.tuple #[.int .u64 (wordTV ws s), .int .i64 (wordTC ws s)]) ∧ H' = AH.of [some (.hi (.tab (ws) (c)))] := by
  refine Runs.ends ?_
  refine Runs.opn 0 rfl ?_
  have h0 := h.c0
  have h8 := h.len8
  refine runs_by (tbl := tblT) tblT_ok 0 4 (af := a102) rfl ?_
  rw [a102, b102, run_eq]
  refine ⟨by simp, ?_⟩
  by_cases hr : inR ws s
  · obtain ⟨i, rfl⟩ := Int.eq_ofNat_of_zero_le hr.1
    have hi : i < ws.length := by have := hr.2; omega
    obtain ⟨w, hx⟩ : ∃ w, ws[i]? = some w := ⟨ws[i], List.getElem?_eq_getElem hi⟩
    have hw := h.get hx
    have hi' : ¬ (ws.length : Int) ≤ i := by omega
    have hi2 : (i : Int) < ws.length := by omega
    have hi3 : ¬ (i : Int) < 0 := by omega
    simp (implicitDefEqProofs := false) [tblT, pureStep, p242, p213, p219, p256, p178, p250, p234, p249, p251, p203, frag_tab, forms148, a148, b148, hi, hi', hi2, hi3, us_at hx, hw.1, us_set]
    repeat' (first | with_reducible apply And.intro | with_reducible intro _)
    all_goals first
      | omega
      | (rw [us_length]; omega)
      | (refine ends_plan [.pack (GD.tab (ws) (c)) 0 [1]] [0] ?_ ?_ ?_ <;> simp [wordTV, wordTC, frag_tab, AObj.mine, hr, getW_at hx, *] <;> omega)
  · have hr2 : s < 0 ∨ (ws.length : Int) ≤ s := by unfold inR at hr; omega
    simp (implicitDefEqProofs := false) [tblT, frag_tab, forms148, a148, b148]
    repeat' (first | with_reducible apply And.intro | with_reducible intro _)
    all_goals first
      | omega
      | (rw [us_length]; omega)
      | (refine ends_plan [.pack (GD.tab ws c) 0 [1]] [0] ?_ ?_ ?_ <;> simp [wordTV, wordTC, frag_tab, AObj.mine, hr] <;> omega)
def st102 : CStep GD := fun args H => match args with
  | [.pointer (some ⟨k, 0, none⟩), .int .i64 s] => match H.get k with
    | some (.hi (.tab ws c)) => some (GoodT ws c, .ret (.tuple #[.int .u64 (wordTV ws s), .int .i64 (wordTC ws s)]), H)
    | _ => none
  | _ => none
theorem st102_ok : CStepOk Tryz.prog cfg 102 st102 := by
  intro args H p r H' h hp
  unfold st102 at h
  split at h
  case h_2 => cases h
  split at h
  case h_2 => cases h
  rename_i k s x1 ws c hk
  cases h
  exact (runs102 ws c s hp).atK (ro_none rfl) [k] (by simp) (by simp) (by simp [hk]) (by simp) (by simp) (by simp [upd_get hk])
set_option maxHeartbeats 1000000 in
theorem runs206 (ws : List Int) (c : Int) (s : Int) (h : GoodT ws c) : Runs Tryz.prog cfg 206 [.pointer (some ⟨0, 0, none⟩), .int .i64 s] (AH.of [some (.hi (.tab ws c))])
    fun r H' => r = .ret (.tuple #[.int .i64 (ownTV ws s), .bool (ownTB ws s)]) ∧ H' = AH.of [some (.hi (.tab (ws) (c)))] := by
  refine Runs.ends ?_
  refine Runs.opn 0 rfl ?_
  have h0 := h.c0
  have h8 := h.len8
  refine runs_by (tbl := tblT) tblT_ok 0 4 (af := a206) rfl ?_
  rw [a206, b206, run_eq]
  refine ⟨by simp, ?_⟩
  by_cases hr : inR ws s
  · obtain ⟨i, rfl⟩ := Int.eq_ofNat_of_zero_le hr.1
    have hi : i < ws.length := by have := hr.2; omega
    obtain ⟨w, hx⟩ : ∃ w, ws[i]? = some w := ⟨ws[i], List.getElem?_eq_getElem hi⟩
    have hw := h.get hx
    have hi' : ¬ (ws.length : Int) ≤ i := by omega
    have hi2 : (i : Int) < ws.length := by omega
    have hi3 : ¬ (i : Int) < 0 := by omega
    simp (implicitDefEqProofs := false) [tblT, pureStep, p242, p213, p219, p256, p178, p250, p234, p249, p251, p203, frag_tab, forms148, a148, b148, hi, hi', hi2, hi3, us_at hx, hw.1, us_set]
    repeat' (first | with_reducible apply And.intro | with_reducible intro _)
    all_goals first
      | omega
      | (rw [us_length]; omega)
      | (refine ends_plan [.pack (GD.tab (ws) (c)) 0 [1]] [0] ?_ ?_ ?_ <;> simp [ownTV, ownTB, frag_tab, AObj.mine, hr, getW_at hx, *] <;> omega)
  · have hr2 : s < 0 ∨ (ws.length : Int) ≤ s := by unfold inR at hr; omega
    simp (implicitDefEqProofs := false) [tblT, frag_tab, forms148, a148, b148]
    repeat' (first | with_reducible apply And.intro | with_reducible intro _)
    all_goals first
      | omega
      | (rw [us_length]; omega)
      | (refine ends_plan [.pack (GD.tab ws c) 0 [1]] [0] ?_ ?_ ?_ <;> simp [ownTV, ownTB, frag_tab, AObj.mine, hr] <;> omega)
def st206 : CStep GD := fun args H => match args with
  | [.pointer (some ⟨k, 0, none⟩), .int .i64 s] => match H.get k with
    | some (.hi (.tab ws c)) => some (GoodT ws c, .ret (.tuple #[.int .i64 (ownTV ws s), .bool (ownTB ws s)]), H)
    | _ => none
  | _ => none
theorem st206_ok : CStepOk Tryz.prog cfg 206 st206 := by
  intro args H p r H' h hp
  unfold st206 at h
  split at h
  case h_2 => cases h
  split at h
  case h_2 => cases h
  rename_i k s x1 ws c hk
  cases h
  exact (runs206 ws c s hp).atK (ro_none rfl) [k] (by simp) (by simp) (by simp [hk]) (by simp) (by simp) (by simp [upd_get hk])
set_option maxHeartbeats 1000000 in
theorem runs202 (ws : List Int) (c : Int) (s : Int) (h : GoodT ws c) : Runs Tryz.prog cfg 202 [.pointer (some ⟨0, 0, none⟩), .int .i64 s] (AH.of [some (.hi (.rtab ws c))])
    fun r H' => r = .ret (.tuple #[.int .i64 (ownTV ws s), .bool (ownTB ws s)]) ∧ H' = AH.of [some (.hi (.rtab (ws) (c)))] := by
  refine Runs.ends ?_
  refine Runs.opn 0 rfl ?_
  have h0 := h.c0
  have h8 := h.len8
  refine runs_by (tbl := tblT) tblT_ok 0 4 (af := a202) rfl ?_
  rw [a202, b202, run_eq]
  refine ⟨by simp, ?_⟩
  by_cases hr : inR ws s
  · obtain ⟨i, rfl⟩ := Int.eq_ofNat_of_zero_le hr.1
    have hi : i < ws.length := by have := hr.2; omega
    obtain ⟨w, hx⟩ : ∃ w, ws[i]? = some w := ⟨ws[i], List.getElem?_eq_getElem hi⟩
    have hw := h.get hx
    have hi' : ¬ (ws.length : Int) ≤ i := by omega
    have hi2 : (i : Int) < ws.length := by omega
    have hi3 : ¬ (i : Int) < 0 := by omega
    simp (implicitDefEqProofs := false) [tblT, pureStep, p242, p213, p219, p256, p178, p250, p234, p249, p251, p203, frag_rtab, forms201, a201, b201, hi, hi', hi2, hi3, us_at hx, hw.1, us_set]
    repeat' (first | with_reducible apply And.intro | with_reducible intro _)
    all_goals first
      | omega
      | (rw [us_length]; omega)
      | (refine ends_plan [.pack (GD.rtab (ws) (c)) 0 [1]] [0] ?_ ?_ ?_ <;> simp [ownTV, ownTB, frag_rtab, AObj.mine, hr, getW_at hx, *] <;> omega)
  · have hr2 : s < 0 ∨ (ws.length : Int) ≤ s := by unfold inR at hr; omega
    simp (implicitDefEqProofs := false) [tblT, frag_rtab, forms201, a201, b201]
    repeat' (first | with_reducible apply And.intro | with_reducible intro _)
    all_goals first
      | omega
      | (rw [us_length]; omega)
      | (refine ends_plan [.pack (GD.rtab ws c) 0 [1]] [0] ?_ ?_ ?_ <;> simp [ownTV, ownTB, frag_rtab, AObj.mine, hr] <;> omega)
def st202 : CStep GD := fun args H => match args with
  | [.pointer (some ⟨k, 0, none⟩), .int .i64 s] => match H.get k with
    | some (.hi (.rtab ws c)) => some (GoodT ws c, .ret (.tuple #[.int .i64 (ownTV ws s), .bool (ownTB ws s)]), H)
    | _ => none
  | _ => none
theorem st202_ok : CStepOk Tryz.prog cfg 202 st202 := by
  intro args H p r H' h hp
  unfold st202 at h
  split at h
  case h_2 => cases h
  split at h
  case h_2 => cases h
  rename_i k s x1 ws c hk
  cases h
  exact (runs202 ws c s hp).atK (ro_none rfl) [k] (by simp) (by simp) (by simp [hk]) (by simp) (by simp) (by simp [upd_get hk])
set_option maxHeartbeats 1000000 in
theorem runs152 (ws : List Int) (c : Int) (s : Int) (h : GoodT ws c) : Runs Tryz.prog cfg 152 [.pointer (some ⟨0, 0, none⟩), .int .i64 s] (AH.of [some (.hi (.tab ws c))])
    fun r H' => r = .ret (.int .u64 (verT ws s)) ∧ H' = AH.of [some (.hi (.tab (ws) (c)))] := by
  refine Runs.ends ?_
  refine Runs.opn 0 rfl ?_
  have h0 := h.c0
  have h8 := h.len8
  refine runs_by (tbl := tblT) tblT_ok 0 4 (af := a152) rfl ?_
  rw [a152, b152, run_eq]
  refine ⟨by simp, ?_⟩
  by_cases hr : inR ws s
  · obtain ⟨i, rfl⟩ := Int.eq_ofNat_of_zero_le hr.1
    have hi : i < ws.length := by have := hr.2; omega
    obtain ⟨w, hx⟩ : ∃ w, ws[i]? = some w := ⟨ws[i], List.getElem?_eq_getElem hi⟩
    have hw := h.get hx
    have hi' : ¬ (ws.length : Int) ≤ i := by omega
    have hi2 : (i : Int) < ws.length := by omega
    have hi3 : ¬ (i : Int) < 0 := by omega
    simp (implicitDefEqProofs := false) [tblT, pureStep, p242, p213, p219, p256, p178, p250, p234, p249, p251, p203, frag_tab, forms148, a148, b148, hi, hi', hi2, hi3, us_at hx, hw.1, us_set]
    repeat' (first | with_reducible apply And.intro | with_reducible intro _)
    all_goals first
      | omega
      | (rw [us_length]; omega)
      | (refine ends_plan [.pack (GD.tab (ws) (c)) 0 [1]] [0] ?_ ?_ ?_ <;> simp [verT, frag_tab, AObj.mine, hr, getW_at hx, *] <;> omega)
  · have hr2 : s < 0 ∨ (ws.length : Int) ≤ s := by unfold inR at hr; omega
    simp (implicitDefEqProofs := false) [tblT, frag_tab, forms148, a148, b148]
    repeat' (first | with_reducible apply And.intro | with_reducible intro _)
    all_goals first
      | omega
      | (rw [us_length]; omega)
      | (refine ends_plan [.pack (GD.tab ws c) 0 [1]] [0] ?_ ?_ ?_ <;> simp [verT, frag_tab, AObj.mine, hr] <;> omega)
def st152 : CStep GD := fun args H => match args with
  | [.pointer (some ⟨k, 0, none⟩), .int .i64 s] => match H.get k with
    | some (.hi (.tab ws c)) => some (GoodT ws c, .ret (.int .u64 (verT ws s)), H)
    | _ => none
  | _ => none
theorem st152_ok : CStepOk Tryz.prog cfg 152 st152 := by
  intro args H p r H' h hp
  unfold st152 at h
  split at h
  case h_2 => cases h
  split at h
  case h_2 => cases h
  rename_i k s x1 ws c hk
  cases h
  exact (runs152 ws c s hp).atK (ro_none rfl) [k] (by simp) (by simp) (by simp [hk]) (by simp) (by simp) (by simp [upd_get hk])
set_option maxHeartbeats 1000000 in
theorem runs210 (ws : List Int) (c : Int) (h : GoodT ws c) : Runs Tryz.prog cfg 210 [.pointer (some ⟨0, 0, none⟩)] (AH.of [some (.hi (.tab ws c))])
    fun r H' => r = .ret (.tuple #[.int .u64 (nextV c), .int .i64 (nextC c)]) ∧ H' = AH.of [some (.hi (.tab (ws) (tickL c)))] := by
  refine Runs.ends ?_
  refine Runs.opn 0 rfl ?_
  have h0 := h.c0
  have h8 := h.len8
  refine runs_by (tbl := tblT) tblT_ok 0 4 (af := a210) rfl ?_
  rw [a210, b210, run_eq]
  refine ⟨by simp, ?_⟩
  simp (implicitDefEqProofs := false) [tblT, pureStep, p242, p213, p219, p256, p178, p250, p234, p249, p251, p203, frag_tab, forms243, a243, b243, h0]
  repeat' (first | with_reducible apply And.intro | with_reducible intro _)
  all_goals first
    | omega
    | (rw [us_length]; omega)
    | (refine ends_plan [.pack (GD.tab (ws) (tickL c)) 0 [1]] [0] ?_ ?_ ?_ <;> simp [tickL, nextV, frag_tab, AObj.mine, *] <;> omega)
def st210 : CStep GD := fun args H => match args with
  | [.pointer (some ⟨k, 0, none⟩)] => match H.get k with
    | some (.hi (.tab ws c)) => some (GoodT ws c, .ret (.tuple #[.int .u64 (nextV c), .int .i64 (nextC c)]), H.upd k (.hi (.tab (ws) (tickL c))))
    | _ => none
  | _ => none
theorem st210_ok : CStepOk Tryz.prog cfg 210 st210 := by
  intro args H p r H' h hp
  unfold st210 at h
  split at h
  case h_2 => cases h
  split at h
  case h_2 => cases h
  rename_i k x1 ws c hk
  cases h
  exact (runs210 ws c hp).atK (ro_none rfl) [k] (by simp) (by simp) (by simp [hk]) (by simp) (by simp) (by simp [upd_get hk])
set_option maxHeartbeats 1000000 in
theorem runs49 (ws : List Int) (c : Int) (h : GoodT ws c) : Runs Tryz.prog cfg 49 [.pointer (some ⟨0, 0, none⟩)] (AH.of [some (.hi (.tab ws c))])
    fun r H' => r = .ret (.int .u64 c) ∧ H' = AH.of [some (.hi (.tab (ws) (c)))] := by
  refine Runs.ends ?_
  refine Runs.opn 0 rfl ?_
  have h0 := h.c0
  have h8 := h.len8
  refine runs_by (tbl := tblT) tblT_ok 0 4 (af := a49) rfl ?_
  rw [a49, b49, run_eq]
  refine ⟨by simp, ?_⟩
  simp (implicitDefEqProofs := false) [tblT, pureStep, p242, p213, p219, p256, p178, p250, p234, p249, p251, p203, frag_tab, h0]
  repeat' (first | with_reducible apply And.intro | with_reducible intro _)
  all_goals first
    | omega
    | (rw [us_length]; omega)
    | (refine ends_plan [.pack (GD.tab (ws) (c)) 0 [1]] [0] ?_ ?_ ?_ <;> simp [frag_tab, AObj.mine, *] <;> omega)
def st49 : CStep GD := fun args H => match args with
  | [.pointer (some ⟨k, 0, none⟩)] => match H.get k with
    | some (.hi (.tab ws c)) => some (GoodT ws c, .ret (.int .u64 c), H)
    | _ => none
  | _ => none
theorem st49_ok : CStepOk Tryz.prog cfg 49 st49 := by
  intro args H p r H' h hp
  unfold st49 at h
  split at h
  case h_2 => cases h
  split at h
  case h_2 => cases h
  rename_i k x1 ws c hk
  cases h
  exact (runs49 ws c hp).atK (ro_none rfl) [k] (by simp) (by simp) (by simp [hk]) (by simp) (by simp) (by simp [upd_get hk])
end YtapbabkndhaemaaGreat
end Go.Proofs
/-
  Stripes: a table stays right; New, Of, Fork.
-/
namespace Go.Proofs
namespace YtapbabkndhaemaaGreat
open Go.Abs
theorem lockV_right {w o c : Int} (h : RightW w ∧ wVer w ≤ c) (hc : lockC w o = 0) : RightW (lockV w o) ∧ wVer (lockV w o) ≤ c := by
  have hv := h.1.ver0
  have ho : -1 ≤ o ∧ o < 4 := by
    unfold lockC at hc
    by_cases h1 : ¬ (0 ≤ o ∧ o < 4)
    · rw [if_pos h1] at hc; cases hc
    · omega
  unfold lockV
  rw [if_pos hc, mkW_ver ho]
  exact ⟨mkW_right ho hv.1 hv.2, h.2⟩
theorem unlockV_right {w o v c : Int} (h : RightW w ∧ wVer w ≤ c) (hv : 0 ≤ v) (hvc : v ≤ c) (hc : unlockC w o v = 0) : RightW (unlockV w o v) ∧ wVer (unlockV w o v) ≤ c := by
  have h2 : v ≤ 1099511627776 := by
    unfold unlockC at hc
    by_cases h1 : ¬ (0 ≤ o ∧ o < 4) ∨ 1099511627776 < v
    · rw [if_pos h1] at hc; cases hc
    · omega
  unfold unlockV
  rw [if_pos hc, mkW_ver (by omega)]
  exact ⟨mkW_right (by omega) hv h2, hvc⟩
theorem restV_right {w o c : Int} (h : RightW w ∧ wVer w ≤ c) (hc : restC w o = 0) : RightW (restV w o) ∧ wVer (restV w o) ≤ c := by
  have hv := h.1.ver0
  unfold restV
  rw [if_pos hc, mkW_ver (by omega)]
  exact ⟨mkW_right (by omega) hv.1 hv.2, h.2⟩
theorem GoodT.set {ws : List Int} {c : Int} (h : GoodT ws c) (i : Nat) {v : Int} (hv : RightW v ∧ wVer v ≤ c) : GoodT (ws.set i v) c := by
  refine ⟨by simpa using h.len1, by simpa using h.len8, fun w hw => ?_, h.c0, h.c1⟩
  rcases List.mem_or_eq_of_mem_set hw with h1 | h1
  · exact h.right w h1
  · rw [h1]; exact hv
theorem GoodT.getW {ws : List Int} {c : Int} (h : GoodT ws c) {s : Int} (hs : inR ws s) : RightW (getW ws s) ∧ wVer (getW ws s) ≤ c := by
  obtain ⟨i, rfl⟩ := Int.eq_ofNat_of_zero_le hs.1
  have hi : i < ws.length := by have := hs.2; omega
  rw [getW_at (List.getElem?_eq_getElem hi)]
  exact h.get (List.getElem?_eq_getElem hi)
theorem GoodT.lock {ws : List Int} {c : Int} (h : GoodT ws c) (o s : Int) : GoodT (lockTL ws o s) c := by
  unfold lockTL
  split
  · rename_i hc
    unfold lockTC at hc
    split at hc
    · exact h.set _ (lockV_right (h.getW (by assumption)) hc)
    · cases hc
  · exact h
theorem GoodT.unlock {ws : List Int} {c : Int} (h : GoodT ws c) (o s : Int) {v : Int} (hv : 0 ≤ v) : GoodT (unlockTL ws c o s v) c := by
  unfold unlockTL
  split
  · rename_i hc
    unfold unlockTC at hc
    split at hc
    · split at hc
      · cases hc
      · exact h.set _ (unlockV_right (h.getW (by assumption)) hv (by omega) hc)
    · cases hc
  · exact h
theorem GoodT.rest {ws : List Int} {c : Int} (h : GoodT ws c) (o s : Int) : GoodT (restTL ws o s) c := by
  unfold restTL
  split
  · rename_i hc
    unfold restTC at hc
    split at hc
    · exact h.set _ (restV_right (h.getW (by assumption)) hc)
    · cases hc
  · exact h
theorem tickL_eq {c : Int} (h : c ≤ 1099511627776) : tickL c = if c < 1099511627776 then c + 1 else c := by
  simp only [tickL, nextV, nextC]
  (repeat' split) <;> omega
theorem tickL_le {c : Int} (h : c ≤ 1099511627776) : c ≤ tickL c := by
  rw [tickL_eq h]; split <;> omega
theorem GoodT.tick {ws : List Int} {c : Int} (h : GoodT ws c) : GoodT ws (tickL c) := by
  refine ⟨h.len1, h.len8, fun w hw => ⟨(h.right w hw).1, Int.le_trans (h.right w hw).2 (tickL_le h.c1)⟩, Int.le_trans h.c0 (tickL_le h.c1), ?_⟩
  have := h.c1
  rw [tickL_eq h.c1]; split <;> omega
def newL (n : Nat) : List Int := List.replicate n 0
theorem right0 : RightW 0 := ⟨by omega, by decide, .inl (by decide)⟩
theorem GoodT.new {n : Nat} (h1 : 1 ≤ n) (h8 : n ≤ 8) : GoodT (newL n) 0 := by
  refine ⟨by simpa [newL] using h1, by simpa [newL] using h8, fun w hw => ?_, by omega, by omega⟩
  rw [List.eq_of_mem_replicate hw]
  exact ⟨right0, by decide⟩
theorem us_new (n : Nat) : us (newL n) = List.replicate n (.int .u64 0) := by simp [us, newL]
theorem runs41 (n : Nat) (h1 : 1 ≤ n) (h8 : n ≤ 8) : Runs Tryz.prog cfg 41 [.int .i64 n] (AH.of [])
    fun r H' => r = .ret (.pointer (some ⟨0, 0, none⟩)) ∧ H' = AH.of [some (.hi (.tab (newL n) 0))] := by
  refine Runs.ends ?_
  refine runs_by (tbl := []) (by simp) 0 0 (af := a41) rfl ?_
  rw [a41, b41, run_eq]
  refine ⟨by simp, ?_⟩
  have e1 : ¬ (n : Int) < 1 := by omega
  have e2 : ¬ 8 < (n : Int) := by omega
  simp (implicitDefEqProofs := false) [e1, e2]
  rw [← us_new]
  have hn : (newL n).length = n := by simp [newL]
  refine ⟨by omega, ends_plan [.pack (GD.tab (newL n) 0) 1 [0]] [1] ?_ ?_ ?_⟩ <;> simp [frag_tab, AObj.mine, hn]
def st41 : CStep GD := fun args H => match args with
  | [.int .i64 n] => some (1 ≤ n ∧ n ≤ 8, .ret (.pointer (some ⟨H.next, 0, none⟩)), H.add (.hi (.tab (newL n.toNat) 0)))
  | _ => none
theorem st41_ok : CStepOk Tryz.prog cfg 41 st41 := by
  intro args H p r H' h hp
  unfold st41 at h
  split at h
  case h_2 => cases h
  rename_i n
  cases h
  have e : n = (n.toNat : Int) := by omega
  have := runs41 n.toNat (by omega) (by omega)
  rw [← e] at this
  exact this.atK (ro_none rfl) [] (by simp) (by simp) trivial (by simp) (by simp) (by simp [AObj.ren])
theorem runs38 (n : Nat) (h1 : 1 ≤ n) (h8 : n ≤ 8) : Runs Tryz.prog cfg 38 [.int .i64 n] (AH.of [])
    fun r H' => r = .ret (.pointer (some ⟨0, 0, none⟩)) ∧ H' = AH.of [some (.hi (.rtab (newL n) 0))] := by
  refine Runs.ends ?_
  refine runs_by (tbl := []) (by simp) 0 0 (af := a38) rfl ?_
  rw [a38, b38, run_eq]
  refine ⟨by simp, ?_⟩
  have e1 : ¬ (n : Int) < 1 := by omega
  have e2 : ¬ 8 < (n : Int) := by omega
  simp (implicitDefEqProofs := false) [e1, e2]
  rw [← us_new]
  have hn : (newL n).length = n := by simp [newL]
  refine ⟨by omega, ends_plan [.pack (GD.rtab (newL n) 0) 1 [0]] [1] ?_ ?_ ?_⟩ <;> simp [frag_rtab, AObj.mine, hn]
def st38 : CStep GD := fun args H => match args with
  | [.int .i64 n] => some (1 ≤ n ∧ n ≤ 8, .ret (.pointer (some ⟨H.next, 0, none⟩)), H.add (.hi (.rtab (newL n.toNat) 0)))
  | _ => none
theorem st38_ok : CStepOk Tryz.prog cfg 38 st38 := by
  intro args H p r H' h hp
  unfold st38 at h
  split at h
  case h_2 => cases h
  rename_i n
  cases h
  have e : n = (n.toNat : Int) := by omega
  have := runs38 n.toNat (by omega) (by omega)
  rw [← e] at this
  exact this.atK (ro_none rfl) [] (by simp) (by simp) trivial (by simp) (by simp) (by simp [AObj.ren])
theorem ofT_lt {ws : List Int} {c t : Int} (h : GoodT ws c) (ht : 0 ≤ t ∧ t < 12) : 0 ≤ ofT ws t ∧ ofT ws t < ws.length := by
  have := h.len1
  unfold ofT
  rw [if_pos ht]
  exact ⟨Int.emod_nonneg _ (by omega), Int.emod_lt_of_pos _ (by omega)⟩
theorem runs103 (ws : List Int) (c t : Int) (h : GoodT ws c) : Runs Tryz.prog cfg 103 [.pointer (some ⟨0, 0, none⟩), .int .i64 t] (AH.of [some (.hi (.tab ws c))])
    fun r H' => r = .ret (.int .i64 (ofT ws t)) ∧ H' = AH.of [some (.hi (.tab ws c))] := by
  refine Runs.ends ?_
  have h1 := h.len1
  have h8 := h.len8
  refine runs_by (tbl := []) (by simp) 0 0 (af := a103) rfl ?_
  rw [a103, b103, run_eq]
  refine ⟨by simp, ?_⟩
  by_cases ht : 0 ≤ t ∧ t < 12
  · have e1 : ¬ t < 0 := by omega
    have e2 : ¬ 12 ≤ t := by omega
    have e3 : IntKind.i64.wrap (t * 5) = t * 5 := wrap_i64 (by omega) (by omega)
    have e4 : IntKind.i64.wrap (t * 5 + 3) = t * 5 + 3 := wrap_i64 (by omega) (by omega)
    have e5 : ¬ (ws.length : Int) = 0 := by omega
    have e6 : (t * 5 + 3).tmod ws.length = (t * 5 + 3) % ws.length := Int.tmod_eq_emod_of_nonneg (by omega)
    have e7 : ws ≠ [] := by intro e; rw [e] at h1; simp at h1
    simp (implicitDefEqProofs := false) [frag_tab, e1, e2, e3, e4, e5, e6, e7]
    refine ends_plan [.pack (GD.tab ws c) 0 [1]] [0] ?_ ?_ ?_ <;> simp [frag_tab, AObj.mine, ofT, ht]
  · simp (implicitDefEqProofs := false)
    repeat' (first | with_reducible apply And.intro | with_reducible intro _)
    all_goals first
      | omega
      | (refine ends_plan [] [0] ?_ ?_ ?_ <;> simp [ofT, ht])
def st103 : CStep GD := fun args H => match args with
  | [.pointer (some ⟨k, 0, none⟩), .int .i64 t] => match H.get k with
    | some (.hi (.tab ws c)) => some (GoodT ws c, .ret (.int .i64 (ofT ws t)), H)
    | _ => none
  | _ => none
theorem st103_ok : CStepOk Tryz.prog cfg 103 st103 := by
  intro args H p r H' h hp
  unfold st103 at h
  split at h
  case h_2 => cases h
  split at h
  case h_2 => cases h
  rename_i k t x1 ws c hk
  cases h
  exact (runs103 ws c t hp).atK (ro_none rfl) [k] (by simp) (by simp) (by simp [hk]) (by simp) (by simp) (by simp [upd_get hk])
theorem runs144 (ws : List Int) (c t : Int) (h : GoodT ws c) : Runs Tryz.prog cfg 144 [.pointer (some ⟨0, 0, none⟩), .int .i64 t] (AH.of [some (.hi (.rtab ws c))])
    fun r H' => r = .ret (.int .i64 (ofT ws t)) ∧ H' = AH.of [some (.hi (.rtab ws c))] := by
  refine Runs.ends ?_
  have h1 := h.len1
  have h8 := h.len8
  refine runs_by (tbl := []) (by simp) 0 0 (af := a144) rfl ?_
  rw [a144, b144, run_eq]
  refine ⟨by simp, ?_⟩
  by_cases ht : 0 ≤ t ∧ t < 12
  · have e1 : ¬ t < 0 := by omega
    have e2 : ¬ 12 ≤ t := by omega
    have e3 : IntKind.i64.wrap (t * 5) = t * 5 := wrap_i64 (by omega) (by omega)
    have e4 : IntKind.i64.wrap (t * 5 + 3) = t * 5 + 3 := wrap_i64 (by omega) (by omega)
    have e5 : ¬ (ws.length : Int) = 0 := by omega
    have e6 : (t * 5 + 3).tmod ws.length = (t * 5 + 3) % ws.length := Int.tmod_eq_emod_of_nonneg (by omega)
    have e7 : ws ≠ [] := by intro e; rw [e] at h1; simp at h1
    simp (implicitDefEqProofs := false) [frag_rtab, e1, e2, e3, e4, e5, e6, e7]
    refine ends_plan [.pack (GD.rtab ws c) 0 [1]] [0] ?_ ?_ ?_ <;> simp [frag_rtab, AObj.mine, ofT, ht]
  · simp (implicitDefEqProofs := false)
    repeat' (first | with_reducible apply And.intro | with_reducible intro _)
    all_goals first
      | omega
      | (refine ends_plan [] [0] ?_ ?_ ?_ <;> simp [ofT, ht])
def st144 : CStep GD := fun args H => match args with
  | [.pointer (some ⟨k, 0, none⟩), .int .i64 t] => match H.get k with
    | some (.hi (.rtab ws c)) => some (GoodT ws c, .ret (.int .i64 (ofT ws t)), H)
    | _ => none
  | _ => none
theorem st144_ok : CStepOk Tryz.prog cfg 144 st144 := by
  intro args H p r H' h hp
  unfold st144 at h
  split at h
  case h_2 => cases h
  split at h
  case h_2 => cases h
  rename_i k t x1 ws c hk
  cases h
  exact (runs144 ws c t hp).atK (ro_none rfl) [k] (by simp) (by simp) (by simp [hk]) (by simp) (by simp) (by simp [upd_get hk])
end YtapbabkndhaemaaGreat
end Go.Proofs
/-
  Stripes: what an owner holds.
-/
namespace Go.Proofs
namespace YtapbabkndhaemaaGreat
open Go.Abs
def isH (ws : List Int) (o : Int) (i : Nat) : Bool := decide (ownTB ws i = true ∧ ownTV ws i = o)
def heldN (ws : List Int) (o : Int) (n : Nat) : List Int := ((List.range n).filter (isH ws o)).map fun i : Nat => (i : Int)
def heldL (ws : List Int) (o : Int) : List Int := heldN ws o ws.length
theorem heldN_succ (ws : List Int) (o : Int) (n : Nat) : heldN ws o (n + 1) = heldN ws o n ++ (if isH ws o n then [(n : Int)] else []) := by
  unfold heldN
  rw [List.range_succ, List.filter_append, List.map_append]
  by_cases h : isH ws o n <;> simp [h]
theorem heldN_le (ws : List Int) (o : Int) (n : Nat) : (heldN ws o n).length ≤ n := by
  unfold heldN
  rw [List.length_map]
  have := List.length_filter_le (isH ws o) (List.range n)
  simpa using this
theorem isH_at {ws : List Int} {o : Int} {i : Nat} {w : Int} (hi : ws[i]? = some w) : isH ws o i = decide (wOwn w = o ∧ 0 ≤ o) := by
  have hl : i < ws.length := by
    rcases Nat.lt_or_ge i ws.length with h | h
    · exact h
    · rw [List.getElem?_eq_none h] at hi; cases hi
  have hr : inR ws i := ⟨by omega, by omega⟩
  unfold isH ownTB ownTV
  rw [if_pos hr, if_pos hr, getW_at hi]
  by_cases h : 0 ≤ wOwn w
  · simp [h]; intro e; omega
  · simp [h]; intro e; omega
set_option maxHeartbeats 2000000 in
theorem runs58 (ws : List Int) (c o : Int) (h : GoodT ws c) : Runs Tryz.prog cfg 58 [.pointer (some ⟨0, 0, none⟩), .int .i64 o] (AH.of [some (.hi (.tab ws c))])
    fun r H' => r = .ret (.slice (some ⟨1, 0, none⟩) (heldL ws o).length 1) ∧ H' = AH.of [some (.hi (.tab ws c)), some (.arr 3 (ints (heldL ws o)))] := by
  refine Runs.ends ?_
  refine Runs.opn 0 rfl ?_
  have h8 := h.len8
  refine runs_by (tbl := tblT) tblT_ok 10 3 (af := a58) rfl ?_
  rw [a58, b58, run_eq]
  refine ⟨by simp, ?_⟩
  simp (implicitDefEqProofs := false) [tblT, frag_tab, forms116, a116, b116, forms177, a177, b177]
  intro r
  refine loop_view (sg_mono gX_ok (tabS_ok tblT_ok) _ _ _ (yldX_mono (sg_mono gX_ok (tabS_ok tblT_ok) _ _ noY noY_mono))) (fun m tm H => ∃ i : Nat, m + i = ws.length ∧ tm 0 = .func (.yield 5) #[] #[] ∧ tm 2 = .pointer (some ⟨4, 0, none⟩) ∧ tm 14 = .slice (some ⟨1, 0, none⟩) ws.length 1 ∧ tm 15 = .int .i64 ws.length ∧ tm 16 = .int .i64 i ∧
    H = AH.of [some (.arr 159 [.int .u64 c, .slice (some ⟨1, 0, none⟩) ws.length 1]), some (.arr 29 (us ws)), some (.hi (.vints (heldN ws o i))), some (.arr 80 [.pointer (some ⟨0, 0, none⟩)]), some (.arr 3 [.int .i64 o]), some (.loopr r 0 none)]) (m := ws.length) ?_ (by omega) ?_
  · refine round_plan [.nil 3, .pack (GD.vints []) 2 [6]] [0, 1, 2, 3, 4, 5] [some (.arr 159 [.int .u64 c, .slice (some ⟨1, 0, none⟩) ws.length 1]), some (.arr 29 (us ws)), some (.hi (.vints [])), some (.arr 80 [.pointer (some ⟨0, 0, none⟩)]), some (.arr 3 [.int .i64 o]), some (.loopr r 0 none)] ws.length (by omega) ?_ ?_ ⟨0, ?_⟩ <;> simp [heldN, frag_vints, AObj.mine, ints]
    done
  rintro m tm H ⟨i, hm, t0, t2, t14, t15, t16, rfl⟩
  have hle := heldN_le ws o i
  by_cases hi : i < ws.length
  · obtain ⟨w, hx⟩ : ∃ w, ws[i]? = some w := ⟨ws[i], List.getElem?_eq_getElem hi⟩
    have hw := (h.get hx).1
    have hi' : (i : Int) < ws.length := by omega
    have hwr := inc_i64 hi (by omega)
    have hr3 : ((heldN ws o i).length + 1) * 8 ≤ 140737488355328 ∧ (heldN ws o i).length ≤ 9223372036854775806 := by omega
    have htk := take_ints (heldN ws o i)
    have hsuc := heldN_succ ws o i
    rw [isH_at hx] at hsuc
    by_cases hp : wOwn w = o ∧ 0 ≤ o
    · have hp1 := hp.1
      have hp2 := hp.2
      simp (implicitDefEqProofs := false) [tblT, pureStep, p178, t0, t2, t14, t15, t16, hi, hi', us_at hx, hw, hwr, hp1, hp2, frag_vints, hr3, htk]
      refine round_plan [.pack (GD.vints (heldN ws o (i + 1))) 2 [8]] [0, 1, 2, 3, 4, 5] [some (.arr 159 [.int .u64 c, .slice (some ⟨1, 0, none⟩) ws.length 1]), some (.arr 29 (us ws)), some (.hi (.vints (heldN ws o (i + 1)))), some (.arr 80 [.pointer (some ⟨0, 0, none⟩)]), some (.arr 3 [.int .i64 o]), some (.loopr r 0 none)] (m - 1) (by omega) ?_ ?_ ⟨i + 1, by omega, ?_⟩ <;> simp [t0, t2, t14, t15, t16, frag_vints, AObj.mine, hsuc, hp, ints_append, ints_single]
    · have hp' : wOwn w = o → ¬ 0 ≤ o := fun e h => hp ⟨e, h⟩
      simp (implicitDefEqProofs := false) [tblT, pureStep, p178, t0, t2, t14, t15, t16, hi, hi', us_at hx, hw, hwr, frag_vints]
      repeat' (first | with_reducible apply And.intro | with_reducible intro _)
      all_goals first
        | omega
        | (refine round_plan [] [0, 1, 2, 3, 4, 5] [some (.arr 159 [.int .u64 c, .slice (some ⟨1, 0, none⟩) ws.length 1]), some (.arr 29 (us ws)), some (.hi (.vints (heldN ws o (i + 1)))), some (.arr 80 [.pointer (some ⟨0, 0, none⟩)]), some (.arr 3 [.int .i64 o]), some (.loopr r 0 none)] (m - 1) (by omega) ?_ ?_ ⟨i + 1, by omega, ?_⟩ <;> simp [t0, t2, t14, t15, t16, hsuc, hp]; done)
  · have hi' : ¬ (i : Int) < ws.length := by omega
    have hil : i = ws.length := by omega
    simp (implicitDefEqProofs := false) [t0, t2, t14, t15, t16, hi', frag_vints]
    refine ends_plan [.pack (GD.tab ws c) 0 [1]] [0, 6] ?_ ?_ ?_ <;> simp [frag_tab, AObj.mine, heldL, hil]
def st58 : CStep GD := fun args H => match args with
  | [.pointer (some ⟨k, 0, none⟩), .int .i64 o] => match H.get k with
    | some (.hi (.tab ws c)) => some (GoodT ws c, .ret (.slice (some ⟨H.next, 0, none⟩) (heldL ws o).length 1), H.add (.arr 3 (ints (heldL ws o))))
    | _ => none
  | _ => none
theorem st58_ok : CStepOk Tryz.prog cfg 58 st58 := by
  intro args H p r H' h hp
  unfold st58 at h
  split at h
  case h_2 => cases h
  split at h
  case h_2 => cases h
  rename_i k o x1 ws c hk
  cases h
  exact (runs58 ws c o hp).atK (ro_none rfl) [k] (by simp) (by simp) (by simp [hk]) (by simp) (by simp) (by simp [upd_get hk, AObj.ren])
end YtapbabkndhaemaaGreat
end Go.Proofs
/-
  Stripes: may, Held of the reference; Drop.
-/
namespace Go.Proofs
namespace YtapbabkndhaemaaGreat
open Go.Abs
def mayC (ws : List Int) (s : Int) : Int := if inR ws s then 0 else 2
theorem runs201 (ws : List Int) (c s : Int) (h : GoodT ws c) : Runs Tryz.prog cfg 201 [.pointer (some ⟨0, 0, none⟩), .int .i64 s] (AH.of [some (.hi (.rtab ws c))])
    fun r H' => r = .ret (.int .i64 (mayC ws s)) ∧ H' = AH.of [some (.hi (.rtab ws c))] := by
  refine Runs.ends ?_
  refine runs_by (tbl := []) (by simp) 0 0 (af := a201) rfl ?_
  rw [a201, b201, run_eq]
  refine ⟨by simp, ?_⟩
  simp (implicitDefEqProofs := false) [frag_rtab]
  repeat' (first | with_reducible apply And.intro | with_reducible intro _)
  all_goals first
    | (refine ends_plan [] [0] ?_ ?_ ?_ <;> simp [mayC, inR, *] <;> omega)
    | (refine ends_plan [.pack (GD.rtab ws c) 0 [1]] [0] ?_ ?_ ?_ <;> simp [frag_rtab, AObj.mine, mayC, inR, *] <;> omega)
def st201 : CStep GD := fun args H => match args with
  | [.pointer (some ⟨k, 0, none⟩), .int .i64 s] => match H.get k with
    | some (.hi (.rtab ws c)) => some (GoodT ws c, .ret (.int .i64 (mayC ws s)), H)
    | _ => none
  | _ => none
theorem st201_ok : CStepOk Tryz.prog cfg 201 st201 := by
  intro args H p r H' h hp
  unfold st201 at h
  split at h
  case h_2 => cases h
  split at h
  case h_2 => cases h
  rename_i k s x1 ws c hk
  cases h
  exact (runs201 ws c s hp).atK (ro_none rfl) [k] (by simp) (by simp) (by simp [hk]) (by simp) (by simp) (by simp [upd_get hk])
def tblH : List (FuncId × CStep GD) := [(201, st201), (202, st202), (230, st230), (165, st165), (58, st58)]
theorem tblH_ok : ∀ x ∈ tblH, CStepOk Tryz.prog cfg x.1 x.2 := by simp [tblH, st201_ok, st202_ok, st230_ok, st165_ok, st58_ok]
theorem isH_eq (ws : List Int) (o : Int) (i : Nat) : isH ws o i = match ws[i]? with
    | some w => decide (wOwn w = o ∧ 0 ≤ o)
    | none => false := by
  cases hx : ws[i]? with
  | some w => exact isH_at hx
  | none =>
    have : ¬ inR ws i := fun hr => by
      have hl := hr.2
      rw [List.getElem?_eq_getElem (by omega)] at hx; cases hx
    simp [isH, ownTB, this]
theorem restTC_held {ws : List Int} {c o : Int} (h : GoodT ws c) (i : Nat) : (restTC ws o i = 0) ↔ isH ws o i = true := by
  rw [isH_eq]
  unfold restTC restC
  cases hx : ws[i]? with
  | some w =>
    have hl : i < ws.length := by
      rcases Nat.lt_or_ge i ws.length with h | h
      · exact h
      · rw [List.getElem?_eq_none h] at hx; cases hx
    have hr : inR ws i := ⟨by omega, by omega⟩
    have ho := (h.get hx).1.own
    rw [if_pos hr, getW_at hx]
    simp only [decide_eq_true_eq]
    (repeat' split) <;> omega
  | none =>
    have : ¬ inR ws i := fun hr => by
      have hl := hr.2
      rw [List.getElem?_eq_getElem (by omega)] at hx; cases hx
    rw [if_neg this]
    simp
theorem restTL_not {ws : List Int} {c o : Int} (h : GoodT ws c) {i : Nat} (hn : isH ws o i = false) : restTL ws o i = ws := by
  unfold restTL
  rw [if_neg]
  intro e
  rw [(restTC_held h i).1 e] at hn; cases hn
theorem restTL_length (ws : List Int) (o s : Int) : (restTL ws o s).length = ws.length := by
  unfold restTL; split <;> simp
theorem isH_rest (ws : List Int) (o : Int) {i j : Nat} (hij : i ≠ j) : isH (restTL ws o i) o j = isH ws o j := by
  rw [isH_eq, isH_eq]
  have e : (restTL ws o i)[j]? = ws[j]? := by
    unfold restTL
    split
    · rw [Int.toNat_natCast, List.getElem?_set_ne hij]
    · rfl
  rw [e]
def restF (o : Int) (l : List Nat) (ws : List Int) : List Int := l.foldl (fun ws (i : Nat) => restTL ws o i) ws
def restAll (ws : List Int) (o : Int) (n : Nat) : List Int := restF o (List.range n) ws
def dropL (ws : List Int) (o : Int) : List Int := restAll ws o ws.length
theorem restAll_succ (ws : List Int) (o : Int) (n : Nat) : restAll ws o (n + 1) = restTL (restAll ws o n) o n := by
  simp [restAll, restF, List.range_succ, List.foldl_append]
theorem restF_good {ws : List Int} {c : Int} (h : GoodT ws c) (o : Int) (l : List Nat) : GoodT (restF o l ws) c := by
  induction l generalizing ws with
  | nil => exact h
  | cons i l ih => exact ih (h.rest o i)
theorem restF_length (o : Int) (l : List Nat) (ws : List Int) : (restF o l ws).length = ws.length := by
  induction l generalizing ws with
  | nil => rfl
  | cons i l ih => exact (ih _).trans (restTL_length _ _ _)
theorem restF_filter (o c : Int) : ∀ (l : List Nat) (ws : List Int), GoodT ws c → l.Nodup → restF o (l.filter (isH ws o)) ws = restF o l ws
  | [], _, _, _ => rfl
  | i :: l, ws, h, hn => by
    rw [List.nodup_cons] at hn
    have e : l.filter (isH (restTL ws o i) o) = l.filter (isH ws o) := List.filter_congr fun j hj => isH_rest _ _ fun e => hn.1 (e ▸ hj)
    have ih := restF_filter o c l (restTL ws o i) (h.rest o i) hn.2
    rw [e] at ih
    show _ = restF o l (restTL ws o i)
    rw [← ih, List.filter_cons]
    cases hq : isH ws o i with
    | true => rw [if_pos rfl]; rfl
    | false => rw [if_neg (by simp), restTL_not h hq]
theorem drop_held {ws : List Int} {c : Int} (h : GoodT ws c) (o : Int) : restF o ((List.range ws.length).filter (isH ws o)) ws = dropL ws o := restF_filter o c _ ws h List.nodup_range
theorem GoodT.drop {ws : List Int} {c : Int} (h : GoodT ws c) (o : Int) : GoodT (dropL ws o) c := restF_good h o _
end YtapbabkndhaemaaGreat
end Go.Proofs
/-
  slices.Clone of words.
-/
namespace Go.Proofs
namespace YtapbabkndhaemaaGreat
open Go.Abs
end YtapbabkndhaemaaGreat
end Go.Proofs
/-
  Stripes: Drop, Fork.
-/
namespace Go.Proofs
namespace YtapbabkndhaemaaGreat
open Go.Abs
set_option maxHeartbeats 1000000 in
theorem runs113 (ws : List Int) (c o : Int) (h : GoodT ws c) : Runs Tryz.prog cfg 113 [.pointer (some ⟨0, 0, none⟩), .int .i64 o] (AH.of [some (.hi (.tab ws c))])
    fun r H' => r = .ret (.int .i64 (heldL ws o).length) ∧ H' = AH.of [some (.hi (.tab (dropL ws o) c))] := by
  refine Runs.ends ?_
  have h8 := h.len8
  have hd := drop_held h o
  have hle := heldN_le ws o ws.length
  have hH : heldL ws o = ((List.range ws.length).filter (isH ws o)).map fun i : Nat => (i : Int) := rfl
  have hlen : (heldL ws o).length ≤ 8 := Nat.le_trans hle h8
  generalize (List.range ws.length).filter (isH ws o) = hl at hd hH
  obtain ⟨li, hli⟩ : ∃ li, heldL ws o = li := ⟨_, rfl⟩
  rw [hli] at hH hlen ⊢
  have hll : li.length = hl.length := by rw [hH, List.length_map]
  refine runs_by (tbl := tblH) tblH_ok 10 0 (af := a113) rfl ?_
  rw [a113, b113, run_eq]
  refine ⟨by simp, ?_⟩
  simp (implicitDefEqProofs := false) [tblH, st58, h, hli]
  refine loop_view (sg_mono gX_ok (tabS_ok tblH_ok) _ _ noY noY_mono) (fun m tm H => ∃ j : Nat, m + j = li.length ∧ tm 0 = .pointer (some ⟨0, 0, none⟩) ∧ tm 1 = .int .i64 o ∧ tm 5 = .slice (some ⟨1, 0, none⟩) li.length 1 ∧ tm 11 = .slice (some ⟨1, 0, none⟩) li.length 1 ∧ tm 12 = .int .i64 li.length ∧ tm 13 = .int .i64 j ∧
    H = AH.of [some (.hi (.tab (restF o (hl.take j) ws) c)), some (.arr 3 (ints li))]) (m := li.length) ?_ (by omega) ?_
  · refine round_plan [] [0, 1] [some (.hi (.tab ws c)), some (.arr 3 (ints li))] li.length (by omega) ?_ ?_ ⟨0, ?_⟩ <;> simp [restF]
    done
  rintro m tm H ⟨j, hm, t0, t1, t5, t11, t12, t13, rfl⟩
  by_cases hj : j < li.length
  · obtain ⟨i, hx⟩ : ∃ i, hl[j]? = some i := ⟨hl[j]'(by omega), List.getElem?_eq_getElem (by omega)⟩
    have hx2 : li[j]? = some (i : Int) := by rw [hH]; simp [hx]
    have hj' : (j : Int) < li.length := by omega
    have hwr := inc_i64 hj (by omega)
    have hst : restF o (hl.take (j + 1)) ws = restTL (restF o (hl.take j) ws) o i := by
      rw [List.take_add_one, hx]; simp [restF, List.foldl_append]
    have hgood := restF_good h o (hl.take j)
    simp (implicitDefEqProofs := false) [tblH, st165, hgood, t0, t1, t5, t11, t12, t13, hj, hj', ints_at hx2, ints_get hx2, hwr]
    refine round_plan [] [0, 1] [some (.hi (.tab (restF o (hl.take (j + 1)) ws) c)), some (.arr 3 (ints li))] (m - 1) (by omega) ?_ ?_ ⟨j + 1, by omega, ?_⟩ <;> simp [t0, t1, t5, t11, t12, t13, hst]
    done
  · have hj' : ¬ (j : Int) < li.length := by omega
    have hjl : hl.take j = hl := List.take_of_length_le (by omega)
    simp (implicitDefEqProofs := false) [t0, t1, t5, t11, t12, t13, hj', hjl, hd]
    refine ends_plan [] [0] ?_ ?_ ?_ <;> simp
def st113 : CStep GD := fun args H => match args with
  | [.pointer (some ⟨k, 0, none⟩), .int .i64 o] => match H.get k with
    | some (.hi (.tab ws c)) => some (GoodT ws c, .ret (.int .i64 (heldL ws o).length), H.upd k (.hi (.tab (dropL ws o) c)))
    | _ => none
  | _ => none
theorem st113_ok : CStepOk Tryz.prog cfg 113 st113 := by
  intro args H p r H' h hp
  unfold st113 at h
  split at h
  case h_2 => cases h
  split at h
  case h_2 => cases h
  rename_i k o x1 ws c hk
  cases h
  exact (runs113 ws c o hp).atK (ro_none rfl) [k] (by simp) (by simp) (by simp [hk]) (by simp) (by simp) (by simp [AObj.ren])
end YtapbabkndhaemaaGreat
end Go.Proofs
/-
  Are two rows of whole numbers one? (the reference)
-/
namespace Go.Proofs
namespace YtapbabkndhaemaaGreat
open Go.Abs
end YtapbabkndhaemaaGreat
end Go.Proofs
/-
  Stripes: a deed on both; do both tell the same?
-/
namespace Go.Proofs
namespace YtapbabkndhaemaaGreat
open Go.Abs
structure Deed where
  k : Int
  o : Int
  s : Int
  v : Int
def Deed.cells (d : Deed) : List Value := [.int .i64 d.k, .int .i64 d.o, .int .i64 d.s, .int .u64 d.v]
def Deed.Ok (d : Deed) : Prop := 0 ≤ d.v
def deedL (ws : List Int) (c : Int) (d : Deed) : List Int :=
  if d.k = 0 then lockTL ws d.o d.s else if d.k = 1 then unlockTL ws c d.o d.s d.v else if d.k = 2 then restTL ws d.o d.s else if d.k = 3 then dropL ws d.o else ws
def deedK (c : Int) (d : Deed) : Int := if d.k = 4 then tickL c else c
theorem GoodT.deed {ws : List Int} {c : Int} (h : GoodT ws c) {d : Deed} (hd : d.Ok) : GoodT (deedL ws c d) (deedK c d) := by
  unfold deedL deedK
  by_cases h0 : d.k = 0
  · simp [h0]; exact h.lock _ _
  · by_cases h1 : d.k = 1
    · simp [h1]; exact h.unlock _ _ hd
    · by_cases h2 : d.k = 2
      · simp [h2]; exact h.rest _ _
      · by_cases h3 : d.k = 3
        · simp [h3]; exact h.drop _
        · simp [h0, h1, h2, h3]
          split
          · exact h.tick
          · exact h
end YtapbabkndhaemaaGreat
end Go.Proofs
/-
  Stripes: live, play.
-/
namespace Go.Proofs
namespace YtapbabkndhaemaaGreat
open Go.Abs
def deeds (l : List Deed) : List Value := l.flatMap Deed.cells
theorem deeds_cons (d : Deed) (l : List Deed) : deeds (d :: l) = .int .i64 d.k :: .int .i64 d.o :: .int .i64 d.s :: .int .u64 d.v :: deeds l := rfl
theorem deeds_ground (l : List Deed) : grounds (deeds l) = true := by
  induction l with
  | nil => rfl
  | cons e l ih => rw [deeds_cons]; simpa [grounds, ground] using ih
theorem ren_deeds (θ : Nat → Nat) (l : List Deed) : rens θ (deeds l) = deeds l := rens_ground θ _ (deeds_ground l)
attribute [simp] ren_deeds
def asDeeds : List Value → Option (List Deed)
  | [] => some []
  | .int .i64 k :: .int .i64 o :: .int .i64 s :: .int .u64 v :: l => (asDeeds l).map (⟨k, o, s, v⟩ :: ·)
  | _ => none
theorem asDeeds_deeds : ∀ l : List Deed, asDeeds (deeds l) = some l
  | [] => rfl
  | e :: l => by
    show (asDeeds (deeds l)).map (_ :: ·) = _
    rw [asDeeds_deeds l]; rfl
attribute [simp] asDeeds_deeds
end YtapbabkndhaemaaGreat
end Go.Proofs
/-
  Stripes: what drops, and what rises. The law of the forks.
-/
namespace Go.Proofs
namespace YtapbabkndhaemaaGreat
open Go.Abs
theorem verT_eq (ws : List Int) (i : Nat) : verT ws i = match ws[i]? with
    | some w => wVer w
    | none => 0 := by
  cases hx : ws[i]? with
  | some w =>
    have hl : i < ws.length := by
      rcases Nat.lt_or_ge i ws.length with h | h
      · exact h
      · rw [List.getElem?_eq_none h] at hx; cases hx
    unfold verT
    rw [if_pos (show inR ws i from ⟨by omega, by omega⟩), getW_at hx]
  | none =>
    have : ¬ inR ws i := fun hr => by
      have hl := hr.2
      rw [List.getElem?_eq_getElem (by omega)] at hx; cases hx
    unfold verT
    rw [if_neg this]
theorem at_lt {ws : List Int} {i : Nat} {w : Int} (hx : ws[i]? = some w) : i < ws.length := by
  rcases Nat.lt_or_ge i ws.length with h | h
  · exact h
  · rw [List.getElem?_eq_none h] at hx; cases hx
theorem verT_set {ws : List Int} {i j : Nat} {v : Int} (hi : i < ws.length) : verT (ws.set i v) j = if i = j then wVer v else verT ws j := by
  rw [verT_eq, verT_eq, List.getElem?_set]
  by_cases h : i = j
  · subst h; simp [hi]
  · simp [h]
theorem verT_out {ws : List Int} {c s : Int} (h : GoodT ws c) : 0 ≤ verT ws s ∧ verT ws s ≤ c := by
  unfold verT
  split
  · exact ⟨((h.getW (by assumption)).1.ver0).1, (h.getW (by assumption)).2⟩
  · exact ⟨by omega, h.c0⟩
theorem rest_ver {ws : List Int} {c : Int} (h : GoodT ws c) (o : Int) (i j : Nat) : verT (restTL ws o i) j = verT ws j := by
  unfold restTL
  split
  · rename_i hc
    have hr : inR ws i := by
      unfold restTC at hc
      split at hc
      · assumption
      · cases hc
    have hl : i < ws.length := by have := hr.2; omega
    obtain ⟨w, hx⟩ : ∃ w, ws[i]? = some w := ⟨ws[i], List.getElem?_eq_getElem hl⟩
    have hc2 : restC w o = 0 := by unfold restTC at hc; rwa [if_pos hr, getW_at hx] at hc
    rw [Int.toNat_natCast, verT_set hl]
    split
    · rename_i e; subst e
      rw [getW_at hx, restV, if_pos hc2, mkW_ver (by omega), verT_eq, hx]
    · rfl
  · rfl
theorem restF_ver {c : Int} (o : Int) (j : Nat) : ∀ (l : List Nat) (ws : List Int), GoodT ws c → verT (restF o l ws) j = verT ws j
  | [], _, _ => rfl
  | i :: l, ws, h => by
    show verT (restF o l (restTL ws o i)) j = _
    rw [restF_ver o j l _ (h.rest o i), rest_ver h]
theorem drop_ver {ws : List Int} {c : Int} (h : GoodT ws c) (o : Int) (j : Nat) : verT (dropL ws o) j = verT ws j := restF_ver o j _ ws h
theorem lock_ver {ws : List Int} {c : Int} (h : GoodT ws c) (o s : Int) (j : Nat) : verT (lockTL ws o s) j = verT ws j := by
  unfold lockTL
  split
  · rename_i hc
    have hr : inR ws s := by
      unfold lockTC at hc
      split at hc
      · assumption
      · cases hc
    obtain ⟨i, rfl⟩ := Int.eq_ofNat_of_zero_le hr.1
    have hl : i < ws.length := by have := hr.2; omega
    obtain ⟨w, hx⟩ : ∃ w, ws[i]? = some w := ⟨ws[i], List.getElem?_eq_getElem hl⟩
    have hc2 : lockC w o = 0 := by unfold lockTC at hc; rwa [if_pos hr, getW_at hx] at hc
    have ho : -1 ≤ o ∧ o < 4 := by
      unfold lockC at hc2
      by_cases h1 : ¬ (0 ≤ o ∧ o < 4)
      · rw [if_pos h1] at hc2; cases hc2
      · omega
    rw [Int.toNat_natCast, verT_set hl]
    split
    · rename_i e; subst e
      rw [getW_at hx, lockV, if_pos hc2, mkW_ver ho, verT_eq, hx]
    · rfl
  · rfl
end YtapbabkndhaemaaGreat
end Go.Proofs
/-
  Stripes: the law of the one owner; the law of the versions.
-/
namespace Go.Proofs
namespace YtapbabkndhaemaaGreat
open Go.Abs
theorem isH_dropped {ws : List Int} {c : Int} (h : GoodT ws c) (o : Int) (i : Nat) : isH (restTL ws o i) o i = false := by
  cases hq : isH ws o i with
  | false => rw [restTL_not h hq, hq]
  | true =>
    have hc := (restTC_held h i).2 hq
    have hr : inR ws i := by
      unfold restTC at hc
      split at hc
      · assumption
      · cases hc
    have hl : i < ws.length := by have := hr.2; omega
    obtain ⟨w, hx⟩ : ∃ w, ws[i]? = some w := ⟨ws[i], List.getElem?_eq_getElem hl⟩
    have hc2 : restC w o = 0 := by unfold restTC at hc; rwa [if_pos hr, getW_at hx] at hc
    unfold restTL
    rw [if_pos hc, isH_eq, Int.toNat_natCast, List.getElem?_set_self hl, getW_at hx]
    simp only [restV, if_pos hc2]
    rw [mkW_own (by omega)]
    simp
    intro e; omega
theorem isH_all {ws : List Int} {c : Int} (h : GoodT ws c) (o : Int) {j : Nat} : ∀ {n : Nat}, j < n → isH (restAll ws o n) o j = false
  | 0, hn => by omega
  | n + 1, hn => by
    rw [restAll_succ]
    by_cases e : n = j
    · subst e; exact isH_dropped (restF_good h o _) o n
    · rw [isH_rest _ _ e]; exact isH_all h o (by omega)
theorem held_drop {ws : List Int} {c : Int} (h : GoodT ws c) (o : Int) : heldL (dropL ws o) o = [] := by
  unfold heldL heldN
  rw [List.map_eq_nil_iff, List.filter_eq_nil_iff]
  intro j hj
  have hl : (dropL ws o).length = ws.length := restF_length _ _ _
  rw [List.mem_range, hl] at hj
  rw [show isH (dropL ws o) o j = false from isH_all h o hj]
  decide
end YtapbabkndhaemaaGreat
end Go.Proofs
/-
  DERIVED: THE SHELF's CONTRACTS AT THIS DUMP, IN PLAIN WORDS (tools/lay-plain.mjs out of 'TryzShelf.lean', which tools/lay-shelf.mjs wrote): THE SAME DECLARATIONS UNDER THE SAME NAMES: 'import', 'namespace', 'open', 'def', 'theorem' AND NOTHING ELSE: no command of the shelf's: FOR A HAND-IN. Each laying: the table of numbers ('.._ren') and one theorem, a field a fact of the dump's own or the kernel's comparison; each contract: ONE APPLICATION.
-/
namespace Go.Proofs
open Go.Shelf
def Tryz.lays189_ren : Go.Shelf.Ren := ⟨fun | 189 => 57 | 125 => 115 | 257 => 114 | 128 => 175 | 129 => 176 | 294 => 166 | 295 => 167 | 296 => 168 | 297 => 169 | 298 => 170 | 299 => 171 | 216 => 172 | 300 => 173 | 301 => 174 | 328 => 220 | 329 => 221 | 330 => 222 | 331 => 223 | 332 => 224 | 215 => 225 | 343 => 247 | n => n, fun | 28 => 55 | 3 => 3 | 46 => 174 | 0 => 0 | 51 => 235 | 53 => 29 | 4 => 4 | 183 => 228 | 182 => 227 | 131 => 51 | 5 => 5 | 9 => 9 | 218 => 263 | 222 => 266 | 228 => 280 | 229 => 281 | n => n, fun | n => n⟩
theorem Tryz.lays189 : Go.Proofs.Lays.n189 Tryz.prog Tryz.lays189_ren := {
  mixed := by kernel_rfl
  f125 := Tryz.func115.trans (congrArg some (by kernel_rfl))
  f128 := Tryz.func175.trans (congrArg some (by kernel_rfl))
  f129 := Tryz.func176.trans (congrArg some (by kernel_rfl))
  f189 := Tryz.func57.trans (congrArg some (by kernel_rfl))
  f215 := Tryz.func225.trans (congrArg some (by kernel_rfl))
  f216 := Tryz.func172.trans (congrArg some (by kernel_rfl))
  f257 := Tryz.func114.trans (congrArg some (by kernel_rfl))
  f294 := Tryz.func166.trans (congrArg some (by kernel_rfl))
  f295 := Tryz.func167.trans (congrArg some (by kernel_rfl))
  f296 := Tryz.func168.trans (congrArg some (by kernel_rfl))
  f297 := Tryz.func169.trans (congrArg some (by kernel_rfl))
  f298 := Tryz.func170.trans (congrArg some (by kernel_rfl))
  f299 := Tryz.func171.trans (congrArg some (by kernel_rfl))
  f300 := Tryz.func173.trans (congrArg some (by kernel_rfl))
  f301 := Tryz.func174.trans (congrArg some (by kernel_rfl))
  f328 := Tryz.func220.trans (congrArg some (by kernel_rfl))
  f329 := Tryz.func221.trans (congrArg some (by kernel_rfl))
  f330 := Tryz.func222.trans (congrArg some (by kernel_rfl))
  f331 := Tryz.func223.trans (congrArg some (by kernel_rfl))
  f332 := Tryz.func224.trans (congrArg some (by kernel_rfl))
  f343 := Tryz.func247.trans (congrArg some (by kernel_rfl))
  t0 := Tryz.underlying0
  a0 := Tryz.isAgg0
  z0 := Tryz.sizeOf0
  v0 := Tryz.zeroValue0
  t3 := Tryz.underlying3
  a3 := Tryz.isAgg3
  z3 := Tryz.sizeOf3
  v3 := Tryz.zeroValue3
  t4 := Tryz.underlying4
  a4 := Tryz.isAgg4
  z4 := Tryz.sizeOf4
  v4 := Tryz.zeroValue4
  t5 := Tryz.underlying5
  a5 := Tryz.isAgg5
  z5 := Tryz.sizeOf5
  v5 := Tryz.zeroValue5
  t9 := Tryz.underlying9
  a9 := Tryz.isAgg9
  z9 := Tryz.sizeOf9
  v9 := Tryz.zeroValue9
  t28 := Tryz.underlying55
  a28 := Tryz.isAgg55
  z28 := Tryz.sizeOf55
  v28 := Tryz.zeroValue55
  t46 := Tryz.underlying174
  a46 := Tryz.isAgg174
  z46 := Tryz.sizeOf174
  v46 := Tryz.zeroValue174
  t51 := Tryz.underlying235
  a51 := Tryz.isAgg235
  z51 := Tryz.sizeOf235
  v51 := Tryz.zeroValue235
  t53 := Tryz.underlying29
  a53 := Tryz.isAgg29
  z53 := Tryz.sizeOf29
  v53 := Tryz.zeroValue29
  t131 := Tryz.underlying51
  a131 := Tryz.isAgg51
  z131 := Tryz.sizeOf51
  v131 := Tryz.zeroValue51
  t182 := Tryz.underlying227
  a182 := Tryz.isAgg227
  z182 := Tryz.sizeOf227
  v182 := Tryz.zeroValue227
  t183 := Tryz.underlying228
  a183 := Tryz.isAgg228
  z183 := Tryz.sizeOf228
  v183 := Tryz.zeroValue228
  t218 := Tryz.underlying263
  a218 := Tryz.isAgg263
  z218 := Tryz.sizeOf263
  v218 := Tryz.zeroValue263
  t222 := Tryz.underlying266
  a222 := Tryz.isAgg266
  z222 := Tryz.sizeOf266
  v222 := Tryz.zeroValue266
  t228 := Tryz.underlying280
  a228 := Tryz.isAgg280
  z228 := Tryz.sizeOf280
  v228 := Tryz.zeroValue280
  t229 := Tryz.underlying281
  a229 := Tryz.isAgg281
  z229 := Tryz.sizeOf281
  v229 := Tryz.zeroValue281 }
open Go.Sort Go.RowKit in
theorem Tryz.slices_Sort_int (blk off cap : Nat) (zs : List Int) (w : World) (hH : Holds (Value.int .i64) w blk off zs.toArray) (hblk : blk < w.heap.size) (hsz : zs.length < 4611686018427387904) :
    Calls Tryz.prog 57 #[.slice (some ⟨blk, off, none⟩) zs.length cap] w fun e w' =>
      e = .returned (.tuple #[]) ∧ ∃ n os, w' = grow (putRow (Value.int .i64) (Sort.ahead w n) blk off (zs.mergeSort fun x y => decide (x ≤ y)).toArray) os := Any.slices_Sort_int Tryz.lays189 blk off cap zs w hH hblk hsz
def Tryz.laysNm220_ren : Go.Shelf.Ren := ⟨fun | 20 => 254 | n => n, fun | 22 => 55 | 3 => 3 | 4 => 4 | 0 => 0 | n => n, fun | n => n⟩
theorem Tryz.laysNm220 : Go.Proofs.Lays2.n20 Tryz.prog Tryz.laysNm220_ren := {
  mixed := by kernel_rfl
  f20 := Tryz.func254.trans (congrArg some (by kernel_rfl))
  t0 := Tryz.underlying0
  a0 := Tryz.isAgg0
  z0 := Tryz.sizeOf0
  v0 := Tryz.zeroValue0
  t3 := Tryz.underlying3
  a3 := Tryz.isAgg3
  z3 := Tryz.sizeOf3
  v3 := Tryz.zeroValue3
  t4 := Tryz.underlying4
  a4 := Tryz.isAgg4
  z4 := Tryz.sizeOf4
  v4 := Tryz.zeroValue4
  t22 := Tryz.underlying55
  a22 := Tryz.isAgg55
  z22 := Tryz.sizeOf55
  v22 := Tryz.zeroValue55
  i3 := by kernel_rfl }
open Go.RowKit Go.Lib Go.Sort in
theorem Tryz.slices_Compact_int (blk off cap : Nat) (zs : List Int) (w : World) (hH : Holds (Value.int .i64) w blk off zs.toArray) (hsz : zs.length ≤ 9223372036854775807) (hcap : zs.length ≤ cap) :
    Calls Tryz.prog 254 #[.slice (some ⟨blk, off, none⟩) zs.length cap] w fun e w' => e = .returned (.slice (some ⟨blk, off, none⟩) (Lib.compact zs).length cap) ∧ ∃ q, w' = putRow (Value.int .i64) (Sort.ahead w q) blk off (Lib.compact zs ++ List.replicate (zs.length - (Lib.compact zs).length) 0).toArray := Any.slices_Compact_int Tryz.laysNm220 blk off cap zs w hH hsz hcap
open Go.RowKit Go.Lib Go.Sort in
theorem Tryz.slices_Compact_int_empty (a : Option Addr) (cap : Nat) (w : World) :
    Calls Tryz.prog 254 #[.slice a 0 cap] w fun e w' => e = .returned (.slice a 0 cap) ∧ w' = w := Any.slices_Compact_int_empty Tryz.laysNm220 a cap w
end Go.Proofs
/-
  slices.Sort of whole numbers.
-/
namespace Go.Proofs
namespace YtapbabkndhaemaaGreat
open Go.Abs
theorem sort_in : ∀ args w, (callFunc 57 args).run Tryz.prog w = .ok (.enter 57 args) w := callable_of Tryz.func57 (by kernel_rfl) (by kernel_rfl)
set_option maxRecDepth 100000 in
theorem runs_sort0 (e : TypeId) (tg : Nat) : Runs Tryz.prog cfg 57 [.slice (some ⟨0, 0, none⟩) 0 tg] (AH.of [some (.arr e (ints []))])
    fun r H' => r = .ret (.tuple #[]) ∧ H' = AH.of [some (.arr e (ints []))] := by
  refine Runs.ends ?_
  refine runs_by (tbl := []) (by simp) 3 5 (af := a57) rfl ?_
  rw [a57, b57, run_eq]
  refine ⟨by simp, ?_⟩
  have w1 : IntKind.u64.wrap 0 = 0 := by decide
  have w2 : IntKind.u8.wrap 0 = 0 := by decide
  have w3 : IntKind.i64.wrap 0 = 0 := by decide
  have w4 : IntKind.i64.wrap 1 = 1 := by decide
  simp (implicitDefEqProofs := false) [forms114, a114, b114, forms115, a115, b115, forms176, a176, b176, w1, w2, w3]
  refine loop_once (sg_mono gX_ok (tabS_ok (by simp)) _ _ noY noY_mono) (by omega) ?_
  simp (implicitDefEqProofs := false) [forms166, a166, b166, w3, w4]
  refine loop_once (sg_mono gX_ok (tabS_ok (by simp)) _ _ noY noY_mono) (by omega) ?_
  simp (implicitDefEqProofs := false) [w3]
  refine ends_plan [] [0] ?_ ?_ ?_ <;> simp
theorem runs57 (e : TypeId) (l : List Int) (tg : Nat) (hl : l.length ≤ 1000000) : Runs Tryz.prog cfg 57 [.slice (some ⟨0, 0, none⟩) l.length tg] (AH.of [some (.arr e (ints l))])
    fun r H' => r = .ret (.tuple #[]) ∧ H' = AH.of [some (.arr e (ints (sorted l)))] := by
  by_cases hz : l = []
  · subst hz
    have : sorted [] = [] := List.eq_nil_of_length_eq_zero (by simp)
    rw [this]
    exact runs_sort0 e tg
  · exact runs_sort sort_in (fun blk off cap zs w h1 h2 h3 => Tryz.slices_Sort_int blk off cap zs w h1 h2 h3) e l tg hz (by omega)
def st57 : CStep GD := fun args H => match args with
  | [x] => (sl0 x).bind fun q => (getInts H q.1).map fun l => (q.2.1 = l.2.length ∧ l.2.length ≤ 1000000, .ret (.tuple #[]), H.upd q.1 (.arr l.1 (ints (sorted l.2))))
  | _ => none
theorem st57_ok : CStepOk Tryz.prog cfg 57 st57 := by
  intro args H p r H' h hp
  unfold st57 at h
  split at h
  case h_2 => cases h
  simp only [Option.map_eq_some_iff, Option.bind_eq_some_iff] at h
  obtain ⟨q, hq, l, hl, h⟩ := h
  cases h
  rw [sl0_inv hq, hp.1]
  exact (runs57 l.1 l.2 q.2.2 hp.2).atK (ro_none rfl) [q.1] (by simp) (by simp) (by simp [getInts_inv hl]) (by simp) (by simp) (by simp)
end YtapbabkndhaemaaGreat
end Go.Proofs
/-
  slices.Compact of whole numbers.
-/
namespace Go.Proofs
namespace YtapbabkndhaemaaGreat
open Go.Abs
theorem compact_in : ∀ args w, (callFunc 254 args).run Tryz.prog w = .ok (.enter 254 args) w := callable_of Tryz.func254 (by kernel_rfl) (by kernel_rfl)
theorem runs254 (e : TypeId) (l : List Int) (tg : Nat) (hl : l.length ≤ 1000000) : Runs Tryz.prog cfg 254 [.slice (some ⟨0, 0, none⟩) l.length tg] (AH.of [some (.arr e (ints l))])
    fun r H' => r = .ret (.slice (some ⟨0, 0, none⟩) (Lib.compact l).length tg) ∧ H' = AH.of [some (.arr e (ints (Lib.compact l)))] := by
  by_cases hz : l = []
  · subst hz
    exact runs_compact0 compact_in (fun a cap w => Tryz.slices_Compact_int_empty a cap w) e tg
  · exact runs_compact compact_in (fun blk off cap zs w h1 h2 h3 => Tryz.slices_Compact_int blk off cap zs w h1 h2 h3) e l tg hz (by omega)
def st254 : CStep GD := fun args H => match args with
  | [x] => (sl0 x).bind fun q => (getInts H q.1).map fun l => (q.2.1 = l.2.length ∧ l.2.length ≤ 1000000, .ret (.slice (some ⟨q.1, 0, none⟩) (Lib.compact l.2).length q.2.2), H.upd q.1 (.arr l.1 (ints (Lib.compact l.2))))
  | _ => none
theorem st254_ok : CStepOk Tryz.prog cfg 254 st254 := by
  intro args H p r H' h hp
  unfold st254 at h
  split at h
  case h_2 => cases h
  simp only [Option.map_eq_some_iff, Option.bind_eq_some_iff] at h
  obtain ⟨q, hq, l, hl, h⟩ := h
  cases h
  rw [sl0_inv hq, hp.1]
  exact (runs254 l.1 l.2 q.2.2 hp.2).atK (ro_none rfl) [q.1] (by simp) (by simp) (by simp [getInts_inv hl]) (by simp) (by simp) (by simp)
end YtapbabkndhaemaaGreat
end Go.Proofs
/-
  Stripes: those of some variables, rising, each once: the plain law.
-/
namespace Go.Proofs
namespace YtapbabkndhaemaaGreat
open Go.Abs
def strN (ws : List Int) (l : List Int) (i : Nat) : List Int := ((l.take i).map (ofT ws)).filter fun s => decide (0 ≤ s)
def stripesL (ws : List Int) (l : List Int) (n : Nat) : List Int := Lib.compact (sorted (strN ws l n))
def inAt (ws : List Int) (l : List Int) (n : Nat) (s : Nat) : Bool := (l.take n).any fun t => decide (ofT ws t = s)
def rstrN (ws : List Int) (l : List Int) (n : Nat) (s : Nat) : List Int := ((List.range s).filter (inAt ws l n)).map fun i : Nat => (i : Int)
theorem strN_zero (ws l : List Int) : strN ws l 0 = [] := by simp [strN]
theorem strN_succ {ws l : List Int} {i : Nat} {t : Int} (hx : l[i]? = some t) : strN ws l (i + 1) = strN ws l i ++ (if 0 ≤ ofT ws t then [ofT ws t] else []) := by
  unfold strN
  rw [List.take_add_one, hx, List.map_append, List.filter_append]
  by_cases h : 0 ≤ ofT ws t <;> simp [h]
theorem strN_le (ws l : List Int) (i : Nat) : (strN ws l i).length ≤ i := by
  unfold strN
  have := List.length_filter_le (fun s : Int => decide (0 ≤ s)) ((l.take i).map (ofT ws))
  rw [List.length_map, List.length_take] at this
  omega
theorem rstrN_succ (ws l : List Int) (n s : Nat) : rstrN ws l n (s + 1) = rstrN ws l n s ++ (if inAt ws l n s then [(s : Int)] else []) := by
  unfold rstrN
  rw [List.range_succ, List.filter_append, List.map_append]
  by_cases h : inAt ws l n s <;> simp [h]
theorem rstrN_le (ws l : List Int) (n s : Nat) : (rstrN ws l n s).length ≤ s := by
  unfold rstrN
  rw [List.length_map]
  have := List.length_filter_le (inAt ws l n) (List.range s)
  simpa using this
theorem rstrN_strict (ws l : List Int) (n s : Nat) : (rstrN ws l n s).Pairwise (· < ·) := by
  induction s with
  | zero => simp [rstrN]
  | succ s ih =>
    rw [rstrN_succ, List.pairwise_append]
    refine ⟨ih, by split <;> simp, fun a ha b hb => ?_⟩
    have hb' : b = s := by
      split at hb
      · simpa using hb
      · simp at hb
    subst hb'
    unfold rstrN at ha
    obtain ⟨i, hi, rfl⟩ := List.mem_map.1 ha
    have := List.mem_range.1 (List.mem_filter.1 hi).1
    omega
theorem stripes_same {ws : List Int} {c : Int} (h : GoodT ws c) (l : List Int) (n : Nat) : stripesL ws l n = rstrN ws l n ws.length := by
  refine strict_ext (compact_strict _) (rstrN_strict ws l n ws.length) fun v => ?_
  unfold stripesL
  rw [compact_mem]
  unfold strN rstrN inAt
  simp only [List.mem_filter, List.mem_map, List.mem_range, decide_eq_true_eq, List.any_eq_true]
  constructor
  · rintro ⟨⟨t, ht, rfl⟩, h0⟩
    have hlt : ofT ws t < ws.length := by
      by_cases hb : 0 ≤ t ∧ t < 12
      · exact (ofT_lt h hb).2
      · unfold ofT at h0; rw [if_neg hb] at h0; omega
    exact ⟨(ofT ws t).toNat, ⟨by omega, t, ht, by omega⟩, by omega⟩
  · rintro ⟨i, ⟨_, t, ht, e⟩, rfl⟩
    exact ⟨⟨t, ht, e⟩, by omega⟩
end YtapbabkndhaemaaGreat
end Go.Proofs
/-
  Stripes of some variables: both walked; the law's run.
-/
namespace Go.Proofs
namespace YtapbabkndhaemaaGreat
open Go.Abs
def tblSs : List (FuncId × CStep GD) := [(103, st103), (57, st57), (254, st254), (144, st144), (201, st201)]
theorem tblSs_ok : ∀ x ∈ tblSs, CStepOk Tryz.prog cfg x.1 x.2 := by simp [tblSs, st103_ok, st57_ok, st254_ok, st144_ok, st201_ok]
end YtapbabkndhaemaaGreat
end Go.Proofs
/-
  EVENTS: rows of them, and what is read off one.
-/
namespace Go.Proofs
namespace YtapbabkndhaemaaGreat
open Go.Abs
theorem evs_ground (l : List Ev) : grounds (evs l) = true := by
  induction l with
  | nil => rfl
  | cons e l ih =>
    show grounds (.int .u8 e.k :: .int .i64 e.a :: .int .i64 e.t :: .int .u64 e.v :: evs l) = true
    simp [grounds, ground, ih]
theorem ren_evs (θ : Nat → Nat) (l : List Ev) : rens θ (evs l) = evs l := rens_ground θ _ (evs_ground l)
attribute [simp] ren_evs
theorem evs_length (l : List Ev) : (evs l).length = l.length * 4 := by
  induction l with
  | nil => rfl
  | cons e l ih =>
    show (.int .u8 e.k :: .int .i64 e.a :: .int .i64 e.t :: .int .u64 e.v :: evs l : List Value).length = _
    simp [ih]; omega
theorem evs_append (a b : List Ev) : evs (a ++ b) = evs a ++ evs b := by simp [evs]
theorem evs_single (e : Ev) : evs [e] = [.int .u8 e.k, .int .i64 e.a, .int .i64 e.t, .int .u64 e.v] := rfl
theorem take_evs (l : List Ev) : (evs l).take (l.length * 4) = evs l := List.take_of_length_le (by simp [evs_length])
theorem evs_nil : evs [] = [] := rfl
def asEvs : List Value → Option (List Ev)
  | [] => some []
  | .int .u8 k :: .int .i64 a :: .int .i64 t :: .int .u64 v :: l => (asEvs l).map (⟨k, a, t, v⟩ :: ·)
  | _ => none
theorem asEvs_evs : ∀ l : List Ev, asEvs (evs l) = some l
  | [] => rfl
  | e :: l => by
    show (asEvs (evs l)).map (_ :: ·) = _
    rw [asEvs_evs l]; rfl
theorem asEvs_inv : ∀ {cs : List Value} {l : List Ev}, asEvs cs = some l → cs = evs l
  | cs, l, e => by
    unfold asEvs at e
    split at e
    · cases e; rfl
    · simp only [Option.map_eq_some_iff] at e
      obtain ⟨l', e1, rfl⟩ := e
      rw [asEvs_inv e1]; rfl
    · cases e
attribute [simp] asEvs_evs
end YtapbabkndhaemaaGreat
end Go.Proofs
/-
  TL2: what its functions come to.
-/
namespace Go.Proofs
namespace YtapbabkndhaemaaGreat
open Go.Abs
def setU (ts : Nat → Option TA) (th : Nat) (x : Option TA) : Nat → Option TA := fun i => if i = th then x else ts i
theorem setU_self (ts : Nat → Option TA) (th : Nat) (x : Option TA) : setU ts th x th = x := by simp [setU]
theorem setU_other (ts : Nat → Option TA) {th i : Nat} (x : Option TA) (h : i ≠ th) : setU ts th x i = ts i := by simp [setU, h]
def newTA (n : Nat) (c : Int) : TA := ⟨n, c, 0, [], [[]], ⟨0, 0, 0⟩, 0, 0, 0, 0, 0, false⟩
def tbeginC (s : TS) (th : Nat) : Int := if (s.ts th).isSome then 8 else if 64 ≤ s.ft.length then 4 else 0
def tbeginS (s : TS) (th : Nat) : TS := { s with ts := setU s.ts th (some (newTA s.ft.length s.c)), ev := s.ev ++ [⟨1, s.ft.length, 0, 0⟩], ft := s.ft ++ [⟨s.ft.length, 2 * s.c + 1, 0⟩] }
def taskC (s : TS) (th : Nat) (x : Ak) : Int := match s.ts th with
  | none => 8
  | some a => if a.ra.k ≠ 0 then 7 else wantL a.fs s.hp.length x
def taskS (s : TS) (th : Nat) (x : Ak) : TS := match s.ts th with
  | none => s
  | some a => { s with ts := setU s.ts th (some { a with ra := x, ph := 0, nx := 0, sw := 0, sv := 0, ss := 0 }) }
def whyF (l : List Fate) (n : Nat) (w : Int) : List Fate := match l[n]? with
  | some f => l.set n { f with why := w }
  | none => l
def keyF (l : List Fate) (n : Nat) (k : Int) : List Fate := match l[n]? with
  | some f => l.set n { f with key := k }
  | none => l
def tendS (s : TS) (th : Nat) (a : TA) (why : Int) : TS :=
  { ws := dropL s.ws th, c := s.c, hp := s.hp, ts := setU s.ts th none, ev := s.ev ++ [⟨9, a.n, 0, 0⟩], ft := whyF s.ft a.n why }
def tcommitS (s : TS) (th : Nat) (a : TA) : TS := { s with ts := setU s.ts th none, ev := s.ev ++ [⟨8, a.n, 0, 0⟩] }
def tputA (s : TS) (th : Nat) (a : TA) : TS := { s with ts := setU s.ts th (some a) }
def tgotS (s : TS) (th : Nat) (a : TA) (v : Int) : TS := { s with ts := setU s.ts th (some { a with ra := ⟨0, 0, 0⟩ }), ev := s.ev ++ [⟨2, a.n, a.ra.t, v⟩] }
def otherB (ws : List Int) (th : Nat) (st : Int) : Bool := ownTB ws st && decide (ownTV ws st ≠ (th : Int))
def treadS (s : TS) (th : Nat) (a : TA) : Rp × TS :=
  match getLog a.fs a.ra.t with
  | some v => (rpDone v, tgotS s th a v)
  | none =>
    if a.ss = 0 then
      (if otherB s.ws th (ofT s.ws a.ra.t) = true then (rpBusy (ownTV s.ws (ofT s.ws a.ra.t)), s)
       else if a.rv < verT s.ws (ofT s.ws a.ra.t) then (rpEnd 1, tendS s th a 1)
       else (rpNone, tputA s th { a with ss := 1, sw := wordTV s.ws (ofT s.ws a.ra.t) }))
    else if a.ss = 1 then (rpNone, tputA s th { a with ss := 2, sv := (s.hp[a.ra.t.toNat]?).getD 0 })
    else if wordTV s.ws (ofT s.ws a.ra.t) = a.sw then
      (if addCode a.es ⟨a.ra.t, a.sv, verT s.ws (ofT s.ws a.ra.t)⟩ = 0 then (rpDone a.sv, tgotS s th { a with ss := 3, es := addL a.es ⟨a.ra.t, a.sv, verT s.ws (ofT s.ws a.ra.t)⟩ } a.sv) else (rpEnd 2, tendS s th a 2))
    else (rpEnd 1, tendS s th a 1)
def needsL (ws : List Int) (fs : List (List Pr)) : List Int := stripesL ws ((allL fs).map (·.t)) (allL fs).length
def firstN (l held : List Int) : Option Int := l.find? fun s => decide (s ∉ held)
def tlockS (s : TS) (th : Nat) (a : TA) : Rp × TS :=
  match firstN (needsL s.ws a.fs) (heldL s.ws th) with
  | some st => if otherB s.ws th st = true then (rpBusy (ownTV s.ws st), s) else (rpNone, { s with ws := lockTL s.ws th st })
  | none => if nextC s.c = 0 then (rpNone, { s with c := nextV s.c, ts := setU s.ts th (some { a with wv := nextV s.c, ph := 2, nx := 0 }) }) else (rpEnd 2, tendS s th a 2)
def passB (w : Int) (o : Int) (v : Int) : Bool := (decide (wOwn w = -1) || decide (wOwn w = o)) && decide (wVer w ≤ v)
def tcheckS (s : TS) (th : Nat) (a : TA) : Rp × TS :=
  match a.es[a.nx]? with
  | none => (rpNone, { s with ts := setU s.ts th (some { a with dec := true, ph := 3, nx := 0 }), ft := keyF s.ft a.n (2 * a.wv) })
  | some e => if passB (wordTV s.ws (ofT s.ws e.t)) th a.rv = true then (rpNone, tputA s th { a with nx := a.nx + 1 }) else (rpEnd 1, tendS s th a 1)
def tgoOnS (s : TS) (th : Nat) (a : TA) : Rp × TS :=
  if a.ph = 0 then
    (if allL a.fs = [] then (rpEnd 0, tcommitS { s with ev := s.ev ++ [⟨7, a.n, 0, 0⟩] } th a) else (rpNone, { s with ts := setU s.ts th (some { a with ph := 1 }), ev := s.ev ++ [⟨7, a.n, 0, 0⟩] }))
  else if a.ph = 1 then tlockS s th a
  else if a.ph = 2 then tcheckS s th a
  else if a.ph = 3 then (match (allL a.fs)[a.nx]? with
    | some p => (rpNone, { s with hp := s.hp.set p.t.toNat p.v, ts := setU s.ts th (some { a with nx := a.nx + 1, ph := if a.nx + 1 = (allL a.fs).length then 4 else 3 }) })
    | none => (rpNone, s))
  else (match heldL s.ws th with
    | [] => (rpNone, s)
    | [h] => (rpEnd 0, tcommitS { s with ws := unlockTL s.ws s.c th h a.wv } th a)
    | h :: _ => (rpNone, { s with ws := unlockTL s.ws s.c th h a.wv }))
def tturnS (s : TS) (th : Nat) (a : TA) : Rp × TS :=
  if a.ra.k = 3 then (rpDone 0, { s with ts := setU s.ts th (some { a with ra := ⟨0, 0, 0⟩, fs := pushF a.fs }), ev := s.ev ++ [⟨4, a.n, 0, 0⟩] })
  else if a.ra.k = 4 then (rpDone 0, { s with ts := setU s.ts th (some { a with ra := ⟨0, 0, 0⟩, fs := dropF a.fs }), ev := s.ev ++ [⟨5, a.n, 0, 0⟩] })
  else if a.ra.k = 5 then (rpDone 0, { s with ts := setU s.ts th (some { a with ra := ⟨0, 0, 0⟩, fs := mergeFs a.fs }), ev := s.ev ++ [⟨6, a.n, 0, 0⟩] })
  else if putCs a.fs a.ra.t a.ra.v = 0 then (rpDone 0, { s with ts := setU s.ts th (some { a with ra := ⟨0, 0, 0⟩, fs := putFs a.fs a.ra.t a.ra.v }), ev := s.ev ++ [⟨3, a.n, a.ra.t, a.ra.v⟩] })
  else (rpEnd 2, tendS s th a 2)
def tstepS (s : TS) (th : Nat) : Rp × TS := match s.ts th with
  | none => (rpErr 8, s)
  | some a =>
    if a.ra.k = 0 then (rpErr 8, s)
    else if a.ra.k = 1 then treadS s th a
    else if a.ra.k = 6 then tgoOnS s th a
    else if a.ra.k = 7 then (rpEnd 4, tendS s th a 4)
    else tturnS s th a
structure TA.Ok (a : TA) (s : TS) : Prop where
  n : a.n < s.ft.length
  rv : 0 ≤ a.rv ∧ a.rv ≤ s.c
  wv : 0 ≤ a.wv ∧ a.wv ≤ s.c
  es : Good a.es
  est : ∀ e ∈ a.es, e.t < s.hp.length
  fs : GoodLog a.fs
  fst : ∀ f ∈ a.fs, ∀ p ∈ f, 0 ≤ p.t ∧ p.t < s.hp.length ∧ 0 ≤ p.v ∧ p.v < 18446744073709551616
  ask : 0 ≤ a.ra.k ∧ a.ra.k ≤ 7 ∧ (a.ra.k = 1 ∨ a.ra.k = 2 → 0 ≤ a.ra.t ∧ a.ra.t < s.hp.length) ∧ 0 ≤ a.ra.v ∧ a.ra.v < 18446744073709551616
  sw : 0 ≤ a.sw ∧ a.sw < 18446744073709551616
  sv : 0 ≤ a.sv ∧ a.sv < 18446744073709551616
  ss : a.ss ≤ 3
  sr : a.ra.k = 1 → a.ss ≤ 2
  nx : a.nx ≤ 100
  ph : a.ph ≤ 4
  p2 : a.ph = 2 → a.nx ≤ a.es.length
  p3 : a.ph = 3 → a.nx < (allL a.fs).length
  p6 : a.ph ≠ 0 → a.ra.k = 6 ∧ allL a.fs ≠ []
  ww : (a.ra.k = 3 → a.fs.length < 5) ∧ (a.ra.k = 4 ∨ a.ra.k = 5 → 1 < a.fs.length)
def ownN (ws : List Int) (i : Nat) : Int := match ws[i]? with
  | some w => wOwn w
  | none => -1
def LockOk (ws : List Int) (th : Nat) (a : TA) : Prop :=
  (a.ph = 0 → heldL ws th = []) ∧ (2 ≤ a.ph → heldL ws th ≠ []) ∧ (a.dec = true ↔ 3 ≤ a.ph) ∧ (2 ≤ a.ph → ∀ i : Nat, ownN ws i = th → verT ws i ≤ a.wv)
structure TS.Ok (s : TS) : Prop where
  hp : 1 ≤ s.hp.length ∧ s.hp.length ≤ 12
  hv : ∀ v ∈ s.hp, 0 ≤ v ∧ v < 18446744073709551616
  tab : GoodT s.ws s.c
  ft : s.ft.length ≤ 64
  ts : ∀ th a, s.ts th = some a → a.Ok s
  lk : ∀ th a, s.ts th = some a → LockOk s.ws th a
  no : ∀ th, s.ts th = none → heldL s.ws (th : Int) = []
  th4 : ∀ th, 4 ≤ th → s.ts th = none
end YtapbabkndhaemaaGreat
end Go.Proofs
/-
  TL2: an engine is opened.
-/
namespace Go.Proofs
namespace YtapbabkndhaemaaGreat
open Go.Abs
theorem tth_cases {th : Nat} (h : th < 4) : th = 0 ∨ th = 1 ∨ th = 2 ∨ th = 3 := by omega
def u1 (th : Nat) : Nat := if th = 0 then 1 else 0
def u2 (th : Nat) : Nat := if th ≤ 1 then 2 else 1
def u3 (th : Nat) : Nat := if th ≤ 2 then 3 else 2
def tps (th : Nat) (q : Value) (ts : Nat → Option TA) : List Value := match th with
  | 0 => [q, teptr 6 (ts 1), teptr 7 (ts 2), teptr 8 (ts 3)]
  | 1 => [teptr 6 (ts 0), q, teptr 7 (ts 2), teptr 8 (ts 3)]
  | 2 => [teptr 6 (ts 0), teptr 7 (ts 1), q, teptr 8 (ts 3)]
  | _ => [teptr 6 (ts 0), teptr 7 (ts 1), teptr 8 (ts 2), q]
def tengC (a b : Value) (th : Nat) (q : Value) (ts : Nat → Option TA) (x y : Value) : List Value := a :: b :: (tps th q ts ++ [x, y])
theorem tengC_len (a b : Value) (th : Nat) (q : Value) (ts : Nat → Option TA) (x y : Value) : (tengC a b th q ts x y).length = 8 := by unfold tengC tps; split <;> rfl
theorem tengC_0 (a b : Value) (th : Nat) (q : Value) (ts : Nat → Option TA) (x y : Value) : (tengC a b th q ts x y)[0]? = some a := rfl
theorem tengC_1 (a b : Value) (th : Nat) (q : Value) (ts : Nat → Option TA) (x y : Value) : (tengC a b th q ts x y)[1]? = some b := rfl
theorem tengC_6 (a b : Value) (th : Nat) (q : Value) (ts : Nat → Option TA) (x y : Value) : (tengC a b th q ts x y)[6]? = some x := by unfold tengC tps; split <;> rfl
theorem tengC_7 (a b : Value) (th : Nat) (q : Value) (ts : Nat → Option TA) (x y : Value) : (tengC a b th q ts x y)[7]? = some y := by unfold tengC tps; split <;> rfl
theorem tengC_t (a b : Value) {th : Nat} (h : th < 4) (q : Value) (ts : Nat → Option TA) (x y : Value) : (tengC a b th q ts x y)[2 + th]? = some q := by
  rcases tth_cases h with rfl | rfl | rfl | rfl <;> rfl
theorem tengC_g0 (a b : Value) (th : Nat) (q : Value) (ts : Nat → Option TA) (x y : Value) (h : 0 < (tengC a b th q ts x y).length) : (tengC a b th q ts x y)[0]'h = a := rfl
theorem tengC_g1 (a b : Value) (th : Nat) (q : Value) (ts : Nat → Option TA) (x y : Value) (h : 1 < (tengC a b th q ts x y).length) : (tengC a b th q ts x y)[1]'h = b := rfl
theorem tengC_g6 (a b : Value) (th : Nat) (q : Value) (ts : Nat → Option TA) (x y : Value) (h : 6 < (tengC a b th q ts x y).length) : (tengC a b th q ts x y)[6]'h = x := by
  have := tengC_6 a b th q ts x y
  rw [List.getElem?_eq_getElem h] at this
  exact Option.some.inj this
theorem tengC_g7 (a b : Value) (th : Nat) (q : Value) (ts : Nat → Option TA) (x y : Value) (h : 7 < (tengC a b th q ts x y).length) : (tengC a b th q ts x y)[7]'h = y := by
  have := tengC_7 a b th q ts x y
  rw [List.getElem?_eq_getElem h] at this
  exact Option.some.inj this
theorem tengC_gt (a b : Value) {th : Nat} (ht : th < 4) (q : Value) (ts : Nat → Option TA) (x y : Value) (h : 2 + th < (tengC a b th q ts x y).length) : (tengC a b th q ts x y)[2 + th]'h = q := by
  have := tengC_t a b ht q ts x y
  rw [List.getElem?_eq_getElem h] at this
  exact Option.some.inj this
theorem tengC_s6 (a b : Value) (th : Nat) (q : Value) (ts : Nat → Option TA) (x y v : Value) : (tengC a b th q ts x y).set 6 v = tengC a b th q ts v y := by unfold tengC tps; split <;> rfl
theorem tengC_s7 (a b : Value) (th : Nat) (q : Value) (ts : Nat → Option TA) (x y v : Value) : (tengC a b th q ts x y).set 7 v = tengC a b th q ts x v := by unfold tengC tps; split <;> rfl
theorem tengC_st (a b : Value) {th : Nat} (h : th < 4) (q : Value) (ts : Nat → Option TA) (x y v : Value) : (tengC a b th q ts x y).set (2 + th) v = tengC a b th v ts x y := by
  rcases tth_cases h with rfl | rfl | rfl | rfl <;> rfl
theorem teptr_some (k : Nat) (a : TA) : teptr k (some a) = .pointer (some ⟨k, 0, none⟩) := rfl
theorem teptr_none (k : Nat) : teptr k none = .pointer none := rfl
theorem leV_teptr (k : Nat) (o : Option TA) : leV (teptr k o) (teptr k o) = True := leV_refl _
theorem teptr_ren (θ : Nat → Nat) (k : Nat) (o : Option TA) : ren θ (teptr k o) = teptr (θ k) o := by cases o <;> rfl
theorem tslotO_some (a : TA) : tslotO (some a) = .hi (.tatt a) := rfl
theorem tslotO_none : tslotO none = .arr 98 [] := rfl
theorem ren_tslotO (θ : Nat → Nat) (x : Option TA) : (tslotO x).ren θ = tslotO x := by cases x <;> simp [tslotO, ren_hi, ren_arr, rens]
theorem mine_tslotO (x : Option TA) : (tslotO x).mine = true := by cases x <;> rfl
theorem leO_tslotO (x : Option TA) : leO (tslotO x) (tslotO x) = True := eq_true (leO_refl _)
theorem umine_arr (e : TypeId) (cs : List Value) : (AObj.arr e cs : AObj GD).mine = true := rfl
theorem umine_hi (d : GD) : (AObj.hi d).mine = true := rfl
theorem umine_map (es : List MapEntry) (c : Nat) : (AObj.map es c : AObj GD).mine = true := rfl
theorem fates_cons (e : Fate) (l : List Fate) : fates (e :: l) = .int .i64 e.n :: .int .u64 e.key :: .int .u8 e.why :: fates l := rfl
theorem fates_append (a b : List Fate) : fates (a ++ b) = fates a ++ fates b := by simp [fates]
theorem fates_single (e : Fate) : fates [e] = [.int .i64 e.n, .int .u64 e.key, .int .u8 e.why] := rfl
theorem fates_length (l : List Fate) : (fates l).length = l.length * 3 := by
  induction l with
  | nil => rfl
  | cons e l ih => rw [fates_cons]; simp [ih]; omega
theorem fates_ground (l : List Fate) : grounds (fates l) = true := by
  induction l with
  | nil => rfl
  | cons e l ih => rw [fates_cons]; simp [grounds, ground, ih]
theorem ren_fates (θ : Nat → Nat) (l : List Fate) : rens θ (fates l) = fates l := rens_ground θ _ (fates_ground l)
theorem take_fates (l : List Fate) : (fates l).take (l.length * 3) = fates l := List.take_of_length_le (by simp [fates_length])
theorem fates_why (w : Int) : ∀ {l : List Fate} {n : Nat}, n < l.length → (fates l).set (n * 3 + 2) (.int .u8 w) = fates (whyF l n w)
  | [], n, h => by simp at h
  | e :: l, 0, h => by simp [whyF, fates_cons]
  | e :: l, n + 1, h => by
    have ih := fates_why w (l := l) (n := n) (by simpa using h)
    obtain ⟨f, hf⟩ : ∃ f, l[n]? = some f := ⟨l[n]'(by simpa using h), List.getElem?_eq_getElem (by simpa using h)⟩
    rw [fates_cons, show (n + 1) * 3 + 2 = (n * 3 + 2) + 1 + 1 + 1 by omega]
    simp only [List.set_cons_succ, ih]
    simp [whyF, hf, fates_cons]
theorem fates_key (w : Int) : ∀ {l : List Fate} {n : Nat}, n < l.length → (fates l).set (n * 3 + 1) (.int .u64 w) = fates (keyF l n w)
  | [], n, h => by simp at h
  | e :: l, 0, h => by simp [keyF, fates_cons]
  | e :: l, n + 1, h => by
    have ih := fates_key w (l := l) (n := n) (by simpa using h)
    obtain ⟨f, hf⟩ : ∃ f, l[n]? = some f := ⟨l[n]'(by simpa using h), List.getElem?_eq_getElem (by simpa using h)⟩
    rw [fates_cons, show (n + 1) * 3 + 1 = (n * 3 + 1) + 1 + 1 + 1 by omega]
    simp only [List.set_cons_succ, ih]
    simp [keyF, hf, fates_cons]
theorem whyF_len (l : List Fate) (n : Nat) (w : Int) : (whyF l n w).length = l.length := by unfold whyF; split <;> simp
theorem keyF_len (l : List Fate) (n : Nat) (w : Int) : (keyF l n w).length = l.length := by unfold keyF; split <;> simp
attribute [simp] umine_arr umine_hi umine_map ren_tslotO mine_tslotO leO_tslotO ren_evs ren_fates teptr_ren leV_teptr
def tengL (s : TS) (th : Nat) : List (Option (AObj GD)) :=
  [some (.arr 89 (tengC (.pointer (some ⟨1, 0, none⟩)) (.slice (some ⟨2, 0, none⟩) s.hp.length 1) th (teptr 5 (s.ts th)) s.ts (.slice (some ⟨3, 0, none⟩) s.ev.length 1) (.slice (some ⟨4, 0, none⟩) s.ft.length 1))),
    some (.hi (.tab s.ws s.c)), some (.arr 30 (us s.hp)), some (.arr 121 (evs s.ev)), some (.arr 100 (fates s.ft)), some (tslotO (s.ts th)), some (tslotO (s.ts (u1 th))), some (tslotO (s.ts (u2 th))), some (tslotO (s.ts (u3 th)))]
theorem Runs.openTEng {f : FuncId} {args : List Value} {K : AEnd → AH GD → Prop} {s : TS} {th : Nat} (hth : th < 4)
    (h : Runs Tryz.prog cfg f args (AH.of (tengL s th)) K) : Runs Tryz.prog cfg f args (AH.of [some (.hi (.teng s))]) K := by
  have e : openK frag (AH.of [some (.hi (.teng s))]) 0 = some (AH.of [some (.arr 89 [.pointer (some ⟨1, 0, none⟩), .slice (some ⟨2, 0, none⟩) s.hp.length 1, teptr 5 (s.ts 0), teptr 6 (s.ts 1), teptr 7 (s.ts 2), teptr 8 (s.ts 3), .slice (some ⟨3, 0, none⟩) s.ev.length 1, .slice (some ⟨4, 0, none⟩) s.ft.length 1]),
      some (.hi (.tab s.ws s.c)), some (.arr 30 (us s.hp)), some (.arr 121 (evs s.ev)), some (.arr 100 (fates s.ft)), some (tslotO (s.ts 0)), some (tslotO (s.ts 1)), some (tslotO (s.ts 2)), some (tslotO (s.ts 3))]) := by
    simp [frag_teng]
  have see : SeesG Tryz.prog cfg (AH.of [some (.hi (.teng s))]) (AH.of (tengL s th)) := by
    rcases tth_cases hth with rfl | rfl | rfl | rfl
    · exact (openK_ok e).names (ks := [0, 1, 2, 3, 4, 5, 6, 7, 8]) (by simp [tengL, tengC, tps, u1, u2, u3])
    · exact (openK_ok e).names (ks := [0, 1, 2, 3, 4, 6, 5, 7, 8]) (by simp [tengL, tengC, tps, u1, u2, u3])
    · exact (openK_ok e).names (ks := [0, 1, 2, 3, 4, 7, 5, 6, 8]) (by simp [tengL, tengC, tps, u1, u2, u3])
    · exact (openK_ok e).names (ks := [0, 1, 2, 3, 4, 8, 5, 6, 7]) (by simp [tengL, tengC, tps, u1, u2, u3])
  exact Runs.seesG see h
end YtapbabkndhaemaaGreat
end Go.Proofs
/-
  slices.Contains of whole numbers.
-/
namespace Go.Proofs
namespace YtapbabkndhaemaaGreat
open Go.Abs
theorem runs208 (e : TypeId) (l : List Int) (tg : Nat) (x : Int) (hl : l.length ≤ 1000) : Runs Tryz.prog cfg 208 [.slice (some ⟨0, 0, none⟩) l.length tg, .int .i64 x] (AH.of [some (.arr e (ints l))])
    fun r H' => r = .ret (.bool (decide (x ∈ l))) ∧ H' = AH.of [some (.arr e (ints l))] := by
  refine Runs.ends ?_
  obtain ⟨n, hn⟩ : ∃ n, l.length = n := ⟨_, rfl⟩
  rw [hn]
  refine runs_by (tbl := []) (by simp) 1001 2 (af := a208) rfl ?_
  rw [a208, b208, run_eq]
  refine ⟨by simp, ?_⟩
  simp (implicitDefEqProofs := false) [forms240, a240, b240]
  refine loop_inv (sg_mono gX_ok (tabS_ok (by simp)) _ _ noY noY_mono) (fun m tm H => ∃ i : Nat, m + i = n ∧ (∀ j y, j < i → l[j]? = some y → y ≠ x) ∧ tm 0 = .slice (some ⟨0, 0, none⟩) n tg ∧ tm 1 = .int .i64 x ∧ tm 7 = .int .i64 n ∧ tm 8 = .int .i64 i ∧ H = AH.of [some (.arr e (ints l))]) (m := n) ⟨0, by simp⟩ (by omega) ?_
  rintro m tm H ⟨i, hm, hpre, t0, t1, t7, t8, rfl⟩
  by_cases hi : i < n
  · obtain ⟨y, hy⟩ : ∃ y, l[i]? = some y := ⟨l[i]'(by omega), List.getElem?_eq_getElem (by omega)⟩
    have hi' : (i : Int) < n := by omega
    have hwr := inc_i64 hi (by omega)
    have uy := ints_at hy
    by_cases hxy : x = y
    · subst hxy
      have hin : x ∈ l := List.mem_of_getElem? hy
      simp (implicitDefEqProofs := false) [t0, t1, t7, t8, hi, hi', uy, hwr, hin]
      refine ends_plan [] [0] ?_ ?_ ?_ <;> simp
    · have hpre2 : ∀ j z, j < i + 1 → l[j]? = some z → z ≠ x := fun j z hj hz => by
        by_cases h : j = i
        · subst h; rw [hy] at hz; cases hz; exact fun h => hxy h.symm
        · exact hpre j z (by omega) hz
      simp (implicitDefEqProofs := false) [t0, t1, t7, t8, hi, hi', uy, hwr, hxy]
      exact ⟨m - 1, by omega, i + 1, by omega, hpre2, by omega⟩
  · have hin : x ∉ l := fun h => by
      obtain ⟨j, hj⟩ := List.getElem?_of_mem h
      have := (List.getElem?_eq_some_iff.1 hj).1
      exact hpre j x (by omega) hj rfl
    have hi' : ¬ (i : Int) < n := by omega
    simp (implicitDefEqProofs := false) [t0, t1, t7, t8, hi', hin]
    refine ends_plan [] [0] ?_ ?_ ?_ <;> simp
def st208 : CStep GD := fun args H => match args with
  | [.slice (some ⟨k, 0, none⟩) n _, .int .i64 x] => match getInts H k with
    | some l => some (n = l.2.length ∧ l.2.length ≤ 1000, .ret (.bool (decide (x ∈ l.2))), H)
    | none => none
  | _ => none
theorem st208_ok : CStepOk Tryz.prog cfg 208 st208 := by
  intro args H p r H' h hp
  unfold st208 at h
  split at h
  case h_2 => cases h
  split at h
  case h_2 => cases h
  rename_i k n tg x _ l hl
  cases h
  rw [hp.1]
  exact (runs208 l.1 l.2 tg x hp.2).atK (ro_none rfl) [k] (by simp) (by simp) (by simp [getInts_inv hl]) (by simp) (by simp) (by simp [upd_get (getInts_inv hl)])
theorem getInts_list (L : List (Option (AObj GD))) (k : Nat) : getInts (AH.of L) k = match (L[k]?).join with
  | some (.arr e cs) => (asInts cs).map fun h => (e, h)
  | _ => none := rfl
attribute [simp] getInts_list
end YtapbabkndhaemaaGreat
end Go.Proofs
/-
  TL2: may a word be read; stripes of a row of one's own.
-/
namespace Go.Proofs
namespace YtapbabkndhaemaaGreat
open Go.Abs
def tblPa : List (FuncId × CStep GD) := [(149, st149)]
theorem tblPa_ok : ∀ x ∈ tblPa, CStepOk Tryz.prog cfg x.1 x.2 := by simp [tblPa, st149_ok]
set_option maxHeartbeats 1000000 in
theorem runs104 (w o v : Int) (h : RightW w) : Runs Tryz.prog cfg 104 [.int .u64 w, .int .i64 o, .int .u64 v] (AH.of [])
    fun r H' => r = .ret (.bool (passB w o v)) ∧ H' = AH.of [] := by
  refine Runs.ends ?_
  unfold passB
  generalize hO : wOwn w = ow
  generalize hV : wVer w = vw
  refine runs_by (tbl := tblPa) tblPa_ok 0 0 (af := a104) rfl ?_
  rw [a104, b104, run_eq]
  refine ⟨by simp, ?_⟩
  by_cases h1 : ow = -1
  · simp (implicitDefEqProofs := false) [tblPa, pureStep, p149, h, hO, hV, h1]
    refine ends_plan [] [] ?_ ?_ ?_ <;> simp
  · by_cases h2 : ow = o
    · simp (implicitDefEqProofs := false) [tblPa, pureStep, p149, h, hO, hV, h1, h2]
      refine ends_plan [] [] ?_ ?_ ?_ <;> simp
    · simp (implicitDefEqProofs := false) [tblPa, pureStep, p149, h, hO, hV, h1, h2]
      refine ends_plan [] [] ?_ ?_ ?_ <;> simp
def p104 : PStep
  | [.int .u64 w, .int .i64 o, .int .u64 v] => some (RightW w, .bool (passB w o v))
  | _ => none
abbrev st104 := pureStep p104
theorem st104_ok : CStepOk Tryz.prog cfg 104 st104 := pure_ok fun args p v h hp => by
  unfold p104 at h
  split at h
  · cases h; exact ⟨rfl, rfl, runs104 _ _ _ hp⟩
  · cases h
set_option maxHeartbeats 4000000 in
theorem runs_stripes_own (ws : List Int) (c : Int) (l : List Int) (n tg : Nat) (e : TypeId) (h : GoodT ws c) (hn : n ≤ l.length) (hs : n ≤ 1000) : Runs Tryz.prog cfg 239 [.pointer (some ⟨0, 0, none⟩), .slice (some ⟨1, 0, none⟩) n tg] (AH.of [some (.hi (.tab ws c)), some (.arr e (ints l))])
    fun r H' => r = .ret (.slice (some ⟨2, 0, none⟩) (stripesL ws l n).length 1) ∧ H' = AH.of [some (.hi (.tab ws c)), some (.arr e (ints l)), some (.arr 3 (ints (stripesL ws l n)))] := by
  refine Runs.ends ?_
  refine runs_by (tbl := tblSs) tblSs_ok 1001 0 (af := a239) rfl ?_
  rw [a239, b239, run_eq]
  refine ⟨by simp, ?_⟩
  simp (implicitDefEqProofs := false)
  refine loop_view (sg_mono gX_ok (tabS_ok tblSs_ok) _ _ noY noY_mono) (fun m tm H => ∃ i : Nat, m + i = n ∧ tm 0 = .pointer (some ⟨0, 0, none⟩) ∧ tm 9 = .slice (some ⟨1, 0, none⟩) n tg ∧ tm 10 = .int .i64 n ∧ tm 11 = .int .i64 i ∧ tm 5 = .slice (some ⟨2, 0, none⟩) (strN ws l i).length 1 ∧
    H = AH.of [some (.hi (.tab ws c)), some (.arr e (ints l)), some (.arr 3 (ints (strN ws l i)))]) (m := n) ?_ (by omega) ?_
  · refine round_wk [.nil 3] [0, 1, 2] [some (.hi (.tab ws c)), some (.arr e (ints l)), some (.arr 3 (ints []))] [(5, .slice (some ⟨2, 0, none⟩) 0 1)] n (by omega) ?_ ?_ ?_ ⟨0, ?_⟩ <;> simp [strN_zero, show ints [] = [] from rfl]
  rintro m tm H ⟨i, hm, t0, t9, t10, t11, t5, rfl⟩
  have hle := strN_le ws l i
  by_cases hi : i < n
  · obtain ⟨x, hx⟩ : ∃ x, l[i]? = some x := ⟨l[i]'(by omega), List.getElem?_eq_getElem (by omega)⟩
    have hi' : (i : Int) < n := by omega
    have hil : i < l.length := by omega
    have hwr := inc_i64 hi (by omega)
    have hsuc := strN_succ (ws := ws) hx
    have hat := ints_at hx
    have hget := ints_get hx
    have hr3 : ((strN ws l i).length + 1) * 8 ≤ 140737488355328 ∧ (strN ws l i).length ≤ 9223372036854775806 := by omega
    have htk := take_ints (strN ws l i)
    by_cases hp : 0 ≤ ofT ws x
    · rw [if_pos hp] at hsuc
      simp (implicitDefEqProofs := false) [tblSs, st103, h, t0, t9, t10, t11, t5, hi, hi', hil, hwr, hat, hget, hp, hr3, htk]
      refine round_plan [] [0, 1, 4] [some (.hi (.tab ws c)), some (.arr e (ints l)), some (.arr 3 (ints (strN ws l (i + 1))))] (m - 1) (by omega) ?_ ?_ ⟨i + 1, by omega, ?_⟩ <;> simp [t0, t9, t10, t11, t5, hsuc, ints_append, ints_single]
    · rw [if_neg hp] at hsuc
      simp (implicitDefEqProofs := false) [tblSs, st103, h, t0, t9, t10, t11, t5, hi, hi', hil, hwr, hat, hget, hp, hr3, htk]
      refine round_plan [] [0, 1, 2] [some (.hi (.tab ws c)), some (.arr e (ints l)), some (.arr 3 (ints (strN ws l (i + 1))))] (m - 1) (by omega) ?_ ?_ ⟨i + 1, by omega, ?_⟩ <;> simp [t0, t9, t10, t11, t5, hsuc]
  · have hie : i = n := by omega
    subst hie
    have hb : (strN ws l i).length ≤ 1000000 := by omega
    simp (implicitDefEqProofs := false) [tblSs, st57, st254, sl0, getInts, t0, t9, t10, t11, t5, hb]
    refine ends_plan [] [0, 1, 2] ?_ ?_ ?_ <;> simp [stripesL]
def stStrOwn : CStep GD := fun args H => match args with
  | [.pointer (some ⟨k, 0, none⟩), .slice (some ⟨j, 0, none⟩) n tg] => match H.get k with
    | some (.hi (.tab ws c)) => match H.get j with
      | some (.arr e cs) => (asInts cs).map fun l => (GoodT ws c ∧ n ≤ l.length ∧ n ≤ 1000, .ret (.slice (some ⟨H.next, 0, none⟩) (stripesL ws l n).length 1), H.add (.arr 3 (ints (stripesL ws l n))))
      | _ => none
    | _ => none
  | _ => none
theorem stStrOwn_ok : CStepOk Tryz.prog cfg 239 stStrOwn := by
  intro args H p r H' h hp
  unfold stStrOwn at h
  split at h
  case h_2 => cases h
  split at h
  case h_2 => cases h
  split at h
  case h_2 => cases h
  simp only [Option.map_eq_some_iff] at h
  obtain ⟨l, hl, h⟩ := h
  rename_i k j n tg x1 ws c hk x2 e cs hj
  cases h
  rw [asInts_inv hl] at hj
  have hkj : k ≠ j := by rintro rfl; rw [hk] at hj; cases hj
  exact (runs_stripes_own ws c l n tg e hp.1 hp.2.1 hp.2.2).atK (ro_none rfl) [k, j] (by simp [hkj]) (by simp) (by simp [hk, hj]) (by simp) (by simp) (by simp [upd_get hk, upd_get hj])
end YtapbabkndhaemaaGreat
end Go.Proofs
