/-
  What code of the plain form comes to: as a condition on frames and heaps.
-/
import Derived.Test.YtlecfiofljigbaaA12r
set_option linter.unusedSimpArgs false
set_option linter.unusedVariables false
set_option linter.unnecessarySimpa false
set_option linter.unusedSectionVars false
namespace Go.Abs

/-- An operation, a call, a panic. -/
inductive AK where
  | op (o : AOp)
  | call (f : Opd) (args : List Opd)
  | panic (x : Opd)
  deriving Inhabited

structure AIns where
  dst : Option Nat
  op : AK
  guard : Option (Nat × Bool)
  deriving Inhabited

/-- A region that draws its order, as a tree: quiet operations as early as may be; of those that act each that may come next. chk: what has been read, and is to be read again behind it. -/
inductive DT where
  | nil
  | quiet (i : AIns) (t : DT)
  | loud (i : AIns) (chk : List AIns) (t : DT)
  | both (a b : DT)
  | bad
  deriving Inhabited

inductive AC where
  | skip
  | reg (l : List AIns)
  | dreg (t : DT)
  | seq (a b : AC)
  | cond (c : Opd) (a b : AC)
  | block (id : Nat) (a : AC)
  | loop (a : AC)
  | exit (id : Nat)
  | scope (a : AC)
  | label (l : Nat)
  | goto (l : Nat)
  | ret
  deriving Inhabited

inductive AEnd where
  | ret (v : Value)
  | pan (v : Value)

inductive AExit where
  | normal
  | exit (id : Nat)
  | goto (l : Nat)
  | ret
  | pan (v : Value)

section
variable {D : Type}

/-- What a call comes to. -/
abbrev CallT (D : Type) := FuncId → List Value → AH D → (AEnd → AH D → Prop) → Prop

def putD (d : Option Nat) (tm : Nat → Value) (v : Value) : Nat → Value :=
  match d with
  | some d => upd tm d v
  | none => tm

def AK.wp (C : CallT D) (op : AK) (tm : Nat → Value) (H : AH D) (K : Value → AH D → Prop) (E : Value → AH D → Prop) : Prop :=
  match op with
  | .call f args => match f.ev tm with
    | .func (.func g) x y => C g (x.toList ++ args.map (·.ev tm) ++ y.toList) H fun r H' => match r with
      | .ret v => K v H'
      | .pan v => E v H'
    | _ => False
  | .panic x => match x.ev tm with
    | .iface t v => E (.iface t v) H
    | _ => False
  | .op op => match op.step tm H with
    | some (v, H') => K v H'
    | none => False

def AIns.wp (C : CallT D) (i : AIns) (tm : Nat → Value) (H : AH D) (K : (Nat → Value) → AH D → Prop) (E : Value → AH D → Prop) : Prop :=
  match i.guard with
  | none => i.op.wp C tm H (fun v H' => K (putD i.dst tm v) H') E
  | some (t, want) => match tm t with
    | .bool b => if b = want then i.op.wp C tm H (fun v H' => K (putD i.dst tm v) H') E else K (putD i.dst tm undef) H
    | _ => False

/-- What frames and heaps may be seen as; keys below the number keep their places. -/
abbrev ViewT (D : Type) := Nat → (Nat → Value) → AH D → (Nat → Value) → AH D → Prop

/-- What is known of calls; how a datum is opened; what a heap may be seen as, all keys keeping their places; what frames and heaps may be seen as. -/
structure Sg (D : Type) where
  call : CallT D
  opn : AH D → Nat → Option (AH D)
  see : AH D → AH D → Prop
  view : ViewT D

def ptrK : Value → Option Nat
  | .pointer (some ⟨k, _, _⟩) => some k
  | _ => none
/-- The key that an operation touches. -/
def AOp.key (op : AOp) (tm : Nat → Value) : Option Nat :=
  match op with
  | .load a => ptrK (a.ev tm)
  | .loadN _ a => ptrK (a.ev tm)
  | .store _ a _ => ptrK (a.ev tm)
  | _ => none
def AK.key (op : AK) (tm : Nat → Value) : Option Nat :=
  match op with
  | .op o => o.key tm
  | _ => none
def AIns.key (i : AIns) (tm : Nat → Value) : Option Nat :=
  match i.guard with
  | none => i.op.key tm
  | some (t, want) => match tm t with
    | .bool b => if b = want then i.op.key tm else none
    | _ => none
/-- Ahead of an operation the datum that it touches is opened. -/
def prep (O : AH D → Nat → Option (AH D)) (H : AH D) : Option Nat → AH D
  | some k => (O H k).getD H
  | none => H

/-- Ahead of a region that draws the data are opened that are read first. -/
def walkD (O : AH D → Nat → Option (AH D)) : DT → (Nat → Value) → AH D → AH D
  | .quiet ⟨d, .op o, none⟩ t, tm, H => match o.step tm (prep O H (o.key tm)) with
    | some (v, _) => walkD O t (putD d tm v) (prep O H (o.key tm))
    | none => prep O H (o.key tm)
  | _, _, H => H

def insL (C : Sg D) : List AIns → (Nat → Value) → AH D → ((Nat → Value) → AH D → Prop) → (Value → (Nat → Value) → AH D → Prop) → Prop
  | [], tm, H, K, _ => K tm H
  | i :: l, tm, H, K, E => i.wp C.call tm (prep C.opn H (i.key tm)) (fun tm' H' => insL C l tm' H' K E) (fun v H' => E v tm H')

/-- It yields what it has yielded. -/
def AIns.again (i : AIns) (tm : Nat → Value) (H : AH D) : Prop :=
  match i.dst, i.op with
  | some d, .op op => match i.guard with
    | none => op.step tm H = some (tm d, H)
    | some (t, want) => match tm t with
      | .bool b => if b = want then op.step tm H = some (tm d, H) else tm d = undef
      | _ => False
  | _, _ => False

def DT.wp (C : CallT D) : DT → (Nat → Value) → AH D → ((Nat → Value) → AH D → Prop) → Prop
  | .nil, tm, H, K => K tm H
  | .quiet i t, tm, H, K => i.wp C tm H (fun tm' H' => t.wp C tm' H' K) (fun _ _ => False)
  | .loud i chk t, tm, H, K => i.wp C tm H (fun tm' H' => (∀ c ∈ chk, c.again tm' H') ∧ t.wp C tm' H' K) (fun _ _ => False)
  | .both a b, tm, H, K => a.wp C tm H K ∧ b.wp C tm H K
  | .bad, _, _, _ => False

/-- Behind a round the frame and the heap may be seen as others. -/
def loopN (V : ViewT D) (N : Nat) (body : (AExit → (Nat → Value) → AH D → Prop) → (Nat → Value) → AH D → Prop) : Nat → (AExit → (Nat → Value) → AH D → Prop) → (Nat → Value) → AH D → Prop
  | 0, _, _, _ => False
  | n + 1, Q, tm, H => body (fun e tm' H' => match e with
    | .normal => loopN V N body n Q tm' H' ∨ ∃ tm2 H2, V N tm' H' tm2 H2 ∧ loopN V N body n Q tm2 H2
    | e => Q e tm' H') tm H

def AC.wp (C : Sg D) (F : Nat) : AC → (AExit → (Nat → Value) → AH D → Prop) → (Nat → Value) → AH D → Prop
  | .skip, Q, tm, H => Q .normal tm H
  | .reg l, Q, tm, H => insL C l tm H (Q .normal) (fun v => Q (.pan v))
  | .dreg t, Q, tm, H => t.wp C.call tm (walkD C.opn t tm H) (Q .normal)
  | .seq a b, Q, tm, H => a.wp C F (fun e tm' H' => match e with
    | .normal => b.wp C F Q tm' H'
    | e => Q e tm' H') tm H
  | .cond c a b, Q, tm, H => match c.ev tm with
    | .bool t => if t then a.wp C F Q tm H else b.wp C F Q tm H
    | _ => False
  | .block id a, Q, tm, H => a.wp C F (fun e tm' H' => match e with
    | .exit j => if j = id then Q .normal tm' H' else Q (.exit j) tm' H'
    | e => Q e tm' H') tm H
  | .loop a, Q, tm, H => loopN C.view H.next (a.wp C F) F Q tm H ∨ ∃ tm2 H2, C.view H.next tm H tm2 H2 ∧ loopN C.view H.next (a.wp C F) F Q tm2 H2
  | .exit id, Q, tm, H => Q (.exit id) tm H
  | .scope a, Q, tm, H => a.wp C F (fun e tm' H' => match e with
    | .goto _ => False
    | e => Q e tm' H') tm H
  | .label _, Q, tm, H => Q .normal tm H
  | .goto l, Q, tm, H => Q (.goto l) tm H
  | .ret, Q, tm, H => Q .ret tm H

end

/-! ### From the loaded code -/

def AOp.opds : AOp → List Opd
  | .mv x | .box _ x | .load x | .loadN _ x | .nilchk x | .un _ x | .conv _ x | .mkiface _ x | .faddr _ x | .field _ _ _ x | .extract x _ | .lenS x | .lenT x | .lenM x | .clearM x | .frombits x | .tobits x => [x]
  | .pick a b c | .mapupd _ a b c => [a, b, c]
  | .alloc _ _ | .mkmap | .lenK _ => []
  | .build _ ps | .bslice _ _ _ ps => ps.map (·.2.2)
  | .store _ a b | .bin _ a b | .eq _ _ a b | .mkslice _ _ _ a b | .iaddrS _ a b | .iaddrA _ _ a b | .indexA _ _ _ a b | .indexS a b | .lookup _ _ _ a b | .append _ _ _ a b | .delete _ a b | .max a b | .min a b => [a, b]
  | .mkfunc _ a b => a ++ b
  | .slice _ x lo hi mx => [x] ++ lo.toList ++ hi.toList ++ mx.toList
  | .sliceS x lo hi => [x] ++ lo.toList ++ hi.toList

def AK.opds : AK → List Opd
  | .op o => o.opds
  | .call f args => f :: args
  | .panic x => [x]

def Opd.tmp? : Opd → List Nat
  | .t n => [n]
  | _ => []

def AIns.reads (i : AIns) : List Nat := i.op.opds.flatMap Opd.tmp? ++ (match i.guard with | some (t, _) => [t] | none => [])

def AOp.pureB : AOp → Bool
  | .mv _ | .pick .. | .build .. | .nilchk _ | .bin .. | .eq .. | .un .. | .conv .. | .mkfunc .. | .mkiface .. | .slice .. | .sliceS .. | .faddr .. | .field .. | .iaddrS .. | .iaddrA .. | .indexA .. | .indexS .. | .extract .. | .lenS _ | .lenT _
  | .lenK _ | .max .. | .min .. | .frombits _ | .tobits _ => true
  | _ => false
def AOp.readB : AOp → Bool
  | .load _ | .loadN .. | .lookup .. | .lenM _ => true
  | _ => false

section
variable (P : Program) (ext : FuncId → Option Ext1)

def AK.quietB : AK → Bool
  | .op o => o.pureB || o.readB
  | _ => false
def AK.readB : AK → Bool
  | .op o => o.readB
  | _ => false

def compK (n : Nat) (o : Oper) : Option AK :=
  match o.op with
  | .call c =>
    match c.callee with
    | .value (.func f) => match ext f with
      | some _ => (compOp P ext n o).map .op
      | none => (opdsOf n c.args.toList).map fun ys => .call (.f f) ys
    | .value f => (opdOf n f).bind fun g => (opdsOf n c.args.toList).map fun ys => .call g ys
    | _ => (compOp P ext n o).map .op
  | .panic x => (opdOf n x).map .panic
  | _ => (compOp P ext n o).map .op

def compIns (n : Nat) (ops : Array Oper) (o : Oper) : Option AIns :=
  (compK P ext n o).bind fun op =>
    if o.dst.all (· < n) then
      match o.guard with
      | none => some ⟨o.dst, op, none⟩
      | some (j, want) => match (ops[j]?).bind (·.dst) with
        | some t => if t < n then some ⟨o.dst, op, some (t, want)⟩ else none
        | none => none
    else none

def compInsL (n : Nat) (ops : Array Oper) : List Oper → Option (List AIns)
  | [] => some []
  | o :: l => (compIns P ext n ops o).bind fun i => (compInsL n ops l).map (i :: ·)

/-- The operations of a region that draws its order, each as early as may be: behind as few as possible that act. -/
def isAssign : Op → Bool
  | .assign _ => true
  | _ => false

structure DI where
  ix : Nat
  i : AIns
  loud : Bool

def befB (b : Array Nat) (i j : Nat) : Bool := (b.getD j 0).testBit i

/-- Nothing that is left comes ahead of it. -/
def freeB (b : Array Nat) (rest : List DI) (x : DI) : Bool := rest.all fun y => !befB b y.ix x.ix
def without (x : DI) (rest : List DI) : List DI := rest.filter fun y => y.ix != x.ix
def chksOf (b : Array Nat) (done : List DI) (x : DI) : List AIns := (done.filter fun q => !q.loud && q.i.op.readB && !befB b q.ix x.ix).map (·.i)

def alts : List DT → DT
  | [] => .bad
  | [t] => t
  | t :: l => .both t (alts l)

def gen (b : Array Nat) : Nat → List DI → List DI → DT
  | 0, _, rest => if rest.isEmpty then .nil else .bad
  | f + 1, done, rest =>
    match rest.find? fun q => !q.loud && freeB b rest q with
    | some q => .quiet q.i (gen b f (q :: done) (without q rest))
    | none => if rest.isEmpty then .nil else
      alts ((rest.filter fun x => x.loud && freeB b rest x).map fun x => .loud x.i (chksOf b done x) (gen b f (x :: done) (without x rest)))

/-- Two operations of such a region: what the one writes, and the other one reads or writes. -/
def pairD (b : Array Nat) (x y : DI) : Bool :=
  (match x.i.dst with
   | some t => !(y.i.reads.contains t) || befB b x.ix y.ix || (x.loud && befB b y.ix x.ix)
   | none => true) &&
  (match x.i.dst, y.i.dst with
   | some t, some u => t != u || (x.loud && y.loud)
   | _, _ => true)

def oneD (x : DI) : Bool :=
  x.loud || (x.i.op.quietB && (match x.i.dst with | some t => !(x.i.reads.contains t) | none => false))

def edgesD (ops : Array Oper) : Bool := ops.toList.zipIdx.all fun (o, i) => o.after.all fun e => !Region.binds .any e || decide (e.on < i)

def saneD (ops : Array Oper) (b : Array Nat) (ds : List DI) : Bool :=
  ds.all (fun x => ds.all fun y => x.ix == y.ix || pairD b x y) && ds.all oneD && edgesD ops

def disD (ops : Array Oper) (is : List AIns) : List DI :=
  (is.zip ops.toList).zipIdx.map fun x => ⟨x.2, x.1.1, isAssign x.1.2.op || !x.1.1.op.quietB⟩

def compD (n : Nat) (ops : Array Oper) : Option DT :=
  (compInsL P ext n ops ops.toList).bind fun is =>
    if saneD ops (Region.before ops) (disD ops is) then some (gen (Region.before ops) (disD ops is).length [] (disD ops is)) else none

end
end Go.Abs
