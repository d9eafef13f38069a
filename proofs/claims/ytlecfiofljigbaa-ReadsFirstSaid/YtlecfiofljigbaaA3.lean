/-
  The plain form of a function's code, with the tables looked up, and what its operations do to the abstract heap.
-/
import Derived.Test.YtlecfiofljigbaaA2
set_option linter.unusedSimpArgs false
set_option linter.unusedVariables false
set_option linter.unnecessarySimpa false
set_option linter.unusedSectionVars false
namespace Go.Abs

/-- An operand: a slot, a constant that names no block, a function. -/
inductive Opd where
  | t (n : Nat)
  | k (v : Value)
  | f (n : FuncId)
  deriving Inhabited

def upd (tm : Nat → Value) (d : Nat) (v : Value) : Nat → Value := fun j => if j = d then v else tm j

def Opd.ev (tm : Nat → Value) : Opd → Value
  | .t n => tm n
  | .k v => v
  | .f n => .func (.func n) #[] #[]

/-- How two values are held against each other. -/
inductive Sh where
  | bool | int | str | ptr | slc | mp | fnc
  | st (fs : List (Nat × Nat × Bool × Sh))
  | ar (n sz : Nat) (ag : Bool) (s : Sh)
  deriving Inhabited

def partOf (ag : Bool) (off sz : Nat) (cs : List Value) : Option Value :=
  if ag then some (.agg ((cs.drop off).take sz).toArray) else cs[off]?

def eqBool : Value → Value → Option Bool
  | .bool a, .bool b => some (a == b)
  | _, _ => none
def eqInt : Value → Value → Option Bool
  | .int k a, .int k' b => if k = k' then some (a == b) else none
  | _, _ => none
def eqStr : Value → Value → Option Bool
  | .string a, .string b => some (a.toList == b.toList)
  | _, _ => none
def eqPtr : Value → Value → Option Bool
  | .pointer none, .pointer b => some b.isNone
  | .pointer (some _), .pointer none => some false
  | _, _ => none
/-- A slice without elements may be nil. -/
def eqSlc : Value → Value → Option Bool
  | .slice none _ _, .slice none _ _ => some true
  | .slice none _ _, .slice (some _) n c => if 0 < n ∨ 2 ≤ c then some false else none
  | .slice (some _) n c, .slice none _ _ => if 0 < n ∨ 2 ≤ c then some false else none
  | _, _ => none
def eqMp : Value → Value → Option Bool
  | .map none, .map b => some b.isNone
  | .map (some _), .map none => some false
  | _, _ => none
def eqFnc : Value → Value → Option Bool
  | .nilFunc, .nilFunc => some true
  | .nilFunc, .func .. => some false
  | .func .., .nilFunc => some false
  | _, _ => none
def aggOf2 : Value → Value → Option (List Value × List Value)
  | .agg xs, .agg ys => some (xs.toList, ys.toList)
  | _, _ => none

mutual
def aeq (s : Sh) (x y : Value) : Option Bool :=
  match s with
  | .bool => eqBool x y
  | .int => eqInt x y
  | .str => eqStr x y
  | .ptr => eqPtr x y
  | .slc => eqSlc x y
  | .mp => eqMp x y
  | .fnc => eqFnc x y
  | .st fs => match aggOf2 x y with
    | some (xs, ys) => aeqF fs xs ys
    | none => none
  | .ar n sz ag s => match aggOf2 x y with
    | some (xs, ys) => aeqA n sz ag s 0 xs ys
    | none => none
def aeqF : List (Nat × Nat × Bool × Sh) → List Value → List Value → Option Bool
  | [], _, _ => some true
  | (off, sz, ag, s) :: fs, xs, ys =>
    match partOf ag off sz xs, partOf ag off sz ys with
    | some x, some y => match aeq s x y with
      | some true => aeqF fs xs ys
      | some false => some false
      | none => none
    | _, _ => none
def aeqA (n sz : Nat) (ag : Bool) (s : Sh) (i : Nat) (xs ys : List Value) : Option Bool :=
  match n with
  | 0 => some true
  | n + 1 =>
    match partOf ag (i * sz) sz xs, partOf ag (i * sz) sz ys with
    | some x, some y => match aeq s x y with
      | some true => aeqA n sz ag s (i + 1) xs ys
      | some false => some false
      | none => none
    | _, _ => none
end

/-- Numbers, texts, floats. -/
def abin (op : BinOp) (x y : Value) : Option Value :=
  match x, y with
  | .int k a, .int k' b =>
    match op with
    | .shl => if b < 0 then none else some (.int k (k.wrap (a * 2 ^ min b.toNat k.bits)))
    | .shr => if b < 0 then none else some (.int k (a.fdiv (2 ^ min b.toNat k.bits)))
    | op => if k ≠ k' then none else
      match op with
      | .add => some (.int k (k.wrap (a + b)))
      | .sub => some (.int k (k.wrap (a - b)))
      | .mul => some (.int k (k.wrap (a * b)))
      | .quo => if b = 0 then none else some (.int k (k.wrap (a.tdiv b)))
      | .rem => if b = 0 then none else some (.int k (a.tmod b))
      | .and => some (.int k (k.wrap (BitVec.ofInt k.bits a &&& BitVec.ofInt k.bits b).toNat))
      | .or => some (.int k (k.wrap (BitVec.ofInt k.bits a ||| BitVec.ofInt k.bits b).toNat))
      | .xor => some (.int k (k.wrap (BitVec.ofInt k.bits a ^^^ BitVec.ofInt k.bits b).toNat))
      | .andNot => some (.int k (k.wrap (BitVec.ofInt k.bits a &&& ~~~BitVec.ofInt k.bits b).toNat))
      | .eql => some (.bool (a == b))
      | .neq => some (.bool (a != b))
      | .lss => some (.bool (a < b))
      | .leq => some (.bool (a ≤ b))
      | .gtr => some (.bool (a > b))
      | .geq => some (.bool (a ≥ b))
      | _ => none
  | .float k a, .float k' b => if k ≠ k' then none else
    match op with
    | .eql => some (.bool (k.format.order a b == some .eq))
    | .neq => some (.bool (k.format.order a b != some .eq))
    | .lss => some (.bool (k.format.order a b == some .lt))
    | .leq => some (.bool (k.format.order a b == some .lt || k.format.order a b == some .eq))
    | .gtr => some (.bool (k.format.order a b == some .gt))
    | .geq => some (.bool (k.format.order a b == some .gt || k.format.order a b == some .eq))
    | _ => none
  | .string a, .string b =>
    match op with
    | .add => if a.size + b.size ≤ 9223372036854775807 then some (.string (a ++ b)) else none
    | .eql => some (.bool (a.toList == b.toList))
    | .neq => some (.bool !(a.toList == b.toList))
    | .lss => some (.bool (Op.bytesLess a.toList b.toList))
    | .leq => some (.bool (Op.bytesLess a.toList b.toList || a.toList == b.toList))
    | .gtr => some (.bool !(Op.bytesLess a.toList b.toList || a.toList == b.toList))
    | .geq => some (.bool !Op.bytesLess a.toList b.toList)
    | _ => none
  | _, _ => none

def aun (op : UnOp) (x : Value) : Option Value :=
  match op, x with
  | .neg, .int k n => some (.int k (k.wrap (0 - n)))
  | .xor, .int k n => some (.int k (k.wrap (BitVec.ofInt k.bits (if k.signed then -1 else k.max) ^^^ BitVec.ofInt k.bits n).toNat))
  | .not, .bool b => some (.bool !b)
  | .neg, .float k b => some (.float k (Op.negFloat k b))
  | _, _ => none

inductive AConv where
  | int (k : IntKind)          -- of a whole number
  | same                       -- a text as a text
  | str (e : TypeId)           -- bytes as a text
  | bytes (e : TypeId)         -- a text as bytes
  deriving Inhabited

inductive AOp where
  | mv (x : Opd)
  | pick (c a b : Opd)
  | alloc (e : TypeId) (z : List Value)
  | box (e : TypeId) (x : Opd)
  | build (z : List Value) (ps : List (Nat × Nat × Opd))
  | bslice (e : TypeId) (z : List Value) (n : Nat) (ps : List (Nat × Nat × Opd))
  | load (a : Opd)
  | loadN (n : Nat) (a : Opd)
  | store (n : Nat) (a x : Opd)
  | nilchk (x : Opd)
  | bin (op : BinOp) (x y : Opd)
  | eq (neg : Bool) (s : Sh) (x y : Opd)
  | un (op : UnOp) (x : Opd)
  | conv (c : AConv) (x : Opd)
  | mkfunc (f : FuncId) (first cap : List Opd)
  | mkiface (t : TypeId) (x : Opd)
  | mkmap
  | mkslice (e : TypeId) (z : List Value) (bytes : Nat) (l c : Opd)
  | slice (sz : Nat) (x : Opd) (lo hi mx : Option Opd)
  | sliceS (x : Opd) (lo hi : Option Opd)
  | faddr (off : Nat) (x : Opd)
  | field (ag : Bool) (off sz : Nat) (x : Opd)
  | iaddrS (sz : Nat) (x i : Opd)
  | iaddrA (n sz : Nat) (x i : Opd)
  | indexA (n sz : Nat) (ag : Bool) (x i : Opd)
  | indexS (x i : Opd)
  | lookup (s : Bool) (z : Value) (ok : Bool) (m k : Opd)     -- s: are the keys texts (else numbers)?
  | mapupd (s : Bool) (m k v : Opd)
  | extract (x : Opd) (i : Nat)
  | append (e : TypeId) (sz bytes : Nat) (s x : Opd)
  | lenS (x : Opd)             -- of a slice
  | lenT (x : Opd)             -- of a text
  | lenM (x : Opd)             -- of a map
  | lenK (n : Nat)             -- of an array
  | delete (s : Bool) (m k : Opd)
  | clearM (m : Opd)
  | max (x y : Opd)
  | min (x y : Opd)
  | frombits (x : Opd)
  | tobits (x : Opd)
  deriving Inhabited

section
variable {D : Type}

/-- The cells of a row. -/
def AH.row (H : AH D) (k : Nat) : Option (List Value) :=
  match H.get k with
  | some (.arr _ cs) => some cs
  | some (.ro cs) => some cs
  | _ => none

def AH.many (H : AH D) (k o n : Nat) : Option (List Value) :=
  match H.row k with
  | some cs => if o + n ≤ cs.length then some ((cs.drop o).take n) else none
  | none => none

def setMany (cs : List Value) (o : Nat) : List Value → List Value
  | [] => cs
  | v :: l => setMany (cs.set o v) (o + 1) l

def fillL (cells : List Value) : List (Nat × Nat × Value) → Option (List Value)
  | [] => some cells
  | (off, size, v) :: rest =>
    if v.cells.size ≠ size || off + v.cells.size > cells.length then none
    else fillL (setMany cells off v.cells.toList) rest

/-- Are two keys the same? (s: texts; else numbers) -/
def sameK (s : Bool) : Value → Value → Option Bool
  | .int k a, .int k' b => if s then none else if k = k' then some (a == b) else none
  | .string a, .string b => if s then some (a == b) else none
  | _, _ => none

def findIn (s : Bool) (k : Value) : List MapEntry → Option (Option Value)
  | [] => some none
  | e :: es => match sameK s k e.key with
    | some true => some (some e.val)
    | some false => findIn s k es
    | none => none

def putIn (s : Bool) (k v : Value) (clock : Nat) : List MapEntry → Option (List MapEntry × Nat)
  | [] => some ([⟨k, v, clock⟩], clock + 1)
  | e :: es => match sameK s k e.key with
    | some true => some (⟨k, v, e.born⟩ :: es, clock)
    | some false => (putIn s k v clock es).map fun r => (e :: r.1, r.2)
    | none => none

def delIn (s : Bool) (k : Value) : List MapEntry → Option (List MapEntry)
  | [] => some []
  | e :: es => match sameK s k e.key with
    | some true => some es
    | some false => (delIn s k es).map (e :: ·)
    | none => none

def AH.mapAt (H : AH D) (k : Nat) : Option (List MapEntry × Nat) :=
  match H.get k with
  | some (.map es c) => some (es, c)
  | _ => none

/-- A slice's bounds: all or nothing. -/
def bound (y : Nat) : Value → Option Nat
  | .int _ i => if 0 ≤ i ∧ i ≤ y then some i.toNat else none
  | _ => none

def intOf? : Value → Option Int
  | .int _ i => some i
  | _ => none

def bytesOf? : List Value → Option (List UInt8)
  | [] => some []
  | .int .u8 n :: l => (bytesOf? l).map (UInt8.ofNat n.toNat :: ·)
  | _ :: _ => none

def adds (a : Nat) (o n : Nat) (m : Nat) : Option Addr := some ⟨a, o + m * n, none⟩

/-- What is appended: the cells of a slice, or a text's bytes. -/
def newsOf (H : AH D) (sz : Nat) : Value → Option (Nat × List Value)
  | .slice none 0 _ => some (0, [])
  | .slice (some ⟨k, o, none⟩) m _ => (H.many k o (m * sz)).map fun l => (m, l)
  | _ => none

/-- What a key has, or what none has. -/
def lookV (z : Value) (ok : Bool) (o : Option Value) : Value := if ok then .tuple #[o.getD z, .bool o.isSome] else o.getD z

/-- AN OPERATION THAT CALLS NOTHING: its value, and the heap behind it. -/
def AOp.step (op : AOp) (tm : Nat → Value) (H : AH D) : Option (Value × AH D) :=
  match op with
  | .mv x => some (x.ev tm, H)
  | .pick c a b => match c.ev tm with
    | .bool c => some (if c then a.ev tm else b.ev tm, H)
    | _ => none
  | .alloc e z => some (.pointer (some ⟨H.next, 0, none⟩), H.add (.arr e z))
  | .box e x => if (x.ev tm).cells.toList.all (·.oneCell') then some (.pointer (some ⟨H.next, 0, none⟩), H.add (.arr e (x.ev tm).cells.toList)) else none
  | .build z ps => (fillL z (ps.map fun p => (p.1, p.2.1, p.2.2.ev tm))).map fun l => (.agg l.toArray, H)
  | .bslice e z n ps => match fillL z (ps.map fun p => (p.1, p.2.1, p.2.2.ev tm)) with
    | some l => if l.all (·.oneCell') then some (.slice (some ⟨H.next, 0, none⟩) n 1, H.add (.arr e l)) else none
    | none => none
  | .load a => match a.ev tm with
    | .pointer (some ⟨k, o, none⟩) => match H.row k with
      | some cs => (cs[o]?).map fun v => (v, H)
      | none => none
    | _ => none
  | .loadN n a => match a.ev tm with
    | .pointer (some ⟨k, o, none⟩) => (H.many k o n).map fun l => (.agg l.toArray, H)
    | _ => none
  | .store n a x => match a.ev tm with
    | .pointer (some ⟨k, o, none⟩) => match H.get k with
      | some (.arr e cs) =>
        if (x.ev tm).cells.size = n ∧ o + n ≤ cs.length ∧ (x.ev tm).cells.toList.all (·.oneCell') then
          some (undef, H.upd k (.arr e (setMany cs o (x.ev tm).cells.toList)))
        else none
      | _ => none
    | _ => none
  | .nilchk x => match x.ev tm with
    | .pointer (some a) => some (.pointer (some a), H)
    | .func (.func f) a b => some (.func (.func f) a b, H)
    | _ => none
  | .bin op x y => (abin op (x.ev tm) (y.ev tm)).map fun v => (v, H)
  | .eq neg s x y => (aeq s (x.ev tm) (y.ev tm)).map fun b => (.bool (if neg then !b else b), H)
  | .un op x => (aun op (x.ev tm)).map fun v => (v, H)
  | .conv c x => match c, x.ev tm with
    | .int k, .int _ n => some (.int k (k.wrap n), H)
    | .same, .string s => some (.string s, H)
    | _, _ => none
  | .mkfunc f first cap => some (.func (.func f) (first.map (·.ev tm)).toArray (cap.map (·.ev tm)).toArray, H)
  | .mkiface t x => some (.iface t (x.ev tm), H)
  | .mkmap => some (.map (some H.next), H.add (.map [] 0))
  | .mkslice e z bytes l c => match l.ev tm, c.ev tm with
    | .int _ l, .int _ c => if 0 ≤ l ∧ l ≤ c ∧ bytes * c ≤ 140737488355328 ∧ c ≤ 9223372036854775807 then
        some (.slice (some ⟨H.next, 0, none⟩) l.toNat 1, H.add (.arr e (List.replicate c.toNat z).flatten))
      else none
    | _, _ => none
  | .slice sz x lo hi mx => match x.ev tm with
    | .slice a n c =>
      match (match hi with | some h => bound n (h.ev tm) | none => some n) with
      | some h =>
        match (match mx with | some m => bound n (m.ev tm) | none => some h) with
        | some m =>
          match (match lo with | some l => bound h (l.ev tm) | none => some 0) with
          | some l =>
            if h ≤ m ∧ (mx.isNone ∨ (hi.isSome ∧ 0 < n)) then
              match a with
              | some ⟨k, o, none⟩ =>
                some (.slice (some ⟨k, o + l * sz, none⟩) (h - l) (if mx.isSome then m - l + 2 else if l = 0 then c else 0), H)
              | none => if n = 0 ∧ c = 0 ∧ mx.isNone then some (.slice none 0 0, H) else none
              | _ => none
            else none
          | none => none
        | none => none
      | none => none
    | _ => none
  | .sliceS x lo hi => match x.ev tm with
    | .string s =>
      match (match hi with | some h => bound s.size (h.ev tm) | none => some s.size) with
      | some h => match (match lo with | some l => bound h (l.ev tm) | none => some 0) with
        | some l => some (.string (s.extract l h), H)
        | none => none
      | none => none
    | _ => none
  | .faddr off x => match x.ev tm with
    | .pointer (some ⟨k, o, none⟩) => some (.pointer (some ⟨k, o + off, none⟩), H)
    | _ => none
  | .field ag off sz x => match x.ev tm with
    | .agg cs => (partOf ag off sz cs.toList).map fun v => (v, H)
    | _ => none
  | .iaddrS sz x i => match x.ev tm, i.ev tm with
    | .slice (some ⟨k, o, none⟩) n _, .int _ i => if 0 ≤ i ∧ i < n then some (.pointer (some ⟨k, o + i.toNat * sz, none⟩), H) else none
    | _, _ => none
  | .iaddrA n sz x i => match x.ev tm, i.ev tm with
    | .pointer (some ⟨k, o, none⟩), .int _ i => if 0 ≤ i ∧ i < n then some (.pointer (some ⟨k, o + i.toNat * sz, none⟩), H) else none
    | _, _ => none
  | .indexA n sz ag x i => match x.ev tm, i.ev tm with
    | .agg cs, .int _ i => if 0 ≤ i ∧ i < n then (partOf ag (i.toNat * sz) sz cs.toList).map fun v => (v, H) else none
    | _, _ => none
  | .indexS x i => match x.ev tm, i.ev tm with
    | .string s, .int _ i => if 0 ≤ i then (s.data.toList[i.toNat]?).map fun b => (.int .u8 b.toNat, H) else none
    | _, _ => none
  | .lookup s z ok m k => match m.ev tm with
    | .map none => some (lookV z ok none, H)
    | .map (some r) => match H.mapAt r with
      | some (es, _) => (findIn s (k.ev tm) es).map fun o => (lookV z ok o, H)
      | none => none
    | _ => none
  | .mapupd s m k v => match m.ev tm with
    | .map (some r) => match H.mapAt r with
      | some (es, c) => (putIn s (k.ev tm) (v.ev tm) c es).map fun x => (undef, H.upd r (.map x.1 x.2))
      | none => none
    | _ => none
  | .extract x i => match x.ev tm with
    | .tuple vs => (vs.toList[i]?).map fun v => (v, H)
    | _ => none
  | .append e sz bytes s x => match newsOf H sz (x.ev tm) with
    | some (m, news) =>
      match s.ev tm with
      | .slice none 0 0 => if m = 0 then some (.slice none 0 0, H) else
          if m * bytes ≤ 140737488355328 ∧ m ≤ 9223372036854775807 then some (.slice (some ⟨H.next, 0, none⟩) m 1, H.add (.arr e news)) else none
      | .slice (some ⟨k, 0, none⟩) n 1 => match H.get k with
        | some (.arr e' cs) => if e' = e ∧ n * sz ≤ cs.length ∧ (n + m) * bytes ≤ 140737488355328 ∧ n + m ≤ 9223372036854775807 then
            some (.slice (some ⟨H.next, 0, none⟩) (n + m) 1, (H.del k).add (.arr e (cs.take (n * sz) ++ news)))
          else none
        | _ => none
      | .slice (some ⟨k, o, none⟩) n (c + 2) =>
        if m = 0 then (if n ≤ c then some (.slice (some ⟨k, o, none⟩) n (c + 2), H) else none)
        else if c < n + m ∧ (n + m) * bytes ≤ 140737488355328 ∧ n + m ≤ 9223372036854775807 then
          match H.many k o (n * sz) with
          | some olds => some (.slice (some ⟨H.next, 0, none⟩) (n + m) 1, H.add (.arr e (olds ++ news)))
          | none => none
        else none
      | _ => none
    | none => none
  | .lenS x => match x.ev tm with
    | .slice _ n _ => some (.int .i64 n, H)
    | _ => none
  | .lenT x => match x.ev tm with
    | .string s => some (.int .i64 s.size, H)
    | _ => none
  | .lenM x => match x.ev tm with
    | .map none => some (.int .i64 0, H)
    | .map (some r) => match H.mapAt r with
      | some (es, _) => some (.int .i64 es.length, H)
      | none => none
    | _ => none
  | .lenK n => some (.int .i64 n, H)
  | .delete s m k => match m.ev tm with
    | .map (some r) => match H.mapAt r with
      | some (es, c) => (delIn s (k.ev tm) es).map fun l => (.tuple #[], H.upd r (.map l c))
      | none => none
    | _ => none
  | .clearM m => match m.ev tm with
    | .map none => some (.tuple #[], H)
    | .map (some r) => match H.mapAt r with
      | some (_, c) => some (.tuple #[], H.upd r (.map [] c))
      | none => none
    | _ => none
  | .max x y => match x.ev tm, y.ev tm with
    | .int k a, .int _ b => some (.int k (if b > a then b else a), H)
    | _, _ => none
  | .min x y => match x.ev tm, y.ev tm with
    | .int k a, .int _ b => some (.int k (if b < a then b else a), H)
    | _, _ => none
  | .frombits x => match x.ev tm with
    | .int .u64 n => some (.float .f64 n.toNat, H)
    | _ => none
  | .tobits x => match x.ev tm with
    | .float .f64 n => some (.int .u64 n, H)
    | _ => none

end
end Go.Abs
