/-
  From the loaded program's operations to the plain form.
-/
import Derived.Test.YtlecfiofljigbaaA3
set_option linter.unusedSimpArgs false
set_option linter.unusedVariables false
set_option linter.unnecessarySimpa false
set_option linter.unusedSectionVars false
namespace Go.Abs

/-- Functions without a Go body that the plain form knows. -/
inductive Ext1 where
  | frombits | tobits
  deriving DecidableEq

def Ext1.sem : Ext1 → Array Value → Sem Value
  | .frombits => Extern.MathFloatBits.float64frombits
  | .tobits => Extern.MathFloatBits.float64bits

def opdOf (n : Nat) : Operand → Option Opd
  | .tmp t => if t < n then some (.t t) else none
  | .const v => if ground v then some (.k v) else none
  | .func f => some (.f f)
  | .global _ => none

def opdsOf (n : Nat) : List Operand → Option (List Opd)
  | [] => some []
  | x :: l => (opdOf n x).bind fun y => (opdsOf n l).map (y :: ·)

section
variable (P : Program)

def szOf (t : TypeId) : Option Nat := (P.info? t).map (·.size)
def aggOf (t : TypeId) : Option Bool := (P.underlying t).map fun
  | .struct _ | .array _ _ => true
  | _ => false
/-- A type's zero value, its cells. -/
def zeroOf (t : TypeId) : Option Value := (P.info? t).bind fun i => i.zero.bind fun z =>
  if ground z ∧ z.cells.toList.all (·.oneCell') ∧ z.cells.size = i.size then some z else none

def shFs (g : TypeId → Option Sh) : List Field → Option (List (Nat × Nat × Bool × Sh))
  | [] => some []
  | f :: fs =>
    if f.name = "_" then shFs g fs
    else (g f.type).bind fun s => (szOf P f.type).bind fun z => (aggOf P f.type).bind fun ag => (shFs g fs).map fun r => (f.offset, z, ag, s) :: r

def shOf : Nat → TypeId → Option Sh
  | 0, _ => none
  | d + 1, t =>
    match P.underlying t with
    | some .bool => some .bool
    | some (.int _) => some .int
    | some .string => some .str
    | some (.pointer _) => some .ptr
    | some (.slice _) => some .slc
    | some (.map _ _) => some .mp
    | some (.func _ _ _) => some .fnc
    | some (.struct fs) => if P.stoodInHeld t then none else (shFs P (shOf d) fs.toList).map .st
    | some (.array n e) => (shOf d e).bind fun s => (szOf P e).bind fun z => (aggOf P e).map fun g => .ar n z g s
    | _ => none

def partsOf (n : Nat) (place : Nat → Option (Nat × Nat)) : List (Nat × Operand) → Option (List (Nat × Nat × Opd))
  | [] => some []
  | (i, x) :: l => (place i).bind fun p => (opdOf n x).bind fun y => (partsOf n place l).map fun r => (p.1, p.2, y) :: r

/-- Where a struct's fields lie. -/
def placesOf : List Field → Option (List (Nat × Nat))
  | [] => some []
  | f :: fs => (szOf P f.type).bind fun z => (placesOf fs).map fun r => (f.offset, z) :: r

/-- What kind of keys: texts (true), numbers (false). -/
def keyKind (t : TypeId) : Option Bool := match P.underlying t with
  | some (.int _) => some false
  | some .string => some true
  | _ => none

def optOpd (n : Nat) : Option Operand → Option (Option Opd)
  | none => some none
  | some x => (opdOf n x).map some

variable (ext : FuncId → Option Ext1)

def compCall (n : Nat) (c : Call) : Option AOp :=
  match c.callee with
  | .value (.func f) =>
    match ext f, c.args.toList with
    | some .frombits, [x] => (opdOf n x).map .frombits
    | some .tobits, [x] => (opdOf n x).map .tobits
    | _, _ => none
  | .value _ => none
  | .builtin .append =>
    match c.args.toList, c.argTypes.toList with
    | [s, x], [t, t'] => if t = t' then
        match P.underlying t with
        | some (.slice e) => (P.info? e).bind fun i => (opdOf n s).bind fun s => (opdOf n x).bind fun x =>
          if 0 < i.size ∧ (zeroOf P e).isSome then some (.append e i.size i.bytes s x) else none
        | _ => none
      else none
    | _, _ => none
  | .builtin .len =>
    match c.args.toList, c.argTypes[0]? with
    | [x], some t => (opdOf n x).bind fun x =>
      match P.underlying t with
      | some (.slice _) => some (.lenS x)
      | some .string => some (.lenT x)
      | some (.map _ _) => some (.lenM x)
      | some (.array k _) => some (.lenK k)
      | _ => none
    | _, _ => none
  | .builtin .delete =>
    match c.args.toList, c.argTypes[0]? with
    | [m, k], some t => (opdOf n m).bind fun m => (opdOf n k).bind fun k =>
      match P.underlying t with
      | some (.map kt _) => (keyKind P kt).map fun s => .delete s m k
      | _ => none
    | _, _ => none
  | .builtin .clear =>
    match c.args.toList, c.argTypes[0]? with
    | [m], some t => (opdOf n m).bind fun m =>
      match P.underlying t with
      | some (.map _ _) => some (.clearM m)
      | _ => none
    | _, _ => none
  | .builtin .max => match c.args.toList with
    | [x, y] => (opdOf n x).bind fun x => (opdOf n y).map fun y => .max x y
    | _ => none
  | .builtin .min => match c.args.toList with
    | [x, y] => (opdOf n x).bind fun x => (opdOf n y).map fun y => .min x y
    | _ => none
  | _ => none

def compOp (n : Nat) (o : Oper) : Option AOp :=
  match o.op with
  | .move x | .assign x => (opdOf n x).map .mv
  | .pick c a b => (opdOf n c).bind fun c => (opdOf n a).bind fun a => (opdOf n b).map fun b => .pick c a b
  | .alloc e => (zeroOf P e).map fun z => .alloc e z.cells.toList
  | .box e x => (opdOf n x).map fun x => .box e x
  | .build t parts => (zeroOf P t).bind fun z =>
    match P.underlying t with
    | some (.struct fs) => (placesOf P fs.toList).bind fun pl => (partsOf n (fun i => pl[i]?) parts.toList).map fun ps => .build z.cells.toList ps
    | some (.array _ e) => (szOf P e).bind fun s => (partsOf n (fun i => some (i * s, s)) parts.toList).map fun ps => .build z.cells.toList ps
    | _ => none
  | .buildSlice t len parts =>
    match P.underlying t with
    | some (.slice e) => (szOf P e).bind fun s => (zeroOf P e).bind fun z =>
      if len ≤ 16777216 ∧ len * s ≤ 16777216 then
        (partsOf n (fun i => some (i * s, s)) parts.toList).map fun ps => .bslice e (List.replicate len z.cells.toList).flatten len ps
      else none
    | _ => none
  | .load t a => (aggOf P t).bind fun g => (opdOf n a).bind fun a => if g then (szOf P t).map fun s => .loadN s a else some (.load a)
  | .store t a x => (szOf P t).bind fun s => (opdOf n a).bind fun a => (opdOf n x).map fun x => .store s a x
  | .nilCheck x => (opdOf n x).map .nilchk
  | .binOp op t x y _ => (opdOf n x).bind fun x' => (opdOf n y).bind fun y' =>
    match P.underlying t with
    | some (.int _) | some (.float _) | some .string => some (.bin op x' y')
    | some _ =>
      match op with
      | .eql => if P.eqGuardType P.depth t then none else (shOf P 20 t).map fun s => .eq false s x' y'
      | .neq => if P.eqGuardType P.depth t then none else (shOf P 20 t).map fun s => .eq true s x' y'
      | _ => none
    | none => none
  | .unOp op _ x => (opdOf n x).map fun x => .un op x
  | .convert src dst x => (opdOf n x).bind fun x =>
    match P.underlying src, P.underlying dst with
    | some (.int _), some (.int k) => some (.conv (.int k) x)
    | some .string, some .string => some (.conv .same x)
    | _, _ => none
  | .makeInterface t x => match P.underlying t with
    | some (.interface _) => none
    | some _ => (opdOf n x).map fun x => .mkiface t x
    | none => none
  | .makeFunc (.func f) first cap => (opdsOf n first.toList).bind fun a => (opdsOf n cap.toList).map fun b => .mkfunc f a b
  | .makeMap _ none => some .mkmap
  | .makeSlice t l c =>
    match P.underlying t with
    | some (.slice e) => (P.info? e).bind fun i => (zeroOf P e).bind fun z => (opdOf n l).bind fun l => (opdOf n c).map fun c => .mkslice e z.cells.toList i.bytes l c
    | _ => none
  | .slice t x lo hi mx =>
    match P.underlying t with
    | some (.slice e) => (szOf P e).bind fun s => (opdOf n x).bind fun x => (optOpd n lo).bind fun lo => (optOpd n hi).bind fun hi => (optOpd n mx).map fun mx => .slice s x lo hi mx
    | some .string => (opdOf n x).bind fun x => (optOpd n lo).bind fun lo => (optOpd n hi).bind fun hi => if mx.isSome then none else some (.sliceS x lo hi)
    | _ => none
  | .fieldAddr s x f => match P.underlying s with
    | some (.struct fs) => (fs[f]?).bind fun f => (szOf P f.type).bind fun z => if z = 0 then none else (opdOf n x).map fun x => .faddr f.offset x
    | _ => none
  | .field t x f => match P.underlying t with
    | some (.struct fs) => (fs[f]?).bind fun f => (szOf P f.type).bind fun z => (aggOf P f.type).bind fun g => (opdOf n x).map fun x => .field g f.offset z x
    | _ => none
  | .indexAddr t x i => (opdOf n x).bind fun x => (opdOf n i).bind fun i =>
    match P.underlying t with
    | some (.slice e) => (szOf P e).map fun s => .iaddrS s x i
    | some (.array k e) => (szOf P e).map fun s => .iaddrA k s x i
    | _ => none
  | .index t x i => (opdOf n x).bind fun x => (opdOf n i).bind fun i =>
    match P.underlying t with
    | some (.array k e) => (szOf P e).bind fun s => (aggOf P e).map fun g => .indexA k s g x i
    | some .string => some (.indexS x i)
    | _ => none
  | .lookup t m k ok => (opdOf n m).bind fun m => (opdOf n k).bind fun k =>
    match P.underlying t with
    | some (.map kt e) => (keyKind P kt).bind fun s => (zeroOf P e).map fun z => .lookup s z ok m k
    | _ => none
  | .mapUpdate t m k v | .insert t m k v => (opdOf n m).bind fun m => (opdOf n k).bind fun k => (opdOf n v).bind fun v =>
    match P.underlying t with
    | some (.map kt _) => (keyKind P kt).map fun s => .mapupd s m k v
    | _ => none
  | .extract x i => (opdOf n x).map fun x => .extract x i
  | .call c => compCall P ext n c
  | _ => none

end

/-! ### Operands -/

/-- A frame read over the table of places. -/
def TmRel (ρ : Env) (n : Nat) (tm : Nat → Value) (tmps : Array Value) : Prop := tmps.size = n ∧ ∀ t, t < n → VR ρ (tm t) (tmps.getD t undef)

theorem TmRel.mono {ρ ρ' : Env} {n : Nat} {tm : Nat → Value} {tmps : Array Value} (h : TmRel ρ n tm tmps) (hle : ρ.le ρ') : TmRel ρ' n tm tmps :=
  ⟨h.1, fun t ht => (h.2 t ht).mono hle⟩

theorem TmRel.put {ρ : Env} {n : Nat} {tm : Nat → Value} {tmps : Array Value} (h : TmRel ρ n tm tmps) {d : Nat} {v v' : Value} (hv : VR ρ v v') :
    TmRel ρ n (upd tm d v) (tmps.setIfInBounds d v') := by
  refine ⟨by simp [h.1], fun t ht => ?_⟩
  unfold upd
  split
  · rename_i e; subst e
    have hs : t < tmps.size := by rw [h.1]; exact ht
    simpa [hs] using hv
  · rename_i hne
    have := h.2 t ht
    simpa [Array.getElem?_setIfInBounds_ne (Ne.symm hne)] using this

theorem opd_ok {ρ : Env} {n : Nat} {tm : Nat → Value} {a : Act} (htm : TmRel ρ n tm a.tmps) {x : Operand} {y : Opd} (h : opdOf n x = some y) : VR ρ (y.ev tm) (a.eval x) := by
  cases x with
  | tmp t =>
    simp only [opdOf] at h
    split at h
    · rename_i ht; cases h; exact htm.2 t ht
    · cases h
  | const v =>
    simp only [opdOf] at h
    split at h
    · rename_i hg; cases h; exact VR.of_ground ρ v hg
    · cases h
  | func f => simp only [opdOf] at h; cases h; exact .func f _ _ _ _ .nil .nil
  | global g => simp [opdOf] at h

theorem opds_ok {ρ : Env} {n : Nat} {tm : Nat → Value} {a : Act} (htm : TmRel ρ n tm a.tmps) : ∀ {l : List Operand} {ys : List Opd}, opdsOf n l = some ys →
    VRs ρ (ys.map (·.ev tm)) (l.map a.eval)
  | [], ys, h => by simp [opdsOf] at h; subst h; exact .nil
  | x :: l, ys, h => by
    simp only [opdsOf, Option.bind_eq_some_iff, Option.map_eq_some_iff] at h
    obtain ⟨y, hy, r, hr, rfl⟩ := h
    exact .cons _ _ _ _ (opd_ok htm hy) (opds_ok htm hr)

end Go.Abs
