/-
  EVALUATION over heaps that are lists.
-/
import Derived.Test.YtlecfiofljigbaaA26
set_option linter.unusedSimpArgs false
set_option linter.unusedVariables false
set_option linter.unnecessarySimpa false
set_option linter.unusedSectionVars false
namespace Go.Abs

section
variable {D : Type}
theorem of_next (l : List (Option (AObj D))) : (AH.of l).next = l.length := rfl
theorem of_get (l : List (Option (AObj D))) (k : Nat) : (AH.of l).get k = (l[k]?).join := rfl
theorem of_add (l : List (Option (AObj D))) (o : AObj D) : (AH.of l).add o = AH.of (l ++ [some o]) := by
  refine AH.ext' (by simp [AH.of]) fun k => ?_
  rw [AH.get_add, of_get, of_get, of_next]
  by_cases hk : k = l.length
  · subst hk; simp
  · rw [if_neg hk]
    rcases Nat.lt_or_ge k l.length with h | h
    · rw [List.getElem?_append_left h]
    · rw [List.getElem?_append_right h, List.getElem?_eq_none h, List.getElem?_eq_none (by simp; omega)]
theorem of_upd (l : List (Option (AObj D))) (k : Nat) (o : AObj D) (h : k < l.length) : (AH.of l).upd k o = AH.of (l.set k (some o)) := by
  refine AH.ext' (by simp [AH.of]) fun j => ?_
  rw [AH.get_upd, of_get, of_get, List.getElem?_set]
  by_cases hj : j = k
  · subst hj; simp [h]
  · rw [if_neg hj, if_neg (fun e => hj e.symm)]
theorem of_del (l : List (Option (AObj D))) (k : Nat) : (AH.of l).del k = AH.of (l.set k none) := by
  refine AH.ext' (by simp [AH.of]) fun j => ?_
  rw [AH.get_del, of_get, of_get, List.getElem?_set]
  by_cases hj : j = k
  · subst hj; simp; split <;> rfl
  · rw [if_neg hj, if_neg (fun e => hj e.symm)]
theorem of_row (l : List (Option (AObj D))) (k : Nat) : (AH.of l).row k = match (l[k]?).join with
  | some (.arr _ cs) => some cs
  | some (.ro cs) => some cs
  | _ => none := rfl
theorem of_mapAt (l : List (Option (AObj D))) (k : Nat) : (AH.of l).mapAt k = match (l[k]?).join with
  | some (.map es c) => some (es, c)
  | _ => none := rfl
theorem of_many (l : List (Option (AObj D))) (k o n : Nat) : (AH.of l).many k o n = match (AH.of l).row k with
  | some cs => if o + n ≤ cs.length then some ((cs.drop o).take n) else none
  | none => none := rfl
end

/-! Cells -/
theorem cells_agg (x : Array Value) : Value.cells (.agg x) = x := rfl
theorem cells_bool (b : Bool) : Value.cells (.bool b) = #[(.bool b)] := rfl
theorem one_bool (b : Bool) : Value.oneCell' (.bool b) = true := rfl
theorem cells_int (k : IntKind) (n : Int) : Value.cells (.int k n) = #[(.int k n)] := rfl
theorem one_int (k : IntKind) (n : Int) : Value.oneCell' (.int k n) = true := rfl
theorem cells_float (k : FloatKind) (n : Nat) : Value.cells (.float k n) = #[(.float k n)] := rfl
theorem one_float (k : FloatKind) (n : Nat) : Value.oneCell' (.float k n) = true := rfl
theorem cells_string (s : ByteArray) : Value.cells (.string s) = #[(.string s)] := rfl
theorem one_string (s : ByteArray) : Value.oneCell' (.string s) = true := rfl
theorem cells_pointer (p : Option Addr) : Value.cells (.pointer p) = #[(.pointer p)] := rfl
theorem one_pointer (p : Option Addr) : Value.oneCell' (.pointer p) = true := rfl
theorem cells_slice (p : Option Addr) (n c : Nat) : Value.cells (.slice p n c) = #[(.slice p n c)] := rfl
theorem one_slice (p : Option Addr) (n c : Nat) : Value.oneCell' (.slice p n c) = true := rfl
theorem cells_map (m : Option Nat) : Value.cells (.map m) = #[(.map m)] := rfl
theorem one_map (m : Option Nat) : Value.oneCell' (.map m) = true := rfl
theorem cells_func (f : Fn) (x y : Array Value) : Value.cells (.func f x y) = #[(.func f x y)] := rfl
theorem one_func (f : Fn) (x y : Array Value) : Value.oneCell' (.func f x y) = true := rfl
theorem cells_nilFunc  : Value.cells .nilFunc = #[.nilFunc] := rfl
theorem one_nilFunc  : Value.oneCell' .nilFunc = true := rfl
theorem cells_nilIface  : Value.cells .nilIface = #[.nilIface] := rfl
theorem one_nilIface  : Value.oneCell' .nilIface = true := rfl
theorem cells_iface (t : TypeId) (v : Value) : Value.cells (.iface t v) = #[(.iface t v)] := rfl
theorem one_iface (t : TypeId) (v : Value) : Value.oneCell' (.iface t v) = true := rfl

/-! Numbers -/
def bAnd (k : IntKind) (a b : Int) : Int := k.wrap (BitVec.ofInt k.bits a &&& BitVec.ofInt k.bits b).toNat
def bOr (k : IntKind) (a b : Int) : Int := k.wrap (BitVec.ofInt k.bits a ||| BitVec.ofInt k.bits b).toNat
def bXor (k : IntKind) (a b : Int) : Int := k.wrap (BitVec.ofInt k.bits a ^^^ BitVec.ofInt k.bits b).toNat
def bAndNot (k : IntKind) (a b : Int) : Int := k.wrap (BitVec.ofInt k.bits a &&& ~~~BitVec.ofInt k.bits b).toNat
section
variable (k : IntKind) (a b : Int)
theorem abin_add : abin .add (.int k a) (.int k b) = some (.int k (k.wrap (a + b))) := by simp [abin]
theorem abin_sub : abin .sub (.int k a) (.int k b) = some (.int k (k.wrap (a - b))) := by simp [abin]
theorem abin_mul : abin .mul (.int k a) (.int k b) = some (.int k (k.wrap (a * b))) := by simp [abin]
theorem abin_quo : abin .quo (.int k a) (.int k b) = if b = 0 then none else some (.int k (k.wrap (a.tdiv b))) := by simp [abin]
theorem abin_rem : abin .rem (.int k a) (.int k b) = if b = 0 then none else some (.int k (a.tmod b)) := by simp [abin]
theorem abin_and : abin .and (.int k a) (.int k b) = some (.int k (bAnd k a b)) := by simp [abin, bAnd]
theorem abin_or : abin .or (.int k a) (.int k b) = some (.int k (bOr k a b)) := by simp [abin, bOr]
theorem abin_xor : abin .xor (.int k a) (.int k b) = some (.int k (bXor k a b)) := by simp [abin, bXor]
theorem abin_andNot : abin .andNot (.int k a) (.int k b) = some (.int k (bAndNot k a b)) := by simp [abin, bAndNot]
theorem abin_eql : abin .eql (.int k a) (.int k b) = some (.bool (decide (a = b))) := by simp [abin, Bool.beq_eq_decide_eq]
theorem abin_neq : abin .neq (.int k a) (.int k b) = some (.bool (decide (a ≠ b))) := by simp [abin, bne, Bool.beq_eq_decide_eq]
theorem abin_lss : abin .lss (.int k a) (.int k b) = some (.bool (decide (a < b))) := by simp [abin]
theorem abin_leq : abin .leq (.int k a) (.int k b) = some (.bool (decide (a ≤ b))) := by simp [abin]
theorem abin_gtr : abin .gtr (.int k a) (.int k b) = some (.bool (decide (b < a))) := by simp [abin]
theorem abin_geq : abin .geq (.int k a) (.int k b) = some (.bool (decide (b ≤ a))) := by simp [abin]
end

/-! Opening -/
section
variable {D : Type}
def addsO (θ : Nat → Nat) (H : AH D) : List (AObj D) → AH D
  | [] => H
  | o :: os => addsO θ (H.add (o.ren θ)) os
theorem addsO_next (θ : Nat → Nat) : ∀ (os : List (AObj D)) (H : AH D), (addsO θ H os).next = H.next + os.length
  | [], _ => rfl
  | o :: os, H => by rw [addsO, addsO_next θ os, AH.next_add, List.length_cons]; omega
theorem addsO_get (θ : Nat → Nat) (j : Nat) : ∀ (os : List (AObj D)) (H : AH D), (addsO θ H os).get j = if H.next ≤ j ∧ j < H.next + os.length then (os[j - H.next]?).map (·.ren θ) else H.get j
  | [], H => by rw [addsO, if_neg (by rw [List.length_nil]; omega)]
  | o :: os, H => by
    rw [addsO, addsO_get θ j os, AH.next_add, AH.get_add, List.length_cons]
    by_cases h : j = H.next
    · subst h
      rw [if_neg (by omega), if_pos rfl, if_pos (by omega), Nat.sub_self]; rfl
    · by_cases h2 : H.next + 1 ≤ j ∧ j < H.next + 1 + os.length
      · rw [if_pos h2, if_pos (by omega)]
        obtain ⟨m, hm⟩ : ∃ m, j - H.next = m + 1 := ⟨j - H.next - 1, by omega⟩
        rw [hm, List.getElem?_cons_succ]
        congr 2; omega
      · rw [if_neg h2, if_neg h, if_neg (by omega)]

/-- A datum, opened. -/
def openK (frag : D → List (AObj D)) (H : AH D) (k : Nat) : Option (AH D) :=
  match H.get k with
  | some (.hi d) => match frag d with
    | [] => none
    | o :: os => some (addsO (sh 1 H.next [k]) (H.upd k (o.ren (sh 1 H.next [k]))) os)
  | _ => none

variable {P : Program} {frag : D → List (AObj D)}
theorem openK_ok {H H1 : AH D} {k : Nat} (h : openK frag H k = some H1) : SeesG P (cfgOf P frag) H H1 := fun ρ own w hr => by
  unfold openK at h
  split at h
  case h_2 => cases h
  rename_i d hk
  split at h
  case h_1 => cases h
  rename_i o os hd
  cases h
  have hlt := hr.lt hk
  have := SeesG.open (P := P) (frag := frag) hk ρ own w hr
  have inj : ∀ i j, sh 1 H.next [k] i = sh 1 H.next [k] j → i = j := sh_inj (ks := [k]) (by simp) (by simpa using hlt)
  have he : H.emb (sh 1 H.next [k]) 1 (fragH frag d) = addsO (sh 1 H.next [k]) (H.upd k (o.ren (sh 1 H.next [k]))) os := by
    refine AH.ext' ?_ fun j => ?_
    · rw [addsO_next]
      simp only [AH.emb, AH.of, fragH, hd, AH.next_upd, List.length_map, List.length_cons]
      omega
    · rw [addsO_get, AH.next_upd, AH.get_upd]
      by_cases hj : ∃ i, sh 1 H.next [k] i = j
      · obtain ⟨i, rfl⟩ := hj
        rw [AH.emb_img inj, fragH_get, hd]
        rcases Nat.eq_zero_or_pos i with rfl | hi
        · rw [sh_lo (by omega)]
          simp only [List.getD_cons_zero, List.getElem?_cons_zero, Option.map_some, if_true]
          try rw [if_neg (by omega)]
        · rw [sh_hi (by omega)]
          obtain ⟨m, rfl⟩ : ∃ m, i = m + 1 := ⟨i - 1, by omega⟩
          rw [List.getElem?_cons_succ, Nat.add_sub_cancel]
          by_cases hm : m < os.length
          · rw [if_pos (by omega)]
            congr 2; omega
          · rw [if_neg (by omega), if_neg (by omega), List.getElem?_eq_none (by omega), hr.fresh _ (by omega)]; rfl
      · rw [AH.emb_oth hj]
        have hjk : j ≠ k := fun e => hj ⟨0, by rw [sh_lo (by omega), e]; rfl⟩
        have hjl : j < H.next := by
          refine Nat.lt_of_not_le fun hle => hj ⟨1 + (j - H.next), ?_⟩
          rw [sh_hi (by omega)]; omega
        rw [if_neg (by omega), if_neg hjk]
  rwa [he] at this

/-- What a function's text is run with. -/
def gX (P : Program) (frag : D → List (AObj D)) (C : CallT D) : Sg D := ⟨C, openK frag, SeesG P (cfgOf P frag), semV P (cfgOf P frag)⟩
theorem gX_ok : GOk P (cfgOf P frag) (gX P frag) := ⟨fun _ => rfl, fun _ _ _ _ h => openK_ok h, fun _ _ _ h => h, fun _ _ _ _ _ _ h => h⟩
theorem gX_call {C : CallT D} : (gX P frag C).call = C := rfl
theorem gX_opn {C : CallT D} : (gX P frag C).opn = openK frag := rfl
theorem gX_view {C : CallT D} : (gX P frag C).view = semV P (cfgOf P frag) := rfl
theorem gX_see {C : CallT D} : (gX P frag C).see = SeesG P (cfgOf P frag) := rfl
end

/-! Contracts: what is known of a function, as a step. -/
section
variable {D : Type}
abbrev CStep (D : Type) := List Value → AH D → Option (Prop × AEnd × AH D)
def goT (x : Option (Prop × AEnd × AH D)) (K : AEnd → AH D → Prop) : Prop :=
  match x with
  | some (p, r, H') => p ∧ K r H'
  | none => False
def seeP (see : AH D → AH D → Prop) (st : CStep D) (args : List Value) (H : AH D) (K : AEnd → AH D → Prop) : Prop := ∃ H1, see H H1 ∧ goT (st args H1) K
def goS (x : Option (Prop × AEnd × AH D)) (see : AH D → AH D → Prop) (st : CStep D) (args : List Value) (H : AH D) (K : AEnd → AH D → Prop) : Prop :=
  match x with
  | some (p, r, H') => p ∧ K r H'
  | none => seeP see st args H K
theorem goS_some {see : AH D → AH D → Prop} {st : CStep D} {args : List Value} {H H' : AH D} {K : AEnd → AH D → Prop} {p : Prop} {r : AEnd} : goS (some (p, r, H')) see st args H K = (p ∧ K r H') := rfl
theorem goS_none {see : AH D → AH D → Prop} {st : CStep D} {args : List Value} {H : AH D} {K : AEnd → AH D → Prop} : goS none see st args H K = seeP see st args H K := rfl
theorem goT_some {H' : AH D} {K : AEnd → AH D → Prop} {p : Prop} {r : AEnd} : goT (some (p, r, H')) K = (p ∧ K r H') := rfl

def tabS (see : AH D → AH D → Prop) (tbl : List (FuncId × CStep D)) : FuncId → Option (List Value → AH D → (AEnd → AH D → Prop) → Prop) := fun f => (tbl.lookup f).map fun st args H K => goS (st args H) see st args H K

def CStepOk (P : Program) (cfg : D → HRep) (f : FuncId) (st : CStep D) : Prop := ∀ args H p r H', st args H = some (p, r, H') → p → Runs P cfg f args H fun r' H2 => r' = r ∧ H2 = H'

variable {P : Program} {cfg : D → HRep}
theorem Runs.seesG {f : FuncId} {args : List Value} {K : AEnd → AH D → Prop} {H H1 : AH D} (hs : SeesG P cfg H H1) (h : Runs P cfg f args H1 K) : Runs P cfg f args H K := by
  refine ⟨h.1, fun ρ own w args' hr hv => ?_⟩
  obtain ⟨ρ', own', r', le, ob⟩ := hs ρ own w hr
  refine (h.2 ρ' own' w args' r' (hv.mono le)).mono fun en w1 ⟨r1, H1, ρ1, own1, k1, x1, v1, r1'⟩ => ⟨r1, H1, ρ1, own1, k1, (SeesG.toExt (H := H) (H1 := H) le ob).trans x1, v1, r1'⟩

theorem lookup_mem {α : Type} {f : FuncId} {x : α} : ∀ {l : List (FuncId × α)}, l.lookup f = some x → (f, x) ∈ l
  | [], h => by cases h
  | (g, y) :: l, h => by
    rw [List.lookup_cons] at h
    split at h
    · rename_i e
      have : f = g := by simpa using e
      subst this; cases h; exact List.mem_cons_self
    · exact List.mem_cons_of_mem _ (lookup_mem h)

theorem tabS_ok {tbl : List (FuncId × CStep D)} (h : ∀ x ∈ tbl, CStepOk P cfg x.1 x.2) : SpecOk P cfg (tabS (SeesG P cfg) tbl) := by
  refine ⟨fun f c hc args H K hk => ?_, fun f c hc args H K K' hk hh => ?_⟩
  · unfold tabS at hc
    simp only [Option.map_eq_some_iff] at hc
    obtain ⟨st, hst, rfl⟩ := hc
    have hok := h _ (lookup_mem hst)
    unfold goS at hk
    split at hk
    · rename_i p r H' he
      exact (hok args H p r H' he hk.1).mono fun r' H2 ⟨e1, e2⟩ => by rw [e1, e2]; exact hk.2
    · obtain ⟨H1, hs, hk⟩ := hk
      unfold goT at hk
      split at hk
      · rename_i p r H' he
        exact Runs.seesG hs ((hok args H1 p r H' he hk.1).mono fun r' H2 ⟨e1, e2⟩ => by rw [e1, e2]; exact hk.2)
      · exact hk.elim
  · unfold tabS at hc
    simp only [Option.map_eq_some_iff] at hc
    obtain ⟨st, hst, rfl⟩ := hc
    unfold goS at hh ⊢
    split at hh
    · exact ⟨hh.1, hk _ _ hh.2⟩
    · obtain ⟨H1, hs, hh⟩ := hh
      refine ⟨H1, hs, ?_⟩
      unfold goT at hh ⊢
      split at hh
      · exact ⟨hh.1, hk _ _ hh.2⟩
      · exact hh.elim

variable {see : AH D → AH D → Prop} {tbl : List (FuncId × CStep D)} {T : FuncId → Option AF} {G : CallT D → Sg D} {F : Nat}
/-- A call of a function of which nothing is known: by its text. -/
def textX (G : CallT D → Sg D) (S : FuncId → Option (List Value → AH D → (AEnd → AH D → Prop) → Prop)) (T : FuncId → Option AF) (F : Nat) : Nat → CallT D
  | 0, _, _, _, _ => False
  | d + 1, f, args, H, K => match T f with
    | some af => af.run (G (callX G S T F d)) F args H K
    | none => False
def goL (x : Option (CStep D)) (see : AH D → AH D → Prop) (args : List Value) (H : AH D) (K : AEnd → AH D → Prop) (other : Prop) : Prop :=
  match x with
  | some st => goS (st args H) see st args H K
  | none => other
theorem goL_some {st : CStep D} {args : List Value} {H : AH D} {K : AEnd → AH D → Prop} {other : Prop} : goL (some st) see args H K other = goS (st args H) see st args H K := rfl
theorem goL_none {args : List Value} {H : AH D} {K : AEnd → AH D → Prop} {other : Prop} : goL none see args H K other = other := rfl
/-- Looked up, first to last. -/
def lookF {α : Type} (f : FuncId) : List (FuncId × α) → Option α
  | [] => none
  | (g, x) :: l => if f = g then some x else lookF f l
theorem lookF_nil {α : Type} (f : FuncId) : lookF f ([] : List (FuncId × α)) = none := rfl
theorem lookF_cons {α : Type} (f g : FuncId) (x : α) (l : List (FuncId × α)) : lookF f ((g, x) :: l) = if f = g then some x else lookF f l := rfl
theorem lookF_eq {α : Type} (f : FuncId) : ∀ l : List (FuncId × α), lookF f l = l.lookup f
  | [] => rfl
  | (g, x) :: l => by
    rw [lookF, List.lookup_cons, lookF_eq f l]
    by_cases h : f = g
    · simp [h]
    · have : (f == g) = false := by simpa using h
      rw [if_neg h, this]
theorem callX_tab {d f : Nat} {args : List Value} {H : AH D} {K : AEnd → AH D → Prop} : callX G (tabS see tbl) T F d f args H K = goL (lookF f tbl) see args H K (textX G (tabS see tbl) T F d f args H K) := by
  rw [lookF_eq]
  cases h : tbl.lookup f with
  | some st =>
    rw [callX_spec (c := fun args H K => goS (st args H) see st args H K) (by unfold tabS; rw [h]; rfl)]; rfl
  | none =>
    have hS : tabS see tbl f = none := by unfold tabS; rw [h]; rfl
    cases d with
    | zero =>
      show (match tabS see tbl f with | some c => c args H K | none => False) = False
      rw [hS]
    | succ d =>
      show (match tabS see tbl f with | some c => c args H K | none => match T f with | some af => af.run (G (callX G (tabS see tbl) T F d)) F args H K | none => False) = (match T f with | some af => af.run (G (callX G (tabS see tbl) T F d)) F args H K | none => False)
      rw [hS]
variable {S : FuncId → Option (List Value → AH D → (AEnd → AH D → Prop) → Prop)} {f : FuncId} {args : List Value} {H : AH D} {K : AEnd → AH D → Prop}
def goA (x : Option AF) (C : Sg D) (F : Nat) (args : List Value) (H : AH D) (K : AEnd → AH D → Prop) : Prop :=
  match x with
  | some af => af.run C F args H K
  | none => False
theorem goA_some {C : Sg D} {n : Nat} {res : List ARes} {b : AC} : goA (some ⟨n, res, b⟩) C F args H K = (args.length ≤ n ∧ b.wp C F (endQ res K) (frame0 args) H) := rfl
theorem textX_1 : textX G S T F 1 f args H K = goA (T f) (G (callX G S T F 0)) F args H K := rfl
theorem textX_2 : textX G S T F 2 f args H K = goA (T f) (G (callX G S T F 1)) F args H K := rfl
theorem textX_3 : textX G S T F 3 f args H K = goA (T f) (G (callX G S T F 2)) F args H K := rfl
theorem textX_4 : textX G S T F 4 f args H K = goA (T f) (G (callX G S T F 3)) F args H K := rfl
theorem textX_5 : textX G S T F 5 f args H K = goA (T f) (G (callX G S T F 4)) F args H K := rfl
end

section
variable {D : Type}
theorem lookV_tn (z : Value) : lookV z true none = .tuple #[z, .bool false] := rfl
theorem lookV_ts (z v : Value) : lookV z true (some v) = .tuple #[v, .bool true] := rfl
theorem lookV_fn (z : Value) : lookV z false none = z := rfl
theorem lookV_fs (z v : Value) : lookV z false (some v) = v := rfl
theorem map_ite {α β : Type} {c : Prop} [Decidable c] (a : α) (f : α → β) : (if c then some a else none).map f = if c then some (f a) else none := by split <;> rfl
theorem bind_ite {α β : Type} {c : Prop} [Decidable c] (a : α) (f : α → Option β) : (if c then some a else none).bind f = if c then f a else none := by split <;> rfl
end

attribute [simp ↓] norK_eq panK_eq ac_seq ac_reg ac_condt ac_condtt ac_condkf ac_block ac_skip ac_exit ac_ret ac_dreg ac_scope ac_label insL_nil insL_op insL_call insL_callt insL_panic insL_guard thenQ_normal thenQ_exit thenQ_ret thenQ_pan blockQ_normal blockQ_exit blockQ_ret blockQ_pan scopeQ_normal scopeQ_exit scopeQ_ret scopeQ_pan endQ_ret endQ_normal endQ_pan
  dt_nil dt_both dt_quiet dt_loud dt_call dt_guard dt_guardq goDG_tt goDG_ff goDG_tf goDG_ft afterC_ret afterC_retn afterC_pan afterD_ret walk_quiet walk_loud walk_both walk_nil walk_guard
attribute [simp high] goG_tt goG_ff goG_tf goG_ft goIf_t goIf_f goDG_tt goDG_ff goDG_tf goDG_ft
attribute [simp] lookF_nil lookF_cons lookV_tn lookV_ts lookV_fn lookV_fs goV_some goV_none goV_if goV_if' goG_b goIf_b goR_some goD_some goD_none goD_if goDG_b goF_func goW_some goW_none chkL_nil chkL_cons prep_none prep_some key_op key_call key_panic AOp.key ptrK gX_call gX_opn openK addsO goS_some goS_none goL_some goL_none callX_tab goA_some textX_1 textX_2 textX_3 textX_4 textX_5 map_ite bind_ite
attribute [simp] AOp.step Opd.ev upd_self upd_other frame0 abin_add abin_sub abin_mul abin_quo abin_rem abin_and abin_or abin_xor abin_andNot abin_eql abin_neq abin_lss abin_leq abin_gtr abin_geq aun putD resV resL ARes.ev of_next of_get of_add of_upd of_del of_row of_mapAt of_many setMany fillL AIns.again newsOf cells_agg cells_bool one_bool cells_int one_int cells_float one_float cells_string one_string cells_pointer one_pointer cells_slice one_slice cells_map one_map cells_func one_func cells_nilFunc one_nilFunc cells_nilIface one_nilIface cells_iface one_iface partOf findIn putIn delIn sameK bound aeq eqPtr eqSlc eqMp eqBool eqInt eqStr
end Go.Abs
