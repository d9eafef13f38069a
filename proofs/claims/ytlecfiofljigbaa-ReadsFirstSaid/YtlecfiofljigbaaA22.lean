/-
  EVALUATION of the plain form by simp: rules that go from an operation to the next one.
-/
import Derived.Test.YtlecfiofljigbaaA21
set_option linter.unusedSimpArgs false
set_option linter.unusedVariables false
set_option linter.unnecessarySimpa false
set_option linter.unusedSectionVars false
namespace Go.Abs

theorem upd_self (tm : Nat → Value) (k : Nat) (v : Value) : upd tm k v k = v := by simp [upd]
theorem upd_other (tm : Nat → Value) (k j : Nat) (v : Value) (h : (j == k) = false) : upd tm k v j = tm j := by
  simp only [beq_eq_false_iff_ne, ne_eq] at h
  simp [upd, h]

section
variable {D : Type} {C : Sg D} {F : Nat} {tm : Nat → Value} {H : AH D} {K : (Nat → Value) → AH D → Prop} {E : Value → (Nat → Value) → AH D → Prop} {l : List AIns}

theorem insL_nil : insL C [] tm H K E = K tm H := rfl
theorem prep_none {O : AH D → Nat → Option (AH D)} : prep O H none = H := rfl
theorem prep_some {O : AH D → Nat → Option (AH D)} {k : Nat} : prep O H (some k) = (O H k).getD H := rfl

/-- Behind an operation. -/
def goV (x : Option (Value × AH D)) (d : Option Nat) (C : Sg D) (l : List AIns) (tm : Nat → Value) (K : (Nat → Value) → AH D → Prop) (E : Value → (Nat → Value) → AH D → Prop) : Prop :=
  match x with
  | some (v, H') => insL C l (putD d tm v) H' K E
  | none => False
theorem goV_some {d : Nat} {v : Value} : goV (some (v, H)) (some d) C l tm K E = insL C l (upd tm d v) H K E := rfl
theorem goV_none {v : Value} : goV (some (v, H)) none C l tm K E = insL C l tm H K E := rfl
theorem goV_if {d : Option Nat} {c : Prop} [Decidable c] {p : Value × AH D} : goV (if c then some p else none) d C l tm K E = (c ∧ goV (some p) d C l tm K E) := by
  by_cases h : c <;> simp [h, goV]
theorem goV_if' {d : Option Nat} {c : Prop} [Decidable c] {p : Value × AH D} : goV (if c then none else some p) d C l tm K E = (¬ c ∧ goV (some p) d C l tm K E) := by
  by_cases h : c <;> simp [h, goV]
theorem insL_op {d : Option Nat} {o : AOp} : insL C (⟨d, .op o, none⟩ :: l) tm H K E = goV (o.step tm (prep C.opn H (o.key tm))) d C l tm K E := rfl

/-- Behind a call. -/
def afterC (d : Option Nat) (C : Sg D) (l : List AIns) (tm : Nat → Value) (K : (Nat → Value) → AH D → Prop) (E : Value → (Nat → Value) → AH D → Prop) : AEnd → AH D → Prop := fun r H' => match r with
  | .ret v => insL C l (putD d tm v) H' K E
  | .pan v => E v tm H'
theorem afterC_ret {d : Nat} {v : Value} : afterC (some d) C l tm K E (.ret v) H = insL C l (upd tm d v) H K E := rfl
theorem afterC_retn {v : Value} : afterC none C l tm K E (.ret v) H = insL C l tm H K E := rfl
theorem afterC_pan {d : Option Nat} {v : Value} : afterC d C l tm K E (.pan v) H = E v tm H := rfl
theorem insL_call {d : Option Nat} {f : Nat} {xs : List Opd} : insL C (⟨d, .call (.f f) xs, none⟩ :: l) tm H K E = C.call f (xs.map (·.ev tm)) H (afterC d C l tm K E) := by
  show C.call f ([] ++ xs.map (·.ev tm) ++ []) H _ = _
  rw [List.nil_append, List.append_nil]; rfl
/-- A call of a value that is a function. -/
def goF (f : Value) (xs : List Value) (C : CallT D) (H : AH D) (K : AEnd → AH D → Prop) : Prop :=
  match f with
  | .func (.func g) x y => C g (x.toList ++ xs ++ y.toList) H K
  | _ => False
theorem goF_func {g : Nat} {x y : Array Value} {xs : List Value} {C : CallT D} {K : AEnd → AH D → Prop} : goF (.func (.func g) x y) xs C H K = C g (x.toList ++ xs ++ y.toList) H K := rfl
theorem insL_callt {d : Option Nat} {f : Nat} {xs : List Opd} : insL C (⟨d, .call (.t f) xs, none⟩ :: l) tm H K E = goF (tm f) (xs.map (Opd.ev tm)) C.call H (afterC d C l tm K E) := by
  show (match tm f with | .func (.func g) x y => C.call g (x.toList ++ xs.map (Opd.ev tm) ++ y.toList) H _ | _ => False) = _
  unfold goF
  split <;> rfl
theorem insL_panic {d : Option Nat} {x : Opd} : insL C (⟨d, .panic x, none⟩ :: l) tm H K E = match x.ev tm with
    | .iface t v => E (.iface t v) tm H
    | _ => False := by
  show (match x.ev tm with | .iface t v => E (.iface t v) tm H | _ => False) = _
  rfl

/-- At a guard: the slot is what it is known to be. -/
def goG (t : Nat) (x : Value) (want : Bool) (d : Option Nat) (k : AK) (C : Sg D) (l : List AIns) (tm : Nat → Value) (H : AH D) (K : (Nat → Value) → AH D → Prop) (E : Value → (Nat → Value) → AH D → Prop) : Prop :=
  match x with
  | .bool b => if b = want then insL C (⟨d, k, none⟩ :: l) (upd tm t (.bool b)) H K E else insL C l (putD d (upd tm t (.bool b)) undef) H K E
  | _ => False
theorem upd_same (tm : Nat → Value) (t : Nat) : upd tm t (tm t) = tm := by
  funext j; unfold upd; split
  · rename_i h; rw [h]
  · rfl
theorem insL_guard {d : Option Nat} {k : AK} {t : Nat} {want : Bool} : insL C (⟨d, k, some (t, want)⟩ :: l) tm H K E = goG t (tm t) want d k C l tm H K E := by
  have e : insL C (⟨d, k, some (t, want)⟩ :: l) tm H K E = AIns.wp C.call ⟨d, k, some (t, want)⟩ tm (prep C.opn H (AIns.key ⟨d, k, some (t, want)⟩ tm)) (fun tm' H' => insL C l tm' H' K E) (fun v H' => E v tm H') := rfl
  rw [e]
  unfold goG
  cases h : tm t with
  | bool b =>
    have hs : upd tm t (.bool b) = tm := by rw [← h]; exact upd_same tm t
    simp only [hs, AIns.wp, AIns.key, h]
    by_cases hb : b = want
    · simp only [if_pos hb]; rfl
    · simp only [if_neg hb]; rfl
  | _ => simp only [AIns.wp, h]
theorem goG_tt {d : Option Nat} {k : AK} {t : Nat} : goG t (.bool true) true d k C l tm H K E = insL C (⟨d, k, none⟩ :: l) (upd tm t (.bool true)) H K E := rfl
theorem goG_ff {d : Option Nat} {k : AK} {t : Nat} : goG t (.bool false) false d k C l tm H K E = insL C (⟨d, k, none⟩ :: l) (upd tm t (.bool false)) H K E := rfl
theorem goG_tf {d : Nat} {k : AK} {t : Nat} : goG t (.bool true) false (some d) k C l tm H K E = insL C l (upd (upd tm t (.bool true)) d undef) H K E := rfl
theorem goG_ft {d : Nat} {k : AK} {t : Nat} : goG t (.bool false) true (some d) k C l tm H K E = insL C l (upd (upd tm t (.bool false)) d undef) H K E := rfl
theorem goG_b {d : Option Nat} {k : AK} {t : Nat} {b want : Bool} : goG t (.bool b) want d k C l tm H K E = ((b = true → goG t (.bool true) want d k C l tm H K E) ∧ (b = false → goG t (.bool false) want d k C l tm H K E)) := by
  cases b <;> simp
theorem key_op {o : AOp} : (AK.op o).key tm = o.key tm := rfl
theorem key_call {f : Opd} {xs : List Opd} : (AK.call f xs).key tm = none := rfl
theorem key_panic {x : Opd} : (AK.panic x).key tm = none := rfl

/-- Behind a part of the code. -/
def thenQ (C : Sg D) (F : Nat) (b : AC) (Q : AExit → (Nat → Value) → AH D → Prop) : AExit → (Nat → Value) → AH D → Prop := fun e tm' H' => match e with
  | .normal => b.wp C F Q tm' H'
  | e => Q e tm' H'
def blockQ (id : Nat) (Q : AExit → (Nat → Value) → AH D → Prop) : AExit → (Nat → Value) → AH D → Prop := fun e tm' H' => match e with
  | .exit j => if j = id then Q .normal tm' H' else Q (.exit j) tm' H'
  | e => Q e tm' H'

variable {Q : AExit → (Nat → Value) → AH D → Prop}
def panK (Q : AExit → (Nat → Value) → AH D → Prop) : Value → (Nat → Value) → AH D → Prop := fun v => Q (.pan v)
theorem panK_eq {v : Value} : panK Q v tm H = Q (.pan v) tm H := rfl
def norK (Q : AExit → (Nat → Value) → AH D → Prop) : (Nat → Value) → AH D → Prop := Q .normal
theorem norK_eq : norK Q tm H = Q .normal tm H := rfl
theorem ac_reg : (AC.reg l).wp C F Q tm H = insL C l tm H (norK Q) (panK Q) := rfl
theorem ac_seq {a b : AC} : (AC.seq a b).wp C F Q tm H = a.wp C F (thenQ C F b Q) tm H := rfl
/-- At a test: the slot is what it is known to be. -/
def goIf (t : Nat) (x : Value) (a b : AC) (C : Sg D) (F : Nat) (Q : AExit → (Nat → Value) → AH D → Prop) (tm : Nat → Value) (H : AH D) : Prop :=
  match x with
  | .bool c => if c then a.wp C F Q (upd tm t (.bool true)) H else b.wp C F Q (upd tm t (.bool false)) H
  | _ => False
theorem ac_condt {n : Nat} {a b : AC} : (AC.cond (.t n) a b).wp C F Q tm H = goIf n (tm n) a b C F Q tm H := by
  show (match tm n with | .bool t => if t then a.wp C F Q tm H else b.wp C F Q tm H | _ => False) = _
  unfold goIf
  cases h : tm n with
  | bool c =>
    have hs : upd tm n (.bool c) = tm := by rw [← h]; exact upd_same tm n
    cases c
    · simp [hs]
    · simp [hs]
  | _ => rfl
theorem ac_condtt {a b : AC} : (AC.cond (.k (.bool true)) a b).wp C F Q tm H = a.wp C F Q tm H := rfl
theorem ac_condkf {a b : AC} : (AC.cond (.k (.bool false)) a b).wp C F Q tm H = b.wp C F Q tm H := rfl
theorem goIf_t {n : Nat} {a b : AC} : goIf n (.bool true) a b C F Q tm H = a.wp C F Q (upd tm n (.bool true)) H := rfl
theorem goIf_f {n : Nat} {a b : AC} : goIf n (.bool false) a b C F Q tm H = b.wp C F Q (upd tm n (.bool false)) H := rfl
theorem goIf_b {n : Nat} {t : Bool} {a b : AC} : goIf n (.bool t) a b C F Q tm H = ((t = true → goIf n (.bool true) a b C F Q tm H) ∧ (t = false → goIf n (.bool false) a b C F Q tm H)) := by
  cases t <;> simp
theorem ac_block {id : Nat} {a : AC} : (AC.block id a).wp C F Q tm H = a.wp C F (blockQ id Q) tm H := rfl
theorem ac_skip : (AC.skip).wp C F Q tm H = Q .normal tm H := rfl
theorem ac_exit {id : Nat} : (AC.exit id).wp C F Q tm H = Q (.exit id) tm H := rfl
theorem ac_ret : (AC.ret).wp C F Q tm H = Q .ret tm H := rfl
theorem thenQ_normal {b : AC} : thenQ C F b Q .normal tm H = b.wp C F Q tm H := rfl
theorem thenQ_exit {b : AC} {id : Nat} : thenQ C F b Q (.exit id) tm H = Q (.exit id) tm H := rfl
theorem thenQ_ret {b : AC} : thenQ C F b Q .ret tm H = Q .ret tm H := rfl
theorem thenQ_pan {b : AC} {v : Value} : thenQ C F b Q (.pan v) tm H = Q (.pan v) tm H := rfl
theorem blockQ_normal {id : Nat} : blockQ id Q .normal tm H = Q .normal tm H := rfl
theorem blockQ_exit {id j : Nat} : blockQ id Q (.exit j) tm H = if j = id then Q .normal tm H else Q (.exit j) tm H := rfl
theorem blockQ_ret {id : Nat} : blockQ id Q .ret tm H = Q .ret tm H := rfl
theorem blockQ_pan {id : Nat} {v : Value} : blockQ id Q (.pan v) tm H = Q (.pan v) tm H := rfl
def scopeQ (Q : AExit → (Nat → Value) → AH D → Prop) : AExit → (Nat → Value) → AH D → Prop := fun e tm' H' => match e with
  | .goto _ => False
  | e => Q e tm' H'
theorem ac_scope {a : AC} : (AC.scope a).wp C F Q tm H = a.wp C F (scopeQ Q) tm H := rfl
theorem ac_label {j : Nat} : (AC.label j).wp C F Q tm H = Q .normal tm H := rfl
theorem scopeQ_normal : scopeQ Q .normal tm H = Q .normal tm H := rfl
theorem scopeQ_exit {j : Nat} : scopeQ Q (.exit j) tm H = Q (.exit j) tm H := rfl
theorem scopeQ_ret : scopeQ Q .ret tm H = Q .ret tm H := rfl
theorem scopeQ_pan {v : Value} : scopeQ Q (.pan v) tm H = Q (.pan v) tm H := rfl

/-- At a function's end. -/
def endQ (res : List ARes) (K : AEnd → AH D → Prop) : AExit → (Nat → Value) → AH D → Prop := fun e tm H' => match e with
  | .normal | .ret => match resV tm H' res with
    | some v => K (.ret v) H'
    | none => False
  | .pan v => K (.pan v) H'
  | _ => False
def goR (x : Option Value) (K : AEnd → AH D → Prop) (H : AH D) : Prop :=
  match x with
  | some v => K (.ret v) H
  | none => False
theorem goR_some {v : Value} {K : AEnd → AH D → Prop} : goR (some v) K H = K (.ret v) H := rfl
theorem endQ_ret {res : List ARes} {K : AEnd → AH D → Prop} : endQ res K .ret tm H = goR (resV tm H res) K H := rfl
theorem endQ_normal {res : List ARes} {K : AEnd → AH D → Prop} : endQ res K .normal tm H = goR (resV tm H res) K H := rfl
theorem endQ_pan {res : List ARes} {K : AEnd → AH D → Prop} {v : Value} : endQ res K (.pan v) tm H = K (.pan v) H := rfl
theorem run_eq {n : Nat} {res : List ARes} {b : AC} {args : List Value} {K : AEnd → AH D → Prop} : AF.run C F ⟨n, res, b⟩ args H K = (args.length ≤ n ∧ b.wp C F (endQ res K) (frame0 args) H) := rfl

/-! Regions that draw. -/
section
variable {C : CallT D}
theorem dt_nil : DT.nil.wp C tm H K = K tm H := rfl
theorem dt_both {a b : DT} : (DT.both a b).wp C tm H K = (a.wp C tm H K ∧ b.wp C tm H K) := rfl
/-- What is to be read again. -/
def chkL (l : List AIns) (tm : Nat → Value) (H : AH D) : Prop := ∀ c ∈ l, c.again tm H
theorem chkL_nil : chkL [] tm H = True := by simp [chkL]
theorem chkL_cons {c : AIns} {l : List AIns} : chkL (c :: l) tm H = (c.again tm H ∧ chkL l tm H) := by simp [chkL]
def goD (x : Option (Value × AH D)) (d : Option Nat) (chk : List AIns) (C : CallT D) (t : DT) (tm : Nat → Value) (K : (Nat → Value) → AH D → Prop) : Prop :=
  match x with
  | some (v, H') => chkL chk (putD d tm v) H' ∧ t.wp C (putD d tm v) H' K
  | none => False
theorem dt_quiet {d : Option Nat} {o : AOp} {t : DT} : (DT.quiet ⟨d, .op o, none⟩ t).wp C tm H K = goD (o.step tm H) d [] C t tm K := by
  simp only [DT.wp, AIns.wp, AK.wp, goD]
  cases o.step tm H with
  | none => rfl
  | some x => simp [chkL]
theorem dt_loud {d : Option Nat} {o : AOp} {t : DT} {chk : List AIns} : (DT.loud ⟨d, .op o, none⟩ chk t).wp C tm H K = goD (o.step tm H) d chk C t tm K := rfl
theorem goD_some {d : Option Nat} {chk : List AIns} {t : DT} {v : Value} : goD (some (v, H)) d chk C t tm K = (chkL chk (putD d tm v) H ∧ t.wp C (putD d tm v) H K) := rfl
theorem goD_none {d : Option Nat} {chk : List AIns} {t : DT} : goD none d chk C t tm K = False := rfl
theorem goD_if {d : Option Nat} {chk : List AIns} {t : DT} {c : Prop} [Decidable c] {p : Value × AH D} : goD (if c then some p else none) d chk C t tm K = (c ∧ goD (some p) d chk C t tm K) := by
  by_cases h : c <;> simp [h, goD]
def afterD (d : Option Nat) (chk : List AIns) (C : CallT D) (t : DT) (tm : Nat → Value) (K : (Nat → Value) → AH D → Prop) : AEnd → AH D → Prop := fun r H' => match r with
  | .ret v => chkL chk (putD d tm v) H' ∧ t.wp C (putD d tm v) H' K
  | .pan _ => False
theorem afterD_ret {d : Option Nat} {chk : List AIns} {t : DT} {v : Value} : afterD d chk C t tm K (.ret v) H = (chkL chk (putD d tm v) H ∧ t.wp C (putD d tm v) H K) := rfl
theorem dt_call {d : Option Nat} {f : Nat} {xs : List Opd} {t : DT} {chk : List AIns} : (DT.loud ⟨d, .call (.f f) xs, none⟩ chk t).wp C tm H K = C f (xs.map (·.ev tm)) H (afterD d chk C t tm K) := by
  show C f ([] ++ xs.map (·.ev tm) ++ []) H _ = _
  rw [List.nil_append, List.append_nil]; rfl
def goDG (t : Nat) (x : Value) (want : Bool) (d : Option Nat) (k : AK) (chk : List AIns) (C : CallT D) (m : DT) (tm : Nat → Value) (H : AH D) (K : (Nat → Value) → AH D → Prop) : Prop :=
  match x with
  | .bool b => if b = want then (DT.loud ⟨d, k, none⟩ chk m).wp C (upd tm t (.bool b)) H K else chkL chk (putD d (upd tm t (.bool b)) undef) H ∧ m.wp C (putD d (upd tm t (.bool b)) undef) H K
  | _ => False
theorem dt_guard {d : Option Nat} {k : AK} {t : Nat} {want : Bool} {m : DT} {chk : List AIns} : (DT.loud ⟨d, k, some (t, want)⟩ chk m).wp C tm H K = goDG t (tm t) want d k chk C m tm H K := by
  unfold goDG
  simp only [DT.wp, AIns.wp]
  cases h : tm t with
  | bool b =>
    have hs : upd tm t (.bool b) = tm := by rw [← h]; exact upd_same tm t
    simp only [hs]
    by_cases hb : b = want
    · rw [if_pos hb, if_pos hb]
    · rw [if_neg hb, if_neg hb]; rfl
  | _ => rfl
theorem dt_guardq {d : Option Nat} {k : AK} {t : Nat} {want : Bool} {m : DT} : (DT.quiet ⟨d, k, some (t, want)⟩ m).wp C tm H K = goDG t (tm t) want d k [] C m tm H K := by
  rw [← dt_guard]
  simp only [DT.wp, List.not_mem_nil, false_implies, implies_true, true_and]
theorem goDG_tt {d : Option Nat} {k : AK} {t : Nat} {m : DT} {chk : List AIns} : goDG t (.bool true) true d k chk C m tm H K = (DT.loud ⟨d, k, none⟩ chk m).wp C (upd tm t (.bool true)) H K := rfl
theorem goDG_ff {d : Option Nat} {k : AK} {t : Nat} {m : DT} {chk : List AIns} : goDG t (.bool false) false d k chk C m tm H K = (DT.loud ⟨d, k, none⟩ chk m).wp C (upd tm t (.bool false)) H K := rfl
theorem goDG_tf {d : Option Nat} {k : AK} {t : Nat} {m : DT} {chk : List AIns} : goDG t (.bool true) false d k chk C m tm H K = (chkL chk (putD d (upd tm t (.bool true)) undef) H ∧ m.wp C (putD d (upd tm t (.bool true)) undef) H K) := rfl
theorem goDG_ft {d : Option Nat} {k : AK} {t : Nat} {m : DT} {chk : List AIns} : goDG t (.bool false) true d k chk C m tm H K = (chkL chk (putD d (upd tm t (.bool false)) undef) H ∧ m.wp C (putD d (upd tm t (.bool false)) undef) H K) := rfl
theorem goDG_b {d : Option Nat} {k : AK} {t : Nat} {m : DT} {chk : List AIns} {b want : Bool} : goDG t (.bool b) want d k chk C m tm H K = ((b = true → goDG t (.bool true) want d k chk C m tm H K) ∧ (b = false → goDG t (.bool false) want d k chk C m tm H K)) := by
  cases b <;> simp
end
/-- Ahead of a region that draws. -/
def goW (x : Option (Value × AH D)) (O : AH D → Nat → Option (AH D)) (d : Option Nat) (t : DT) (tm : Nat → Value) (H1 : AH D) : AH D :=
  match x with
  | some (v, _) => walkD O t (putD d tm v) H1
  | none => H1
theorem walk_quiet {O : AH D → Nat → Option (AH D)} {d : Option Nat} {o : AOp} {t : DT} : walkD O (.quiet ⟨d, .op o, none⟩ t) tm H = goW (o.step tm (prep O H (o.key tm))) O d t tm (prep O H (o.key tm)) := by
  conv => lhs; unfold walkD
  unfold goW
  split <;> rename_i h <;> rw [h]
theorem goW_some {O : AH D → Nat → Option (AH D)} {d : Option Nat} {t : DT} {v : Value} {H' H1 : AH D} : goW (some (v, H')) O d t tm H1 = walkD O t (putD d tm v) H1 := rfl
theorem goW_none {O : AH D → Nat → Option (AH D)} {d : Option Nat} {t : DT} {H1 : AH D} : goW none O d t tm H1 = H1 := rfl
theorem walk_loud {O : AH D → Nat → Option (AH D)} {i : AIns} {chk : List AIns} {t : DT} : walkD O (.loud i chk t) tm H = H := by unfold walkD; rfl
theorem walk_both {O : AH D → Nat → Option (AH D)} {a b : DT} : walkD O (.both a b) tm H = H := by unfold walkD; rfl
theorem walk_nil {O : AH D → Nat → Option (AH D)} : walkD O .nil tm H = H := by unfold walkD; rfl
theorem walk_guard {O : AH D → Nat → Option (AH D)} {d : Option Nat} {k : AK} {g : Nat × Bool} {t : DT} : walkD O (.quiet ⟨d, k, some g⟩ t) tm H = H := by cases k <;> (unfold walkD; rfl)
theorem ac_dreg {m : DT} : (AC.dreg m).wp C F Q tm H = m.wp C.call tm (walkD C.opn m tm H) (norK Q) := rfl

/-! Calls -/
variable {S : FuncId → Option (List Value → AH D → (AEnd → AH D → Prop) → Prop)} {T : FuncId → Option AF} {G : CallT D → Sg D}
theorem callX_text {d f : Nat} {args : List Value} {K : AEnd → AH D → Prop} {af : AF} (h : S f = none) (h' : T f = some af) : callX G S T F (d + 1) f args H K = af.run (G (callX G S T F d)) F args H K := by
  show (match S f with | some c => c args H K | none => match T f with | some af => af.run (G (callX G S T F d)) F args H K | none => False) = _
  rw [h, h']
theorem callX_spec {d f : Nat} {args : List Value} {K : AEnd → AH D → Prop} {c : List Value → AH D → (AEnd → AH D → Prop) → Prop} (h : S f = some c) : callX G S T F d f args H K = c args H K := by
  cases d with
  | zero => show (match S f with | some c => c args H K | none => False) = _; rw [h]
  | succ d => show (match S f with | some c => c args H K | none => match T f with | some af => af.run (G (callX G S T F d)) F args H K | none => False) = _; rw [h]

end
end Go.Abs
