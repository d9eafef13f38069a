/-
  A REGION THAT DRAWS ITS ORDER: whatever the order, it comes to what the plain form says.
-/
import Derived.Test.YtlecfiofljigbaaA14
set_option linter.unusedSimpArgs false
set_option linter.unusedVariables false
set_option linter.unnecessarySimpa false
set_option linter.unusedSectionVars false
namespace Go.Abs
open Go.RowKit

section
variable {D : Type} {P : Program} {cfg : D → HRep} {C : CallT D} {ext : FuncId → Option Ext1} {n : Nat}

/-! ### What comes ahead is listed -/

theorem or_bits {α : Type} (c : α → Bool) (on : α → Nat) (g : α → Nat) (i : Nat) : ∀ (xs : List α) (s : Nat), (xs.foldl (fun s e => if c e then s ||| 2 ^ on e ||| g e else s) s).testBit i = true →
    s.testBit i = true ∨ ∃ e ∈ xs, c e = true ∧ (on e = i ∨ (g e).testBit i = true)
  | [], s, h => .inl h
  | e :: xs, s, h => by
    simp only [List.foldl_cons] at h
    rcases or_bits c on g i xs _ h with h | ⟨e', he, h1, h2⟩
    · split at h
      · rename_i hc
        simp only [Nat.testBit_or, Bool.or_eq_true, Nat.testBit_two_pow, decide_eq_true_eq] at h
        rcases h with (h | h) | h
        · exact .inl h
        · exact .inr ⟨e, by simp, hc, .inl h⟩
        · exact .inr ⟨e, by simp, hc, .inr h⟩
      · exact .inl h
    · exact .inr ⟨e', by simp [he], h1, h2⟩

def Ready (ops : Array Oper) (L : Nat → Prop) (j : Nat) : Prop := ∀ o, ops[j]? = some o → ∀ e ∈ o.after, Region.binds .any e = true → L e.on

theorem before_listed {ops : Array Oper} {L : Nat → Prop} (hL : ∀ j, L j → Ready ops L j) : ∀ i j, Ready ops L j → befB (Region.before ops) i j = true → L i := by
  have key : ∀ (l pre : List Oper) (acc : Array Nat), acc.size = pre.length → ops.toList = pre ++ l → (∀ i j, Ready ops L j → (acc.getD j 0).testBit i = true → L i) →
      ∀ i j, Ready ops L j → ((l.foldl (fun acc o => acc.push (o.after.foldl (fun s e => if Region.binds .any e then s ||| 2 ^ e.on ||| acc.getD e.on 0 else s) 0)) acc).getD j 0).testBit i = true → L i := by
    intro l
    induction l with
    | nil => intro pre acc _ _ h; exact h
    | cons o l ih =>
      intro pre acc hs ho h
      simp only [List.foldl_cons]
      refine ih (pre ++ [o]) _ (by simp [hs]) (by simp [ho]) ?_
      intro i j hj hb
      rw [Array.getD_eq_getD_getElem?, Array.getElem?_push] at hb
      split at hb
      · rename_i hjs
        have hop : ops[j]? = some o := by
          have : ops.toList[j]? = some o := by rw [ho, hjs, hs]; simp
          simpa using this
        simp only [Option.getD_some] at hb
        rw [← Array.foldl_toList] at hb
        rcases or_bits (fun e => Region.binds .any e) (fun e => e.on) (fun e => acc.getD e.on 0) i _ 0 hb with hb | ⟨e, he, h1, h2⟩
        · simp at hb
        · have hle := hj o hop e (by simpa using he) h1
          rcases h2 with h2 | h2
          · rw [← h2]; exact hle
          · exact h i e.on (hL _ hle) h2
      · exact h i j hj (by rw [Array.getD_eq_getD_getElem?]; exact hb)
  intro i j hj hb
  refine key ops.toList [] #[] rfl rfl (fun i j _ h => by simp at h) i j hj ?_
  unfold befB Region.before at hb
  rw [← Array.foldl_toList] at hb
  exact hb

/-! ### What an operation hangs on -/

theorem step_congr {op : AOp} {tm tm' : Nat → Value} (h : ∀ x ∈ op.opds, x.ev tm = x.ev tm') (H : AH D) : op.step tm H = op.step tm' H := by
  have hp : ∀ ps : List (Nat × Nat × Opd), (∀ x ∈ ps.map (·.2.2), x.ev tm = x.ev tm') → (ps.map fun p => (p.1, p.2.1, p.2.2.ev tm)) = ps.map fun p => (p.1, p.2.1, p.2.2.ev tm') := fun ps hp =>
    List.map_congr_left fun p hm => by rw [hp p.2.2 (List.mem_map.2 ⟨p, hm, rfl⟩)]
  cases op <;> simp only [AOp.opds, List.mem_cons, List.not_mem_nil, or_false, forall_eq_or_imp, forall_eq, List.mem_append, Option.mem_toList, List.forall_mem_cons, List.forall_mem_nil, and_true] at h <;>
    first
      | (simp only [AOp.step]; done)
      | (simp only [AOp.step, h]; done)
      | (simp only [AOp.step, hp _ h]; done)
      | skip
  case mkfunc f a b =>
    have ha : a.map (·.ev tm) = a.map (·.ev tm') := List.map_congr_left fun x hx => h x (.inl hx)
    have hb : b.map (·.ev tm) = b.map (·.ev tm') := List.map_congr_left fun x hx => h x (.inr hx)
    simp only [AOp.step, ha, hb]
  case slice s x lo hi mx =>
    have hx := h x (.inl (.inl (.inl rfl)))
    cases lo <;> cases hi <;> cases mx <;> simp_all [AOp.step]
  case sliceS x lo hi =>
    have hx := h x (.inl (.inl rfl))
    cases lo <;> cases hi <;> simp_all [AOp.step]

theorem pure_any {op : AOp} (hp : op.pureB = true) {tm : Nat → Value} {H H1 : AH D} {v : Value} (h : op.step tm H = some (v, H1)) : H1 = H ∧ ∀ H2 : AH D, op.step tm H2 = some (v, H2) := by
  have mp : ∀ {α : Type} {q : Option α} {f : α → Value} {H H1 : AH D} {v : Value}, (q.map fun x => (f x, H)) = some (v, H1) → H1 = H ∧ ∀ H2 : AH D, (q.map fun x => (f x, H2)) = some (v, H2) := by
    intro α q f H H1 v h
    cases q with
    | none => cases h
    | some x => simp at h; obtain ⟨rfl, rfl⟩ := h; exact ⟨rfl, fun _ => rfl⟩
  have sm : ∀ {u : Value} {H H1 : AH D} {v : Value}, some (u, H) = some (v, H1) → H1 = H ∧ ∀ H2 : AH D, some (u, H2) = some (v, H2) := by
    intro u H H1 v h
    simp at h; obtain ⟨rfl, rfl⟩ := h; exact ⟨rfl, fun _ => rfl⟩
  cases op <;> simp only [AOp.pureB, Bool.false_eq_true] at hp <;> simp only [AOp.step] at h ⊢ <;>
    first
      | exact mp h
      | exact sm h
      | (split at h <;> first | exact mp h | exact sm h | (cases h; done) | (split at h <;> first | exact mp h | exact sm h | (cases h; done) | skip))
  all_goals
    (repeat' split at h) <;> first | (cases h; done) | exact mp h | exact sm h | (simp only [Option.some.injEq, Prod.mk.injEq] at h; obtain ⟨rfl, rfl⟩ := h; exact ⟨rfl, fun _ => by simp_all⟩) | (obtain ⟨e1, e2⟩ := mp h; exact ⟨e1, fun H2 => by rw [if_pos ‹_›]; exact e2 H2⟩)

theorem read_same {op : AOp} (hp : op.readB = true) {tm : Nat → Value} {H H1 : AH D} {v : Value} (h : op.step tm H = some (v, H1)) : H1 = H := by
  cases op <;> simp only [AOp.readB, Bool.false_eq_true] at hp <;> simp only [AOp.step] at h <;>
    ((repeat' split at h) <;> first | (cases h; done) | (cases h; rfl) | (simp only [Option.map_eq_some_iff, Prod.mk.injEq] at h; obtain ⟨_, _, h⟩ := h; first | exact h.2.symm | (split at h <;> (cases h; rfl))))

theorem quiet_same {op : AK} (hp : op.quietB = true) : ∃ o, op = .op o ∧ (o.pureB = true ∨ o.readB = true) := by
  cases op with
  | op o => exact ⟨o, rfl, by simpa [AK.quietB] using hp⟩
  | call _ _ => simp [AK.quietB] at hp
  | panic _ => simp [AK.quietB] at hp

end
end Go.Abs
