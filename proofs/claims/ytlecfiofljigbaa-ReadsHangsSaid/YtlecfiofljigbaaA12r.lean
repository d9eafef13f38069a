/-
  RENAMING of keys: values, objects.
-/
import Derived.Test.YtlecfiofljigbaaA12
set_option linter.unusedSimpArgs false
set_option linter.unusedVariables false
set_option linter.unnecessarySimpa false
set_option linter.unusedSectionVars false
namespace Go.Abs

mutual
def ren (θ : Nat → Nat) : Value → Value
  | .bool b => .bool b
  | .int k n => .int k n
  | .float k n => .float k n
  | .complex k a b => .complex k a b
  | .string s => .string s
  | .pointer none => .pointer none
  | .pointer (some ⟨k, o, none⟩) => .pointer (some ⟨θ k, o, none⟩)
  | .pointer (some ⟨k, o, some x⟩) => .pointer (some ⟨k, o, some x⟩)
  | .slice none n c => .slice none n c
  | .slice (some ⟨k, o, none⟩) n c => .slice (some ⟨θ k, o, none⟩) n c
  | .slice (some ⟨k, o, some x⟩) n c => .slice (some ⟨k, o, some x⟩) n c
  | .map none => .map none
  | .map (some k) => .map (some (θ k))
  | .chan c => .chan c
  | .func f ⟨x⟩ ⟨y⟩ => .func f ⟨rens θ x⟩ ⟨rens θ y⟩
  | .nilFunc => .nilFunc
  | .nilIface => .nilIface
  | .iface t v => .iface t (ren θ v)
  | .agg ⟨l⟩ => .agg ⟨rens θ l⟩
  | .tuple ⟨l⟩ => .tuple ⟨rens θ l⟩
def rens (θ : Nat → Nat) : List Value → List Value
  | [] => []
  | v :: l => ren θ v :: rens θ l
end

theorem rens_eq (θ : Nat → Nat) : ∀ l, rens θ l = l.map (ren θ)
  | [] => rfl
  | v :: l => by rw [rens, rens_eq θ l]; rfl

def Env.on (ρ : Env) (θ : Nat → Nat) : Env := ⟨fun k => ρ.loc (θ k)⟩

mutual
theorem VR.of_ren {ρ : Env} {θ : Nat → Nat} : ∀ (v : Value) {v' : Value}, VR ρ (ren θ v) v' → VR (ρ.on θ) v v'
  | .bool b, v', h => by rw [ren] at h; rw [h.bool_eq]; exact .bool b
  | .int k n, v', h => by rw [ren] at h; rw [h.int_eq]; exact .int k n
  | .float k n, v', h => by rw [ren] at h; rw [h.float_eq]; exact .float k n
  | .complex k a b, v', h => by rw [ren] at h; cases h
  | .string s, v', h => by rw [ren] at h; rw [h.string_eq]; exact .string s
  | .pointer none, v', h => by rw [ren] at h; cases h; exact .nilp
  | .pointer (some ⟨k, o, none⟩), v', h => by rw [ren] at h; obtain ⟨l, h1, rfl⟩ := h.ptr_inv; exact .ptr k o l h1
  | .pointer (some ⟨k, o, some x⟩), v', h => by rw [ren] at h; cases h
  | .slice none 0 0, v', h => by rw [ren] at h; cases h; exact .nils
  | .slice none 0 (_ + 1), v', h => by rw [ren] at h; cases h
  | .slice none (_ + 1) _, v', h => by rw [ren] at h; cases h
  | .slice (some ⟨k, o, none⟩) n c, v', h => by
    rw [ren] at h
    rcases h.slice_inv with ⟨o', cc, l, h1, h2, h3, h4, h5, rfl⟩ | ⟨rfl, rfl, h1, a, cc, rfl, h2⟩
    · exact .slice k o o' n c cc l h1 h2 h3 h4 h5
    · exact .slicen k c a cc h1 h2
  | .slice (some ⟨k, o, some x⟩) n c, v', h => by rw [ren] at h; cases h
  | .map none, v', h => by rw [ren] at h; cases h; exact .nilm
  | .map (some k), v', h => by rw [ren] at h; obtain ⟨l, h1, rfl⟩ := h.map_inv; exact .map k l h1
  | .chan c, v', h => by
    rw [ren] at h
    cases h with
    | junk _ _ h1 => exact .junk c v' h1
  | .func f ⟨x⟩ ⟨y⟩, v', h => by
    rw [ren] at h
    cases h with
    | func f _ _ x' y' h1 h2 => exact .func f _ _ x' y' (VRs.of_rens x h1) (VRs.of_rens y h2)
  | .nilFunc, v', h => by rw [ren] at h; cases h; exact .nilFunc
  | .nilIface, v', h => by rw [ren] at h; cases h; exact .nilIface
  | .iface t v, v', h => by
    rw [ren] at h
    cases h with
    | iface _ _ u h1 => exact .iface t v u (VR.of_ren v h1)
  | .agg ⟨l⟩, v', h => by
    rw [ren] at h
    obtain ⟨x', rfl, h1⟩ := h.agg_inv
    exact .agg _ _ (VRs.of_rens l h1)
  | .tuple ⟨l⟩, v', h => by
    rw [ren] at h
    obtain ⟨x', rfl, h1⟩ := h.tuple_inv
    exact .tuple _ _ (VRs.of_rens l h1)
theorem VRs.of_rens {ρ : Env} {θ : Nat → Nat} : ∀ (l : List Value) {l' : List Value}, VRs ρ (rens θ l) l' → VRs (ρ.on θ) l l'
  | [], l', h => by rw [rens] at h; cases h; exact .nil
  | v :: l, l', h => by
    rw [rens] at h
    cases h with
    | cons _ v' _ l' h1 h2 => exact .cons v v' l l' (VR.of_ren v h1) (VRs.of_rens l h2)
end

mutual
theorem VR.to_ren {ρ : Env} {θ : Nat → Nat} : ∀ {v v' : Value}, VR (ρ.on θ) v v' → VR ρ (ren θ v) v'
  | _, _, .bool b => by rw [ren]; exact .bool b
  | _, _, .int k n => by rw [ren]; exact .int k n
  | _, _, .float k b => by rw [ren]; exact .float k b
  | _, _, .string s => by rw [ren]; exact .string s
  | _, _, .nilp => by rw [ren]; exact .nilp
  | _, _, .ptr k o l e => by rw [ren]; exact .ptr (θ k) o l e
  | _, _, .nils => by rw [ren]; exact .nils
  | _, _, .slice k o o' n c cc l e h1 h2 h3 h4 => by rw [ren]; exact .slice (θ k) o o' n c cc l e h1 h2 h3 h4
  | _, _, .slicen k c a cc h h2 => by rw [ren]; exact .slicen (θ k) c a cc h h2
  | _, _, .junk c v' h => by rw [ren]; exact .junk c v' h
  | _, _, .nilm => by rw [ren]; exact .nilm
  | _, _, .map k l e => by rw [ren]; exact .map (θ k) l e
  | _, _, .func f ⟨x⟩ ⟨y⟩ x' y' h1 h2 => by rw [ren]; exact .func f _ _ x' y' (VRs.to_rens h1) (VRs.to_rens h2)
  | _, _, .nilFunc => by rw [ren]; exact .nilFunc
  | _, _, .nilIface => by rw [ren]; exact .nilIface
  | _, _, .iface t v v' h1 => by rw [ren]; exact .iface t _ v' (VR.to_ren h1)
  | _, _, .agg ⟨x⟩ x' h1 => by rw [ren]; exact .agg _ _ (VRs.to_rens h1)
  | _, _, .tuple ⟨x⟩ x' h1 => by rw [ren]; exact .tuple _ _ (VRs.to_rens h1)
theorem VRs.to_rens {ρ : Env} {θ : Nat → Nat} : ∀ {l l' : List Value}, VRs (ρ.on θ) l l' → VRs ρ (rens θ l) l'
  | _, _, .nil => by rw [rens]; exact .nil
  | _, _, .cons v v' l l' h1 h2 => by rw [rens]; exact .cons _ _ _ _ (VR.to_ren h1) (VRs.to_rens h2)
end

theorem VE.of_ren {ρ : Env} {θ : Nat → Nat} : ∀ (l : List MapEntry) {l' : List MapEntry}, VE ρ (l.map fun e => ⟨ren θ e.key, ren θ e.val, e.born⟩) l' → VE (ρ.on θ) l l'
  | [], l', h => by cases h; exact .nil
  | e :: l, l', h => by
    cases h with
    | cons _ k' _ v' n _ l' h1 h2 h3 => exact .cons e.key k' e.val v' e.born l l' (VR.of_ren _ h1) (VR.of_ren _ h2) (VE.of_ren l h3)
theorem VE.to_ren {ρ : Env} {θ : Nat → Nat} : ∀ {l l' : List MapEntry}, VE (ρ.on θ) l l' → VE ρ (l.map fun e => ⟨ren θ e.key, ren θ e.val, e.born⟩) l'
  | _, _, .nil => .nil
  | _, _, .cons k k' v v' n l l' h1 h2 h3 => .cons _ _ _ _ n _ _ (VR.to_ren h1) (VR.to_ren h2) (VE.to_ren h3)

theorem oneCell_ren (θ : Nat → Nat) (v : Value) : (ren θ v).oneCell' = v.oneCell' := by
  rcases v with _ | _ | _ | _ | _ | (_ | ⟨_, _, _ | _⟩) | ⟨(_ | ⟨_, _, _ | _⟩), _, _⟩ | (_ | _) | _ | ⟨_, ⟨_⟩, ⟨_⟩⟩ | _ | _ | ⟨⟨_⟩⟩ | ⟨⟨_⟩⟩ <;> simp [ren, Value.oneCell']

section
variable {D : Type}
def AObj.ren (θ : Nat → Nat) : AObj D → AObj D
  | .arr e cs => .arr e (rens θ cs)
  | .ro cs => .ro (rens θ cs)
  | .map es c => .map (es.map fun e => ⟨Abs.ren θ e.key, Abs.ren θ e.val, e.born⟩) c
  | .miter m s l n => .miter (θ m) s l n
  | .siter s p => .siter s p
  | .hi d => .hi d

theorem all_rens (θ : Nat → Nat) (l : List Value) : (rens θ l).all (·.oneCell') = l.all (·.oneCell') := by
  rw [rens_eq]
  induction l with
  | nil => rfl
  | cons v l ih => simp only [List.map_cons, List.all_cons, ih, oneCell_ren]
theorem rens_length (θ : Nat → Nat) (l : List Value) : (rens θ l).length = l.length := by rw [rens_eq, List.length_map]

variable {P : Program} {cfg : D → HRep} {ρ : Env} {θ : Nat → Nat} {w : World}

theorem ObjOk.of_ren {own : Nat → Prop} {k : Nat} {o : AObj D} (h : ObjOk P cfg ρ own (θ k) (o.ren θ) w) : ObjOk P cfg (ρ.on θ) own k o w := by
  cases o with
  | arr e cs =>
    rcases h with ⟨l, cs', h1, h2, h3, h4, h5, h6, h7, h8, h9⟩ | ⟨h1, h2, h3⟩
    · rw [rens_length] at h7 h8
      rw [all_rens] at h9
      exact .inl ⟨l, cs', h1, h2, h3, h4, h5, h6, h7, VRs.of_rens _ h8, h9⟩
    · refine .inr ⟨?_, h2, h3⟩
      have := rens_length θ cs
      rw [h1] at this
      exact List.eq_nil_of_length_eq_zero this.symm
  | ro cs =>
    refine ⟨h.1, fun hne => ?_⟩
    obtain ⟨l, cs', e, fr, h1, h3, h4, h5, h6⟩ := h.2 (fun e => hne (List.eq_nil_of_length_eq_zero (by rw [← rens_length θ cs, e]; rfl)))
    rw [rens_length] at h4 h5
    rw [all_rens] at h6
    exact ⟨l, cs', e, fr, h1, h3, h4, VRs.of_rens _ h5, h6⟩
  | map es c =>
    obtain ⟨l, es', h1, h2, h3, h4⟩ := h
    exact ⟨l, es', h1, h2, h3, VE.of_ren _ h4⟩
  | miter m s l n => exact h
  | siter s p => exact h
  | hi d => exact h
theorem ObjOk.to_ren {own : Nat → Prop} {k : Nat} {o : AObj D} (h : ObjOk P cfg (ρ.on θ) own k o w) : ObjOk P cfg ρ own (θ k) (o.ren θ) w := by
  cases o with
  | arr e cs =>
    rcases h with ⟨l, cs', h1, h2, h3, h4, h5, h6, h7, h8, h9⟩ | ⟨h1, h2, h3⟩
    · refine .inl ⟨l, cs', h1, h2, h3, h4, h5, h6, ?_, ?_, ?_⟩
      · rw [rens_length]; exact h7
      · rw [rens_length]; exact VRs.to_rens h8
      · rw [all_rens]; exact h9
    · subst h1; exact .inr ⟨by rw [rens], h2, h3⟩
  | ro cs =>
    refine ⟨h.1, fun hne => ?_⟩
    obtain ⟨l, cs', e, fr, h1, h3, h4, h5, h6⟩ := h.2 (fun e => hne (by rw [e, rens]))
    refine ⟨l, cs', e, fr, h1, h3, ?_, ?_, ?_⟩
    · rw [rens_length]; exact h4
    · rw [rens_length]; exact VRs.to_rens h5
    · rw [all_rens]; exact h6
  | map es c =>
    obtain ⟨l, es', h1, h2, h3, h4⟩ := h
    exact ⟨l, es', h1, h2, h3, VE.to_ren h4⟩
  | miter m s l n => exact h
  | siter s p => exact h
  | hi d => exact h
end

section
variable {D : Type} {P : Program} {cfg : D → HRep}

theorem AH.ext' {H H' : AH D} (h1 : H.next = H'.next) (h2 : ∀ k, H.get k = H'.get k) : H = H' := by
  cases H; cases H'
  simp only at h1 h2
  subst h1
  congr
  exact funext h2

/-- A few objects lie in a heap. -/
structure Emb (θ : Nat → Nat) (Hs H : AH D) : Prop where
  inj : ∀ i j, θ i = θ j → i = j
  lo : ∀ i, i < Hs.next → θ i < H.next
  hi : ∀ i, Hs.next ≤ i → θ i = H.next + (i - Hs.next)
  get : ∀ i, i < Hs.next → H.get (θ i) = (Hs.get i).map (·.ren θ)
  fresh : ∀ i, Hs.next ≤ i → Hs.get i = none


theorem Env.on_le {ρ ρ' : Env} (h : ρ.le ρ') (θ : Nat → Nat) : (ρ.on θ).le (ρ'.on θ) := fun k x hk => h (θ k) x hk

variable {θ : Nat → Nat} {Hs H : AH D}

theorem Emb.rel (e : Emb θ Hs H) {ρ : Env} {own : Nat → Nat → Prop} {w : World} (h : Rel P cfg ρ own H w) : Rel P cfg (ρ.on θ) (fun i b => Hs.get i ≠ none ∧ own (θ i) b) Hs w := by
  have glt : ∀ {i o}, Hs.get i = some o → i < Hs.next := fun {i o} ho => Nat.lt_of_not_le fun hle => by rw [e.fresh i hle] at ho; cases ho
  have gbig : ∀ {i o}, Hs.get i = some o → H.get (θ i) = some (o.ren θ) := fun {i o} ho => by rw [e.get i (glt ho), ho]; rfl
  have own_iff : ∀ {i o}, Hs.get i = some o → (fun b => Hs.get i ≠ none ∧ own (θ i) b) = own (θ i) := fun {i o} ho => by
    funext b; rw [ho]; simp
  refine ⟨e.fresh, fun k hk => ?_, fun k o ho => ?_, fun k hk b hb => hb.1 hk, fun k b hb => h.bound _ _ hb.2, fun k k' b hb hb' => e.inj _ _ (h.disj _ _ b hb.2 hb'.2), fun k cs hk hcs l hl k' hb => ?_⟩
  · show ρ.loc (θ k) = none
    rw [e.hi k hk]
    exact h.dom _ (by omega)
  · have := h.obj (θ k) _ (gbig ho)
    simp only [own_iff ho]
    exact this.of_ren
  · exact h.ro (θ k) _ (gbig hk) (fun e => hcs (List.eq_nil_of_length_eq_zero (by rw [← rens_length θ cs, e]; rfl))) l hl (θ k') hb.2

end
end Go.Abs
