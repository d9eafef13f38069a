/-
  The abstract heap: values read over a table of places, heaps of rows and maps, and what it is for a world to be such a heap.
-/
import Derived.WalkKit
import Derived.Deep.Draws
set_option linter.unusedSimpArgs false
set_option linter.unusedVariables false
set_option linter.unnecessarySimpa false
set_option linter.unusedSectionVars false
namespace Go.Abs

/-! ### Values -/

/-- Where an abstract block lies: its block, the cell in it at which the key's first cell lies, how many cells the block has, how many an element of it. -/
structure Loc where
  b : Nat
  base : Nat
  tot : Nat
  s : Nat

structure Env where
  loc : Nat → Option Loc

mutual
/-- An abstract value and a value of the world. A slice's third number: 0: its capacity is not known; 1: not either, but it is the head of a whole row; m + 2: it is m. -/
inductive VR (ρ : Env) : Value → Value → Prop
  | bool (b : Bool) : VR ρ (.bool b) (.bool b)
  | int (k : IntKind) (n : Int) : VR ρ (.int k n) (.int k n)
  | float (k : FloatKind) (b : Nat) : VR ρ (.float k b) (.float k b)
  | string (s : ByteArray) : VR ρ (.string s) (.string s)
  | nilp : VR ρ (.pointer none) (.pointer none)
  | ptr (k o : Nat) (l : Loc) : ρ.loc k = some l → VR ρ (.pointer (some ⟨k, o, none⟩)) (.pointer (some ⟨l.b, l.base + o, none⟩))
  | nils : VR ρ (.slice none 0 0) (.slice none 0 0)
  | slice (k o o' n c cc : Nat) (l : Loc) : ρ.loc k = some l → n ≤ cc → (0 < n → o' = l.base + o) →
      (c = 1 → o = 0 ∧ o' = 0 ∧ l.base = 0 ∧ cc * l.s = l.tot ∧ cc ≤ maxLen) → (∀ m, c = m + 2 → cc = m) →
      VR ρ (.slice (some ⟨k, o, none⟩) n c) (.slice (some ⟨l.b, o', none⟩) n cc)
  | slicen (k c : Nat) (a : Option Addr) (cc : Nat) : c ≤ 1 → (c = 1 ∨ a = none → a = none ∧ cc = 0) → VR ρ (.slice (some ⟨k, 0, none⟩) 0 c) (.slice a 0 cc)
  | nilm : VR ρ (.map none) (.map none)
  | map (k : Nat) (l : Loc) : ρ.loc k = some l → VR ρ (.map (some k)) (.map (some l.b))
  | func (f : FuncId) (x y x' y' : Array Value) : VRs ρ x.toList x'.toList → VRs ρ y.toList y'.toList → VR ρ (.func (.func f) x y) (.func (.func f) x' y')
  | nilFunc : VR ρ .nilFunc .nilFunc
  | nilIface : VR ρ .nilIface .nilIface
  | iface (t : TypeId) (v v' : Value) : VR ρ v v' → VR ρ (.iface t v) (.iface t v')
  | agg (x x' : Array Value) : VRs ρ x.toList x'.toList → VR ρ (.agg x) (.agg x')
  | tuple (x x' : Array Value) : VRs ρ x.toList x'.toList → VR ρ (.tuple x) (.tuple x')
  | junk (c : Option Nat) (v' : Value) : v'.oneCell' = true → VR ρ (.chan c) v'
inductive VRs (ρ : Env) : List Value → List Value → Prop
  | nil : VRs ρ [] []
  | cons (v v' : Value) (l l' : List Value) : VR ρ v v' → VRs ρ l l' → VRs ρ (v :: l) (v' :: l')
end

def Env.le (ρ ρ' : Env) : Prop := ∀ k x, ρ.loc k = some x → ρ'.loc k = some x

theorem Env.le_refl (ρ : Env) : ρ.le ρ := fun _ _ h => h
theorem Env.le_trans {a b c : Env} (h : a.le b) (k : b.le c) : a.le c := fun i x hi => k i x (h i x hi)

mutual
theorem VR.mono {ρ ρ' : Env} (h : ρ.le ρ') : ∀ {v v' : Value}, VR ρ v v' → VR ρ' v v'
  | _, _, .bool b => .bool b
  | _, _, .int k n => .int k n
  | _, _, .float k b => .float k b
  | _, _, .string s => .string s
  | _, _, .nilp => .nilp
  | _, _, .ptr k o l e => .ptr k o l (h _ _ e)
  | _, _, .nils => .nils
  | _, _, .slice k o o' n c cc l e h1 h2 h3 h4 => .slice k o o' n c cc l (h _ _ e) h1 h2 h3 h4
  | _, _, .slicen k c a cc h1 h2 => .slicen k c a cc h1 h2
  | _, _, .nilm => .nilm
  | _, _, .map k l e => .map k l (h _ _ e)
  | _, _, .func f x y x' y' h1 h2 => .func f x y x' y' (VRs.mono h h1) (VRs.mono h h2)
  | _, _, .nilFunc => .nilFunc
  | _, _, .nilIface => .nilIface
  | _, _, .iface t v v' h1 => .iface t v v' (VR.mono h h1)
  | _, _, .agg x x' h1 => .agg x x' (VRs.mono h h1)
  | _, _, .tuple x x' h1 => .tuple x x' (VRs.mono h h1)
  | _, _, .junk c v' h1 => .junk c v' h1
theorem VRs.mono {ρ ρ' : Env} (h : ρ.le ρ') : ∀ {l l' : List Value}, VRs ρ l l' → VRs ρ' l l'
  | _, _, .nil => .nil
  | _, _, .cons v v' l l' h1 h2 => .cons v v' l l' (VR.mono h h1) (VRs.mono h h2)
end

theorem VRs.length {ρ : Env} : ∀ {l l' : List Value}, VRs ρ l l' → l.length = l'.length
  | _, _, .nil => rfl
  | _, _, .cons _ _ _ _ _ h => by simp [VRs.length h]

theorem VRs.get {ρ : Env} : ∀ {l l' : List Value}, VRs ρ l l' → ∀ {i : Nat} {v : Value}, l[i]? = some v → ∃ v', l'[i]? = some v' ∧ VR ρ v v'
  | _, _, .nil, i, v, h => by simp at h
  | _, _, .cons v v' l l' h1 h2, 0, u, h => by
    simp at h; subst h; exact ⟨v', by simp, h1⟩
  | _, _, .cons v v' l l' h1 h2, i + 1, u, h => by
    simp at h
    obtain ⟨u', hu, hr⟩ := VRs.get h2 h
    exact ⟨u', by simpa using hu, hr⟩

theorem VRs.of_get {ρ : Env} : ∀ {l l' : List Value}, l.length = l'.length → (∀ (i : Nat) (v v' : Value), l[i]? = some v → l'[i]? = some v' → VR ρ v v') → VRs ρ l l'
  | [], [], _, _ => .nil
  | [], _ :: _, h, _ => by simp at h
  | _ :: _, [], h, _ => by simp at h
  | v :: l, v' :: l', h, hg => .cons _ _ _ _ (hg 0 v v' (by simp) (by simp)) (VRs.of_get (by simpa using h) fun i u u' hu hu' => hg (i + 1) u u' (by simpa using hu) (by simpa using hu'))

theorem VRs.take {ρ : Env} {l l' : List Value} (h : VRs ρ l l') (n : Nat) : VRs ρ (l.take n) (l'.take n) :=
  VRs.of_get (by simp [h.length]) fun i v v' hv hv' => by
    rw [List.getElem?_take] at hv hv'
    split at hv
    · rename_i hi
      rw [if_pos hi] at hv'
      obtain ⟨u, hu, hr⟩ := h.get hv
      rw [hu] at hv'; cases hv'; exact hr
    · cases hv

theorem VRs.drop {ρ : Env} {l l' : List Value} (h : VRs ρ l l') (n : Nat) : VRs ρ (l.drop n) (l'.drop n) :=
  VRs.of_get (by simp [h.length]) fun i v v' hv hv' => by
    rw [List.getElem?_drop] at hv hv'
    obtain ⟨u, hu, hr⟩ := h.get hv
    rw [hu] at hv'; cases hv'; exact hr

theorem VRs.append {ρ : Env} : ∀ {l l' m m' : List Value}, VRs ρ l l' → VRs ρ m m' → VRs ρ (l ++ m) (l' ++ m')
  | _, _, _, _, .nil, h => h
  | _, _, _, _, .cons _ _ _ _ h1 h2, h => .cons _ _ _ _ h1 (VRs.append h2 h)

theorem VRs.set {ρ : Env} {l l' : List Value} (h : VRs ρ l l') (i : Nat) {v v' : Value} (hv : VR ρ v v') : VRs ρ (l.set i v) (l'.set i v') :=
  VRs.of_get (by simp [h.length]) fun j u u' hu hu' => by
    rw [List.getElem?_set] at hu hu'
    have hl := h.length
    split at hu
    · rename_i hij
      subst hij
      rw [if_pos rfl] at hu'
      split at hu
      · rename_i hlt
        rw [if_pos (by omega)] at hu'
        cases hu; cases hu'; exact hv
      · cases hu
    · rename_i hij
      rw [if_neg hij] at hu'
      obtain ⟨w, hw, hr⟩ := h.get hu
      rw [hw] at hu'; cases hu'; exact hr

/-! What an abstract value tells of the value. -/
theorem VR.bool_eq {ρ : Env} {b : Bool} {v : Value} (h : VR ρ (.bool b) v) : v = .bool b := by cases h; rfl
theorem VR.int_eq {ρ : Env} {k : IntKind} {n : Int} {v : Value} (h : VR ρ (.int k n) v) : v = .int k n := by cases h; rfl
theorem VR.float_eq {ρ : Env} {k : FloatKind} {n : Nat} {v : Value} (h : VR ρ (.float k n) v) : v = .float k n := by cases h; rfl
theorem VR.string_eq {ρ : Env} {s : ByteArray} {v : Value} (h : VR ρ (.string s) v) : v = .string s := by cases h; rfl
theorem VR.ptr_inv {ρ : Env} {k o : Nat} {v : Value} (h : VR ρ (.pointer (some ⟨k, o, none⟩)) v) :
    ∃ l, ρ.loc k = some l ∧ v = .pointer (some ⟨l.b, l.base + o, none⟩) := by cases h; exact ⟨_, ‹_›, rfl⟩
/-- A slice whose key is known; one without elements may be nil. -/
theorem VR.slice_inv {ρ : Env} {k o n c : Nat} {v : Value} (h : VR ρ (.slice (some ⟨k, o, none⟩) n c) v) :
    (∃ o' cc l, ρ.loc k = some l ∧ n ≤ cc ∧ (0 < n → o' = l.base + o) ∧ (c = 1 → o = 0 ∧ o' = 0 ∧ l.base = 0 ∧ cc * l.s = l.tot ∧ cc ≤ maxLen) ∧ (∀ m, c = m + 2 → cc = m) ∧
      v = .slice (some ⟨l.b, o', none⟩) n cc) ∨ (o = 0 ∧ n = 0 ∧ c ≤ 1 ∧ ∃ a cc, v = .slice a 0 cc ∧ (c = 1 ∨ a = none → a = none ∧ cc = 0)) := by
  cases h
  · exact .inl ⟨_, _, _, ‹_›, ‹_›, ‹_›, ‹_›, ‹_›, rfl⟩
  · exact .inr ⟨rfl, rfl, ‹_›, _, _, rfl, ‹_›⟩
theorem VR.map_inv {ρ : Env} {k : Nat} {v : Value} (h : VR ρ (.map (some k)) v) : ∃ l, ρ.loc k = some l ∧ v = .map (some l.b) := by cases h; exact ⟨_, ‹_›, rfl⟩
theorem VR.agg_inv {ρ : Env} {x : Array Value} {v : Value} (h : VR ρ (.agg x) v) : ∃ x', v = .agg x' ∧ VRs ρ x.toList x'.toList := by cases h; exact ⟨_, rfl, ‹_›⟩
theorem VR.tuple_inv {ρ : Env} {x : Array Value} {v : Value} (h : VR ρ (.tuple x) v) : ∃ x', v = .tuple x' ∧ VRs ρ x.toList x'.toList := by cases h; exact ⟨_, rfl, ‹_›⟩

theorem VR.undef (ρ : Env) : VR ρ undef undef := .tuple _ _ .nil

/-! Values that name no block. -/
mutual
def ground : Value → Bool
  | .bool _ | .int .. | .float .. | .string _ | .pointer none | .nilFunc | .nilIface | .map none => true
  | .slice none 0 0 => true
  | .iface _ v => ground v
  | .agg ⟨l⟩ | .tuple ⟨l⟩ => grounds l
  | _ => false
def grounds : List Value → Bool
  | [] => true
  | v :: l => ground v && grounds l
end

mutual
theorem VR.of_ground (ρ : Env) : ∀ (v : Value), ground v = true → VR ρ v v
  | .bool b, _ => .bool b
  | .int k n, _ => .int k n
  | .float k b, _ => .float k b
  | .complex .., h => by simp [ground] at h
  | .string s, _ => .string s
  | .pointer none, _ => .nilp
  | .pointer (some _), h => by simp [ground] at h
  | .slice none 0 0, _ => .nils
  | .slice none 0 (_ + 1), h => by simp [ground] at h
  | .slice none (_ + 1) _, h => by simp [ground] at h
  | .slice (some _) _ _, h => by simp [ground] at h
  | .map none, _ => .nilm
  | .map (some _), h => by simp [ground] at h
  | .chan _, h => by simp [ground] at h
  | .func .., h => by simp [ground] at h
  | .nilFunc, _ => .nilFunc
  | .nilIface, _ => .nilIface
  | .iface t v, h => .iface t v v (VR.of_ground ρ v (by simpa [ground] using h))
  | .agg ⟨l⟩, h => .agg _ _ (VRs.of_ground ρ l (by simpa [ground] using h))
  | .tuple ⟨l⟩, h => .tuple _ _ (VRs.of_ground ρ l (by simpa [ground] using h))
theorem VRs.of_ground (ρ : Env) : ∀ (l : List Value), grounds l = true → VRs ρ l l
  | [], _ => .nil
  | v :: l, h => .cons _ _ _ _ (VR.of_ground ρ v (by simp [grounds] at h; exact h.1)) (VRs.of_ground ρ l (by simp [grounds] at h; exact h.2))
end

mutual
theorem VR.ground_eq {ρ : Env} : ∀ {v v' : Value}, VR ρ v v' → ground v = true → v' = v
  | _, _, .bool b, _ => rfl
  | _, _, .int k n, _ => rfl
  | _, _, .float k b, _ => rfl
  | _, _, .string s, _ => rfl
  | _, _, .nilp, _ => rfl
  | _, _, .ptr .., h => by simp [ground] at h
  | _, _, .nils, _ => rfl
  | _, _, .slice .., h => by simp [ground] at h
  | _, _, .slicen .., h => by simp [ground] at h
  | _, _, .nilm, _ => rfl
  | _, _, .map .., h => by simp [ground] at h
  | _, _, .func .., h => by simp [ground] at h
  | _, _, .nilFunc, _ => rfl
  | _, _, .nilIface, _ => rfl
  | _, _, .iface t v v' h1, h => by rw [VR.ground_eq h1 (by simpa [ground] using h)]
  | _, _, .agg ⟨x⟩ ⟨x'⟩ h1, h => by have e := VRs.ground_eq h1 (by simpa [ground] using h); simp only at e; rw [e]
  | _, _, .junk .., h => by simp [ground] at h
  | _, _, .tuple ⟨x⟩ ⟨x'⟩ h1, h => by have e := VRs.ground_eq h1 (by simpa [ground] using h); simp only at e; rw [e]
theorem VRs.ground_eq {ρ : Env} : ∀ {l l' : List Value}, VRs ρ l l' → grounds l = true → l' = l
  | _, _, .nil, _ => rfl
  | _, _, .cons _ _ _ _ h1 h2, h => by
    simp [grounds] at h
    rw [VR.ground_eq h1 h.1, VRs.ground_eq h2 h.2]
end

end Go.Abs
