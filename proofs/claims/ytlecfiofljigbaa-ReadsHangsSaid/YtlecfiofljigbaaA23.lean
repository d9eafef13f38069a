/-
  NEW NAMES for what is kept; what names something else says nothing.
-/
import Derived.Test.YtlecfiofljigbaaA22
set_option linter.unusedSimpArgs false
set_option linter.unusedVariables false
set_option linter.unnecessarySimpa false
set_option linter.unusedSectionVars false
namespace Go.Abs

def backP (o : Nat) : Option Nat → Value
  | some i => .pointer (some ⟨i, o, none⟩)
  | none => .chan none
def backS (o n c : Nat) : Option Nat → Value
  | some i => .slice (some ⟨i, o, none⟩) n c
  | none => .chan none
def backM : Option Nat → Value
  | some i => .map (some i)
  | none => .chan none

mutual
def back (κ : Nat → Option Nat) : Value → Value
  | .bool b => .bool b
  | .int k n => .int k n
  | .float k n => .float k n
  | .complex k a b => .complex k a b
  | .string s => .string s
  | .pointer none => .pointer none
  | .pointer (some ⟨k, o, none⟩) => backP o (κ k)
  | .pointer (some ⟨k, o, some x⟩) => .pointer (some ⟨k, o, some x⟩)
  | .slice none n c => .slice none n c
  | .slice (some ⟨k, o, none⟩) n c => backS o n c (κ k)
  | .slice (some ⟨k, o, some x⟩) n c => .slice (some ⟨k, o, some x⟩) n c
  | .map none => .map none
  | .map (some k) => backM (κ k)
  | .chan c => .chan c
  | .func f ⟨x⟩ ⟨y⟩ => .func f ⟨backs κ x⟩ ⟨backs κ y⟩
  | .nilFunc => .nilFunc
  | .nilIface => .nilIface
  | .iface t v => .iface t (back κ v)
  | .agg ⟨l⟩ => .agg ⟨backs κ l⟩
  | .tuple ⟨l⟩ => .tuple ⟨backs κ l⟩
def backs (κ : Nat → Option Nat) : List Value → List Value
  | [] => []
  | v :: l => back κ v :: backs κ l
end

mutual
theorem VR.back {ρ : Env} {θ : Nat → Nat} {κ : Nat → Option Nat} (hκ : ∀ k i, κ k = some i → θ i = k) : ∀ {v v' : Value}, VR ρ v v' → VR (ρ.on θ) (Abs.back κ v) v'
  | _, _, .bool b => by rw [Abs.back]; exact .bool b
  | _, _, .int k n => by rw [Abs.back]; exact .int k n
  | _, _, .float k b => by rw [Abs.back]; exact .float k b
  | _, _, .string s => by rw [Abs.back]; exact .string s
  | _, _, .nilp => by rw [Abs.back]; exact .nilp
  | _, _, .ptr k o l e => by
    rw [Abs.back]
    cases h : κ k with
    | none => exact .junk _ _ rfl
    | some i => exact .ptr i o l (by show ρ.loc (θ i) = _; rw [hκ k i h]; exact e)
  | _, _, .nils => by rw [Abs.back]; exact .nils
  | _, _, .slice k o o' n c cc l e h1 h2 h3 h4 => by
    rw [Abs.back]
    cases h : κ k with
    | none => exact .junk _ _ rfl
    | some i => exact .slice i o o' n c cc l (by show ρ.loc (θ i) = _; rw [hκ k i h]; exact e) h1 h2 h3 h4
  | _, _, .slicen k c a cc h1 h2 => by
    rw [Abs.back]
    cases h : κ k with
    | none => exact .junk _ _ rfl
    | some i => exact .slicen i c a cc h1 h2
  | _, _, .nilm => by rw [Abs.back]; exact .nilm
  | _, _, .map k l e => by
    rw [Abs.back]
    cases h : κ k with
    | none => exact .junk _ _ rfl
    | some i => exact .map i l (by show ρ.loc (θ i) = _; rw [hκ k i h]; exact e)
  | _, _, .junk c v' h => by rw [Abs.back]; exact .junk c v' h
  | _, _, .func f ⟨x⟩ ⟨y⟩ x' y' h1 h2 => by rw [Abs.back]; exact .func f _ _ x' y' (VRs.backs hκ h1) (VRs.backs hκ h2)
  | _, _, .nilFunc => by rw [Abs.back]; exact .nilFunc
  | _, _, .nilIface => by rw [Abs.back]; exact .nilIface
  | _, _, .iface t v v' h1 => by rw [Abs.back]; exact .iface t _ v' (VR.back hκ h1)
  | _, _, .agg ⟨x⟩ x' h1 => by rw [Abs.back]; exact .agg _ _ (VRs.backs hκ h1)
  | _, _, .tuple ⟨x⟩ x' h1 => by rw [Abs.back]; exact .tuple _ _ (VRs.backs hκ h1)
theorem VRs.backs {ρ : Env} {θ : Nat → Nat} {κ : Nat → Option Nat} (hκ : ∀ k i, κ k = some i → θ i = k) : ∀ {l l' : List Value}, VRs ρ l l' → VRs (ρ.on θ) (Abs.backs κ l) l'
  | _, _, .nil => by rw [Abs.backs]; exact .nil
  | _, _, .cons _ _ _ _ h1 h2 => by rw [Abs.backs]; exact .cons _ _ _ _ (VR.back hκ h1) (VRs.backs hκ h2)
end

mutual
theorem back_ground (κ : Nat → Option Nat) : ∀ (v : Value), ground v = true → back κ v = v
  | .bool b, _ => by rw [back]
  | .int k n, _ => by rw [back]
  | .float k b, _ => by rw [back]
  | .complex .., h => by simp [ground] at h
  | .string s, _ => by rw [back]
  | .pointer none, _ => by rw [back]
  | .pointer (some _), h => by simp [ground] at h
  | .slice none n c, _ => by rw [back]
  | .slice (some _) _ _, h => by simp [ground] at h
  | .map none, _ => by rw [back]
  | .map (some _), h => by simp [ground] at h
  | .chan _, h => by simp [ground] at h
  | .func .., h => by simp [ground] at h
  | .nilFunc, _ => by rw [back]
  | .nilIface, _ => by rw [back]
  | .iface t v, h => by rw [back, back_ground κ v (by simpa [ground] using h)]
  | .agg ⟨l⟩, h => by rw [back, backs_ground κ l (by simpa [ground] using h)]
  | .tuple ⟨l⟩, h => by rw [back, backs_ground κ l (by simpa [ground] using h)]
theorem backs_ground (κ : Nat → Option Nat) : ∀ (l : List Value), grounds l = true → backs κ l = l
  | [], _ => by rw [backs]
  | v :: l, h => by
    simp [grounds] at h
    rw [backs, back_ground κ v h.1, backs_ground κ l h.2]
end
end Go.Abs
