/-
  NUMBERS: plain facts.
-/
import Derived.Test.YtlecfiofljigbaaA30
set_option linter.unusedSimpArgs false
set_option linter.unusedVariables false
set_option linter.unnecessarySimpa false
set_option linter.unusedSectionVars false
namespace Go.Abs

theorem wrap_u64 {n : Int} (h0 : 0 ≤ n) (h1 : n < 18446744073709551616) : IntKind.u64.wrap n = n := by
  simp [IntKind.wrap, IntKind.bits, IntKind.signed]
  omega
theorem wrap_i64 {n : Int} (h0 : -9223372036854775808 ≤ n) (h1 : n < 9223372036854775808) : IntKind.i64.wrap n = n := by
  simp [IntKind.wrap, IntKind.bits, IntKind.signed]
  omega

theorem bAndNot_sign {v : Int} (h0 : 0 ≤ v) (h1 : v < 18446744073709551616) : bAndNot .u64 v 9223372036854775808 = ((v.toNat % 9223372036854775808 : Nat) : Int) := by
  unfold bAndNot
  have e : (BitVec.ofInt IntKind.u64.bits v &&& ~~~BitVec.ofInt IntKind.u64.bits 9223372036854775808).toNat = v.toNat % 9223372036854775808 := by
    show (BitVec.ofInt 64 v &&& ~~~BitVec.ofInt 64 9223372036854775808).toNat = _
    have e2 : (~~~BitVec.ofInt 64 9223372036854775808).toNat = 2 ^ 63 - 1 := by decide
    have e1 : (v % ((2 ^ 64 : Nat) : Int)).toNat = v.toNat := by omega
    rw [BitVec.toNat_and, BitVec.toNat_ofInt, e2, e1]
    exact Nat.and_two_pow_sub_one_eq_mod v.toNat 63
  rw [e]
  exact wrap_u64 (by omega) (by omega)

theorem order_self (x : Nat) : (FloatKind.f64.format.order x x == some .eq) = decide (x % 9223372036854775808 ≤ 9218868437227405312) := by
  have h : FloatKind.f64.format.order x x = ((FloatKind.f64.format.read x).order (FloatKind.f64.format.read x)) := rfl
  have self : ∀ d : Ieee.Datum, (d.order d == some .eq) = !d.isNaN := by
    intro d
    cases d with
    | number s m i => simp [Ieee.Datum.order, Ieee.Datum.isNaN, Std.ReflCmp.compare_self]
    | infinity s => simp [Ieee.Datum.order, Ieee.Datum.isNaN, Std.ReflCmp.compare_self]
    | nan s t => simp [Ieee.Datum.order, Ieee.Datum.isNaN]
  rw [h, self]
  have e1 : FloatKind.f64.format.signWeight = 9223372036854775808 := by decide
  have e2 : FloatKind.f64.format.infRung = 9218868437227405312 := by decide
  unfold Ieee.Format.read
  simp only [e1, e2]
  have e3 : FloatKind.f64.format.binade = 4503599627370496 := by decide
  simp only [e3]
  split
  · rename_i h; simp [Ieee.Datum.isNaN]; omega
  · split
    · simp [Ieee.Datum.isNaN]; omega
    · split
      · simp [Ieee.Datum.isNaN]; omega
      · simp [Ieee.Datum.isNaN]; omega

end Go.Abs
