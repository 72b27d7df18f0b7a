/- The model's bit operations on numbers of 64 bits that are not negative. No condition. -/
import Derived.WalkKit
namespace Go.Proofs.Ytaaaiagpbhiphaa
open Go.RowKit
theorem ofInt_64 (a : Nat) (ha : a < 9223372036854775808) : (BitVec.ofInt 64 (a : Int)).toNat = a := by
  rw [BitVec.ofInt_natCast, BitVec.toNat_ofNat]; exact Nat.mod_eq_of_lt (by omega)
theorem i64_xor_nat (a b : Nat) (ha : a < 9223372036854775808) (hb : b < 9223372036854775808) : bits .xor .i64 (a : Int) (b : Int) = ((a ^^^ b : Nat) : Int) := by
  have hx : a ^^^ b < 2 ^ 63 := Nat.xor_lt_two_pow (by omega) (by omega)
  show IntKind.i64.wrap ((BitVec.ofInt 64 (a : Int) ^^^ BitVec.ofInt 64 (b : Int)).toNat : Int) = _
  rw [BitVec.toNat_xor, ofInt_64 a ha, ofInt_64 b hb, IntKind.wrap_i64]
  omega
theorem i64_and_nat (a b : Nat) (ha : a < 9223372036854775808) (hb : b < 9223372036854775808) : bits .and .i64 (a : Int) (b : Int) = ((a &&& b : Nat) : Int) := by
  have hx : a &&& b < 2 ^ 63 := Nat.and_lt_two_pow _ (by omega)
  show IntKind.i64.wrap ((BitVec.ofInt 64 (a : Int) &&& BitVec.ofInt 64 (b : Int)).toNat : Int) = _
  rw [BitVec.toNat_and, ofInt_64 a ha, ofInt_64 b hb, IntKind.wrap_i64]
  omega
theorem i64_or_nat (a b : Nat) (ha : a < 9223372036854775808) (hb : b < 9223372036854775808) : bits .or .i64 (a : Int) (b : Int) = ((a ||| b : Nat) : Int) := by
  have hx : a ||| b < 2 ^ 63 := Nat.or_lt_two_pow (by omega) (by omega)
  show IntKind.i64.wrap ((BitVec.ofInt 64 (a : Int) ||| BitVec.ofInt 64 (b : Int)).toNat : Int) = _
  rw [BitVec.toNat_or, ofInt_64 a ha, ofInt_64 b hb, IntKind.wrap_i64]
  omega
theorem i64_xor_nonneg {a b : Int} (h0 : 0 ≤ a) (h1 : a < 9223372036854775808) (g0 : 0 ≤ b) (g1 : b < 9223372036854775808) : 0 ≤ bits .xor .i64 a b := by
  obtain ⟨A, rfl⟩ := Int.eq_ofNat_of_zero_le h0
  obtain ⟨B, rfl⟩ := Int.eq_ofNat_of_zero_le g0
  rw [i64_xor_nat A B (by omega) (by omega)]
  omega
theorem i64_and_mask {a : Int} (k : Nat) (hk : k ≤ 62) (h0 : 0 ≤ a) (h1 : a < 9223372036854775808) : bits .and .i64 a ((2 ^ k - 1 : Nat) : Int) = a % ((2 ^ k : Nat) : Int) := by
  obtain ⟨A, rfl⟩ := Int.eq_ofNat_of_zero_le h0
  have h2 : 2 ^ k ≤ 2 ^ 62 := Nat.pow_le_pow_right (by omega) hk
  rw [i64_and_nat A _ (by omega) (by omega), Nat.and_two_pow_sub_one_eq_mod, Int.natCast_emod]
theorem i64_and1 {a : Int} (h0 : 0 ≤ a) (h1 : a < 9223372036854775808) : bits .and .i64 a 1 = a % 2 := i64_and_mask 1 (by omega) h0 h1
theorem i64_and255 {a : Int} (h0 : 0 ≤ a) (h1 : a < 9223372036854775808) : bits .and .i64 a 255 = a % 256 := i64_and_mask 8 (by omega) h0 h1
theorem nat_xor7 : ∀ y : Nat, y < 256 → y ^^^ 7 = y + 7 - 2 * (y % 8) := by decide +kernel
theorem i64_xor7 {a : Int} (h0 : 0 ≤ a) (h1 : a ≤ 255) : bits .xor .i64 a 7 = a + 7 - 2 * (a % 8) := by
  obtain ⟨A, rfl⟩ := Int.eq_ofNat_of_zero_le h0
  have e := i64_xor_nat A 7 (by omega) (by omega)
  rw [nat_xor7 A (by omega)] at e
  rw [show ((7 : Int)) = ((7 : Nat) : Int) from rfl, e]
  omega
/-- The bits of two numbers that do not meet. -/
theorem i64_or_add {a y : Int} (k : Nat) (hk : k ≤ 40) (a0 : 0 ≤ a) (a1 : a < 2 ^ k) (y0 : 0 ≤ y) (y1 : y ≤ 127) : bits .or .i64 a (y * 2 ^ k) = a + y * 2 ^ k := by
  obtain ⟨A, rfl⟩ := Int.eq_ofNat_of_zero_le a0
  obtain ⟨Y, rfl⟩ := Int.eq_ofNat_of_zero_le y0
  have hA : A < 2 ^ k := by exact_mod_cast a1
  have hp : 2 ^ k ≤ 2 ^ 40 := Nat.pow_le_pow_right (by omega) hk
  have hy : Y * 2 ^ k ≤ 127 * 2 ^ 40 := Nat.mul_le_mul (by omega) hp
  have e : ((Y : Int) * 2 ^ k) = ((Y * 2 ^ k : Nat) : Int) := by push_cast; rfl
  rw [e, i64_or_nat A (Y * 2 ^ k) (by omega) (by omega), Nat.or_comm, Nat.mul_comm, ← Nat.two_pow_add_eq_or_of_lt hA Y]
  push_cast
  omega
/-- A quotient by a power of two. -/
theorem div_pow {x : Int} (h0 : 0 ≤ x) (i : Nat) : 0 ≤ x / 2 ^ i ∧ x / 2 ^ i ≤ x := by
  have hp : (0 : Int) < 2 ^ i := Int.pow_pos (by omega)
  exact ⟨Int.ediv_nonneg h0 (by omega), Int.ediv_le_self _ h0⟩
/-- A remainder of a number that is not negative. -/
theorem tmod_range {x m : Int} (hx : 0 ≤ x) (hm : 1 ≤ m) : 0 ≤ x.tmod m ∧ x.tmod m < m := by
  rw [Int.tmod_eq_emod_of_nonneg hx]
  exact ⟨Int.emod_nonneg _ (by omega), Int.emod_lt_of_pos _ (by omega)⟩
end Go.Proofs.Ytaaaiagpbhiphaa
