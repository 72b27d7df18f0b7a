/- Bits, plainly. No program in sight. No condition. -/
import Derived.Test.YtfpieikheofbgaaPutP
import Derived.Test.YtfpieikheofbgaaBitsL
namespace Go.Proofs.Ytfpieikheofbgaa
open Go.RowKit
def bitsB (xs : List Int) : Bool := everyB 0 1 xs && decide (xs.length ≤ 600)
theorem bitsB_short {xs : List Int} (h : xs.length ≤ 600) : bitsB xs = everyB 0 1 xs := by rw [bitsB, decide_eq_true h, Bool.and_true]
theorem bitsB_long {xs : List Int} (h : ¬ xs.length ≤ 600) : bitsB xs = false := by rw [bitsB, decide_eq_false h, Bool.and_false]
theorem bitsB_iff {xs : List Int} : bitsB xs = true ↔ everyB 0 1 xs = true ∧ xs.length ≤ 600 := by simp [bitsB]
def bputF (xs : List Int) (n m : Int) : List Int × Bool :=
  if bitsB xs = true ∧ 0 ≤ m ∧ m ≤ 16 ∧ 0 ≤ n ∧ n < 2 ^ m.toNat ∧ xs.length + m ≤ 600 then (xs ++ putL n m.toNat, true) else ([], false)
theorem bputF_no {xs : List Int} {n m : Int} (h : ¬ (bitsB xs = true ∧ 0 ≤ m ∧ m ≤ 16 ∧ 0 ≤ n ∧ n < 2 ^ m.toNat ∧ xs.length + m ≤ 600)) : bputF xs n m = ([], false) := if_neg h
theorem bputF_yes {xs : List Int} {n : Int} {m : Nat} (h : bitsB xs = true) (hm : m ≤ 16) (h0 : 0 ≤ n) (h1 : n < 2 ^ m) (hl : xs.length + m ≤ 600) : bputF xs n m = (xs ++ putL n m, true) :=
  if_pos ⟨h, by omega, by omega, h0, h1, by omega⟩
def bgetF (xs : List Int) (t m : Int) : Int × Bool :=
  if bitsB xs = true ∧ 0 ≤ m ∧ m ≤ 16 ∧ 0 ≤ t ∧ t + m ≤ xs.length then (getL 0 ((xs.drop t.toNat).take m.toNat), true) else (0, false)
theorem bgetF_no {xs : List Int} {t m : Int} (h : ¬ (bitsB xs = true ∧ 0 ≤ m ∧ m ≤ 16 ∧ 0 ≤ t ∧ t + m ≤ xs.length)) : bgetF xs t m = (0, false) := if_neg h
theorem bgetF_yes {xs : List Int} {t m : Nat} (h : bitsB xs = true) (hm : m ≤ 16) (hl : t + m ≤ xs.length) : bgetF xs t m = (getL 0 ((xs.drop t).take m), true) :=
  if_pos ⟨h, by omega, by omega, by omega, by omega⟩
def flatL : List Int → List Int
  | [] => []
  | x :: xs => putL x 8 ++ flatL xs
theorem flatL_nil : flatL [] = [] := rfl
theorem flatL_cons (x : Int) (xs : List Int) : flatL (x :: xs) = putL x 8 ++ flatL xs := rfl
theorem flatL_len (xs : List Int) : (flatL xs).length = 8 * xs.length := by
  induction xs with
  | nil => rfl
  | cons x xs ih => rw [flatL, List.length_append, putL_len, ih, List.length_cons]; omega
theorem flatL_append (xs ys : List Int) : flatL (xs ++ ys) = flatL xs ++ flatL ys := by
  induction xs with
  | nil => rfl
  | cons x xs ih => rw [List.cons_append, flatL, flatL, ih, List.append_assoc]
theorem flatL_bits (xs : List Int) : everyB 0 1 (flatL xs) = true := by
  induction xs with
  | nil => rfl
  | cons x xs ih => rw [flatL, everyB_append, putL_bits, ih]; rfl
def byF (xs : List Int) : List Int × Bool := if everyB 0 255 xs = true ∧ 8 * xs.length ≤ 600 then (flatL xs, true) else ([], false)
theorem byF_no {xs : List Int} (h : ¬ (everyB 0 255 xs = true ∧ 8 * xs.length ≤ 600)) : byF xs = ([], false) := if_neg h
theorem byF_yes {xs : List Int} (h : everyB 0 255 xs = true) (hl : 8 * xs.length ≤ 600) : byF xs = (flatL xs, true) := if_pos ⟨h, hl⟩
theorem put_take {n : Int} {m i : Nat} (h : i < m) : (putL n m).take (m - (i + 1)) ++ [n / 2 ^ i % 2] = (putL n m).take (m - i) := by
  have e := putL_get m n i h
  rw [show m - 1 - i = m - (i + 1) by omega] at e
  rw [show m - i = m - (i + 1) + 1 by omega, List.take_add_one, e]; rfl
theorem i64_or_low {a x : Int} (k : Nat) (hk : k ≤ 20) (a0 : 0 ≤ a) (a1 : a ≤ 1000000) (x0 : 0 ≤ x) (x1 : x < 2 ^ k) : bits .or .i64 (a * 2 ^ k) x = a * 2 ^ k + x := by
  obtain ⟨A, rfl⟩ := Int.eq_ofNat_of_zero_le a0
  obtain ⟨X, rfl⟩ := Int.eq_ofNat_of_zero_le x0
  have hX : X < 2 ^ k := by exact_mod_cast x1
  have hp : 2 ^ k ≤ 2 ^ 20 := Nat.pow_le_pow_right (by omega) hk
  have hy : A * 2 ^ k ≤ 1000000 * 2 ^ 20 := Nat.mul_le_mul (by omega) hp
  have e : ((A : Int) * 2 ^ k) = ((A * 2 ^ k : Nat) : Int) := by push_cast; rfl
  rw [e, i64_or_nat (A * 2 ^ k) X (by omega) (by omega), Nat.mul_comm, ← Nat.two_pow_add_eq_or_of_lt hX A]
  push_cast; rfl
theorem i64_or_bit {a x : Int} (a0 : 0 ≤ a) (a1 : a ≤ 1000000) (x0 : 0 ≤ x) (x1 : x ≤ 1) : bits .or .i64 (a * 2) x = 2 * a + x := by
  have e := i64_or_low (a := a) (x := x) 1 (by omega) a0 a1 x0 (by omega)
  rw [show (2 : Int) ^ 1 = 2 by decide] at e
  rw [e, Int.mul_comm]
end Go.Proofs.Ytfpieikheofbgaa
