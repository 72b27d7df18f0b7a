/- The bits of a number, plainly. No program in sight. No condition. -/
import Derived.Test.YtfpieikheofbgaaPure
namespace Go.Proofs.Ytfpieikheofbgaa
/-- The low w bits of a number, the greatest first. -/
def putL (n : Int) : Nat → List Int
  | 0 => []
  | w + 1 => putL (n / 2) w ++ [n % 2]
/-- The number of some bits. -/
def getL (a : Int) : List Int → Int
  | [] => a
  | x :: xs => getL (2 * a + x) xs
theorem putL_len (w : Nat) : ∀ n : Int, (putL n w).length = w := by
  induction w with
  | zero => intro n; rfl
  | succ w ih => intro n; rw [putL, List.length_append, ih]; rfl
theorem putL_succ (n : Int) (w : Nat) : putL n (w + 1) = putL (n / 2) w ++ [n % 2] := rfl
theorem putL_get (w : Nat) : ∀ (n : Int) (i : Nat), i < w → (putL n w)[w - 1 - i]? = some (n / 2 ^ i % 2) := by
  induction w with
  | zero => intro n i h; omega
  | succ w ih =>
    intro n i hi
    rw [putL]
    cases i with
    | zero =>
      rw [List.getElem?_append_right (by rw [putL_len]; omega), putL_len, show w + 1 - 1 - 0 - w = 0 by omega]
      simp
    | succ i =>
      rw [List.getElem?_append_left (by rw [putL_len]; omega), show w + 1 - 1 - (i + 1) = w - 1 - i by omega, ih (n / 2) i (by omega)]
      rw [Int.ediv_ediv_of_nonneg (by omega : (0 : Int) ≤ 2), Int.pow_succ, Int.mul_comm]
theorem putL_bits (w : Nat) : ∀ n : Int, everyB 0 1 (putL n w) = true := by
  induction w with
  | zero => intro n; rfl
  | succ w ih =>
    intro n
    rw [putL, everyB_append, ih, Bool.true_and, everyB_cons, everyB_nil, Bool.and_true, inB_iff]; omega
theorem getL_append (xs ys : List Int) : ∀ a, getL a (xs ++ ys) = getL (getL a xs) ys := by
  induction xs with
  | nil => intro a; rfl
  | cons x xs ih => intro a; exact ih _
theorem getL_cons (a x : Int) (xs : List Int) : getL a (x :: xs) = getL (2 * a + x) xs := rfl
theorem getL_nil (a : Int) : getL a [] = a := rfl
/-- The round's step of l1Put. -/
theorem put_set (j : Nat) (x : Int) (tl : List Int) : (List.replicate (j + 1) 0 ++ tl).set j x = List.replicate j 0 ++ (x :: tl) := by
  rw [List.replicate_succ', List.append_assoc, List.set_append_right _ _ (by simp), List.length_replicate, Nat.sub_self]; rfl
theorem put_at (j : Nat) (tl : List Int) : (List.replicate (j + 1) (0 : Int) ++ tl)[j]? = some 0 := by
  rw [List.replicate_succ', List.append_assoc, List.getElem?_append_right (by simp), List.length_replicate, Nat.sub_self]; rfl
theorem pow_small {k m : Nat} (h : k ≤ m) : (2 : Int) ^ k ≤ 2 ^ m := by
  have h1 : 2 ^ k ≤ 2 ^ m := Nat.pow_le_pow_right (by omega) h
  exact_mod_cast h1
end Go.Proofs.Ytfpieikheofbgaa
