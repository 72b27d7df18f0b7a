/- Plain functions of the chapter of numbers as bytes. No program in sight. No condition. -/
import Derived.Test.YtaaaiagpbhiphaaPure
namespace Go.Proofs.Ytaaaiagpbhiphaa
theorem mulB {a b A B : Int} (a0 : 0 ≤ a) (a1 : a ≤ A) (b0 : 0 ≤ b) (b1 : b ≤ B) : 0 ≤ a * b ∧ a * b ≤ A * B :=
  ⟨Int.mul_nonneg a0 b0, Int.mul_le_mul a1 b1 b0 (by omega)⟩
def zzF (n : Int) : Int := if -1048576 ≤ n ∧ n ≤ 1048575 then (if n < 0 then -2 * n - 1 else 2 * n) else -1
def zgF (n : Int) : Int := if 0 ≤ n ∧ n ≤ 2097151 then (if n % 2 = 1 then -((n + 1) / 2) else n / 2) else 0
def varGo : Nat → Int → List Int
  | 0, n => [n]
  | f + 1, n => if n < 128 then [n] else (n % 128 + 128) :: varGo f (n / 128)
theorem varGo_small (f : Nat) {n : Int} (h : n < 128) : varGo f n = [n] := by
  cases f with
  | zero => rfl
  | succ f => rw [varGo, if_pos h]
theorem varGo_big (f : Nat) {n : Int} (h : ¬ n < 128) : varGo (f + 1) n = (n % 128 + 128) :: varGo f (n / 128) := by rw [varGo, if_neg h]
def varF (n : Int) : List Int := if 0 ≤ n ∧ n ≤ 2097151 then varGo 2 n else []
theorem varF_yes {n : Int} (h : 0 ≤ n ∧ n ≤ 2097151) : varF n = varGo 2 n := if_pos h
theorem varF_no {n : Int} (h : ¬ (0 ≤ n ∧ n ≤ 2097151)) : varF n = [] := if_neg h
/-- The three lengths. -/
theorem varF_one {n : Int} (h0 : 0 ≤ n) (h1 : n ≤ 127) : varF n = [n] := by rw [varF_yes (by omega), varGo_small _ (by omega)]
theorem varF_two {n : Int} (h0 : 128 ≤ n) (h1 : n ≤ 16383) : varF n = [n % 128 + 128, n / 128] := by
  rw [varF_yes (by omega), varGo_big _ (by omega), varGo_small _ (by omega)]
theorem varF_three {n : Int} (h0 : 16384 ≤ n) (h1 : n ≤ 2097151) : varF n = [n % 128 + 128, n / 128 % 128 + 128, n / 128 / 128] := by
  rw [varF_yes (by omega), varGo_big _ (by omega), varGo_big _ (by omega), varGo_small _ (by omega)]
theorem varF_len {n : Int} (h : 0 ≤ n ∧ n ≤ 2097151) : (n ≤ 127 ∧ (varF n).length = 1) ∨ (128 ≤ n ∧ n ≤ 16383 ∧ (varF n).length = 2) ∨ (16384 ≤ n ∧ (varF n).length = 3) := by
  by_cases h1 : n ≤ 127
  · exact .inl ⟨h1, by rw [varF_one h.1 h1]; rfl⟩
  · by_cases h2 : n ≤ 16383
    · exact .inr (.inl ⟨by omega, h2, by rw [varF_two (by omega) h2]; rfl⟩)
    · exact .inr (.inr ⟨by omega, by rw [varF_three (by omega) h.2]; rfl⟩)

def vgNo : Int × Int × Bool := (0, 0, false)
/-- Reads a number: f bytes at most, j read already, n so far: the number, how many bytes in all, whether it is one. -/
def vgGo : Nat → Nat → Int → List Int → Int × Int × Bool
  | 0, _, _, _ => vgNo
  | _ + 1, _, _, [] => vgNo
  | f + 1, j, n, x :: xs =>
    if x < 128 then (if (varF (n + x % 128 * 128 ^ j)).length = j + 1 then (n + x % 128 * 128 ^ j, (j : Int) + 1, true) else vgNo)
    else vgGo f (j + 1) (n + x % 128 * 128 ^ j) xs
def vgEnd (t : Int) (r : Int × Int × Bool) : Int × Int × Bool := if r.2.2 = true then (r.1, t + r.2.1, true) else vgNo
def vgF (xs : List Int) (at' : Int) : Int × Int × Bool :=
  if everyB 0 255 xs = true ∧ 0 ≤ at' ∧ at' ≤ xs.length then vgEnd at' (vgGo 3 0 0 (xs.drop at'.toNat)) else vgNo
theorem vgGo_zero (j : Nat) (n : Int) (xs : List Int) : vgGo 0 j n xs = vgNo := by rw [vgGo]
theorem vgGo_nil (f j : Nat) (n : Int) : vgGo f j n [] = vgNo := by cases f <;> rw [vgGo]
theorem vgGo_yes {f j : Nat} {n x : Int} {xs : List Int} (h : x < 128) (hl : (varF (n + x % 128 * 128 ^ j)).length = j + 1) : vgGo (f + 1) j n (x :: xs) = (n + x % 128 * 128 ^ j, (j : Int) + 1, true) := by rw [vgGo, if_pos h, if_pos hl]
theorem vgGo_no {f j : Nat} {n x : Int} {xs : List Int} (h : x < 128) (hl : ¬ (varF (n + x % 128 * 128 ^ j)).length = j + 1) : vgGo (f + 1) j n (x :: xs) = vgNo := by rw [vgGo, if_pos h, if_neg hl]
theorem vgGo_more {f j : Nat} {n x : Int} {xs : List Int} (h : ¬ x < 128) : vgGo (f + 1) j n (x :: xs) = vgGo f (j + 1) (n + x % 128 * 128 ^ j) xs := by rw [vgGo, if_neg h]
theorem vgEnd_no (t : Int) : vgEnd t vgNo = vgNo := by rw [vgEnd, if_neg (by decide)]
theorem vgEnd_yes (t n l : Int) : vgEnd t (n, l, true) = (n, t + l, true) := by rw [vgEnd, if_pos rfl]
theorem vgF_in {xs : List Int} {t : Nat} (h : everyB 0 255 xs = true) (ht : t ≤ xs.length) : vgF xs (t : Int) = vgEnd t (vgGo 3 0 0 (xs.drop t)) := by
  rw [vgF, if_pos ⟨h, by omega, by omega⟩]; rfl
theorem vgF_out {xs : List Int} {a : Int} (h : ¬ (everyB 0 255 xs = true ∧ 0 ≤ a ∧ a ≤ xs.length)) : vgF xs a = vgNo := if_neg h
theorem canon0 {x : Int} (h0 : 0 ≤ x) (h1 : x < 128) : varF (x % 128) = [x] := by rw [varF_one (by omega) (by omega)]; congr 1; omega
theorem canon1 {a x : Int} (a0 : 128 ≤ a) (a1 : a ≤ 255) (h0 : 0 ≤ x) (h1 : x < 128) (h : (varF (a % 128 + x % 128 * 128)).length = 2) : varF (a % 128 + x % 128 * 128) = [a, x] := by
  rcases varF_len (n := a % 128 + x % 128 * 128) (by omega) with ⟨_, e⟩ | ⟨g0, g1, _⟩ | ⟨_, e⟩
  · omega
  · rw [varF_two g0 g1]
    rw [show (a % 128 + x % 128 * 128) % 128 + 128 = a by omega, show (a % 128 + x % 128 * 128) / 128 = x by omega]
  · omega
theorem canon2 {a b x : Int} (a0 : 128 ≤ a) (a1 : a ≤ 255) (b0 : 128 ≤ b) (b1 : b ≤ 255) (h0 : 0 ≤ x) (h1 : x < 128) (h : (varF (a % 128 + b % 128 * 128 + x % 128 * 16384)).length = 3) :
    varF (a % 128 + b % 128 * 128 + x % 128 * 16384) = [a, b, x] := by
  rcases varF_len (n := a % 128 + b % 128 * 128 + x % 128 * 16384) (by omega) with ⟨_, e⟩ | ⟨_, _, e⟩ | ⟨g0, e⟩
  · omega
  · omega
  · rw [varF_three g0 (by omega)]
    rw [show (a % 128 + b % 128 * 128 + x % 128 * 16384) % 128 + 128 = a by omega, show (a % 128 + b % 128 * 128 + x % 128 * 16384) / 128 % 128 + 128 = b by omega, show (a % 128 + b % 128 * 128 + x % 128 * 16384) / 128 / 128 = x by omega]
theorem cut_snoc {xs : List Int} {t q : Nat} {x : Int} (ht : t ≤ q) (hx : xs[q]? = some x) : (xs.take (q + 1)).drop t = (xs.take q).drop t ++ [x] := by
  have hq : q < xs.length := (List.getElem?_eq_some_iff.1 hx).1
  rw [List.take_add_one, hx, List.drop_append_of_le_length (by rw [List.length_take]; omega)]; rfl
end Go.Proofs.Ytaaaiagpbhiphaa
