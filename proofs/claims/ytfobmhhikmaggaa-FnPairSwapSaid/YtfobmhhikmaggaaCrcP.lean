/- The checksum: what it computes, plainly. No program in sight. No condition. -/
import Derived.Test.YtfobmhhikmaggaaPutP
namespace Go.Proofs.Ytfobmhhikmaggaa
/-- One bit into the rest. -/
def crcStep (r b : Int) : Int := if r / 128 = b then r % 128 * 2 else r % 128 * 2 + 7 - 2 * (r % 128 * 2 % 8)
/-- The last j bits of a byte. -/
def crcGo (r x : Int) : Nat → Int
  | 0 => r
  | j + 1 => crcGo (crcStep r (x / 2 ^ j % 2)) x j
def crcByte (r x : Int) : Int := crcGo r x 8
def crcL (r : Int) : List Int → Int
  | [] => r
  | x :: xs => crcL (crcByte r x) xs
def crcF (xs : List Int) : Int := if everyB 0 255 xs = true ∧ xs.length ≤ 400 then crcL 0 xs else -1
theorem crcF_yes {xs : List Int} (h : everyB 0 255 xs = true) (hn : xs.length ≤ 400) : crcF xs = crcL 0 xs := if_pos ⟨h, hn⟩
theorem crcF_no {xs : List Int} (h : everyB 0 255 xs = true → ¬ xs.length ≤ 400) : crcF xs = -1 := if_neg fun ⟨a, b⟩ => h a b
theorem crcStep_range (r b : Int) : 0 ≤ crcStep r b ∧ crcStep r b ≤ 255 := by
  unfold crcStep; split <;> omega
theorem crcStep_yes {r b : Int} (h : r / 128 = b) : crcStep r b = r % 128 * 2 := if_pos h
theorem crcStep_no {r b : Int} (h : ¬ r / 128 = b) : crcStep r b = r % 128 * 2 + 7 - 2 * (r % 128 * 2 % 8) := if_neg h
theorem crcL_cons (r x : Int) (xs : List Int) : crcL r (x :: xs) = crcL (crcByte r x) xs := rfl
theorem crcL_nil (r : Int) : crcL r [] = r := rfl
theorem crcGo_zero (r x : Int) : crcGo r x 0 = r := rfl
theorem crcGo_succ (r x : Int) (j : Nat) : crcGo r x (j + 1) = crcGo (crcStep r (x / 2 ^ j % 2)) x j := rfl

/-- The three low bits turned, one by one. -/
def flipN (L : List Int) : Nat → List Int
  | 0 => L
  | j + 1 => (flipN L j).set (5 + j) (1 - (flipN L j).getD (5 + j) 0)
theorem flipN_succ (L : List Int) (j : Nat) : flipN L (j + 1) = (flipN L j).set (5 + j) (1 - (flipN L j).getD (5 + j) 0) := rfl
theorem flipN_len (L : List Int) (j : Nat) : (flipN L j).length = L.length := by
  induction j with
  | zero => rfl
  | succ j ih => rw [flipN_succ, List.length_set, ih]
theorem flip_all : ∀ n : Nat, n < 256 → getL 0 (flipN (putL (n : Int) 8) 3) = (n : Int) + 7 - 2 * ((n : Int) % 8) := by decide +kernel
theorem flip_eq {n : Int} (h0 : 0 ≤ n) (h1 : n ≤ 255) : getL 0 (flipN (putL n 8) 3) = n + 7 - 2 * (n % 8) := by
  obtain ⟨m, rfl⟩ := Int.eq_ofNat_of_zero_le h0
  exact flip_all m (by omega)
theorem flipN_bits (L : List Int) (h : everyB 0 1 L = true) (j : Nat) (hj : 5 + j ≤ L.length) : everyB 0 1 (flipN L j) = true := by
  induction j with
  | zero => exact h
  | succ j ih =>
    have h1 := ih (by omega)
    rw [flipN_succ]
    obtain ⟨x, hx⟩ : ∃ x, (flipN L j)[5 + j]? = some x := ⟨_, List.getElem?_eq_getElem (by rw [flipN_len]; omega)⟩
    have := everyB_get h1 hx
    refine everyB_set h1 ?_
    simp only [List.getD, hx, Option.getD_some]; omega
end Go.Proofs.Ytfobmhhikmaggaa
