/- Bytes that were bits, plainly. No program in sight. No condition. -/
import Derived.Test.YtfpieikheofbgaaBitsQ
import Derived.Test.YtfpieikheofbgaaKit
namespace Go.Proofs.Ytfpieikheofbgaa
open Go.RowKit
theorem getput8 {x : Int} (h0 : 0 ≤ x) (h1 : x ≤ 255) : getL 0 (putL x 8) = x := by
  simp [putL, getL]; omega
theorem flat_drop (xs : List Int) : ∀ i, (flatL xs).drop (8 * i) = flatL (xs.drop i) := by
  induction xs with
  | nil => intro i; simp [flatL]
  | cons x xs ih =>
    intro i
    cases i with
    | zero => rfl
    | succ i =>
      rw [List.drop_succ_cons, ← ih i, flatL_cons, List.drop_append, putL_len, List.drop_eq_nil_of_le (by rw [putL_len]; omega), List.nil_append]
      congr 1
theorem pack_flat {xs : List Int} (hv : everyB 0 255 xs = true) : packN xs.length (flatL xs) = xs := by
  apply List.ext_getElem?
  intro i
  by_cases hi : i < xs.length
  · obtain ⟨x, hx, hd⟩ := drop_cons (xs := xs) hi
    have hxb := everyB_get hv hx
    rw [packN_get _ hi, hx, chunk, flat_drop, hd, flatL_cons, List.take_append_of_le_length (by rw [putL_len]; omega), List.take_of_length_le (by rw [putL_len]; omega), getput8 hxb.1 hxb.2]
  · rw [List.getElem?_eq_none (by rw [packN_len]; omega), List.getElem?_eq_none (by omega)]
theorem bb_flat {xs : List Int} (hv : everyB 0 255 xs = true) (hl : 8 * xs.length ≤ 600) : bbF (flatL xs) = (xs, true) := by
  rw [bbF_yes (n := 8 * xs.length) (q := xs.length) (bitsB_iff.2 ⟨flatL_bits xs, by rw [flatL_len]; exact hl⟩) (flatL_len xs) (by omega), fillQ,
    List.take_of_length_le (by rw [flatL_len]; omega), Nat.sub_self, List.replicate_zero, List.append_nil, pack_flat hv]
end Go.Proofs.Ytfpieikheofbgaa
