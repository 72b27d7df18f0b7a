/- Bits in bytes, plainly. No program in sight. No condition. -/
import Derived.Test.YtfpieikheofbgaaBitsP
namespace Go.Proofs.Ytfpieikheofbgaa
open Go.RowKit
def chunk (ys : List Int) (i : Nat) : Int := getL 0 ((ys.drop (8 * i)).take 8)
def packN (q : Nat) (ys : List Int) : List Int := (List.range q).map (chunk ys)
theorem packN_len (q : Nat) (ys : List Int) : (packN q ys).length = q := by simp [packN]
theorem packN_succ (q : Nat) (ys : List Int) : packN (q + 1) ys = packN q ys ++ [chunk ys q] := by simp [packN, List.range_succ]
theorem packN_get {q i : Nat} (ys : List Int) (h : i < q) : (packN q ys)[i]? = some (chunk ys i) := by
  rw [packN, List.getElem?_map, List.getElem?_range h]; rfl
def fillQ (q k : Nat) (xs : List Int) : List Int := xs.take k ++ List.replicate (8 * q - k) 0
def bbF (xs : List Int) : List Int × Bool := if bitsB xs = true then (packN ((xs.length + 7) / 8) (fillQ ((xs.length + 7) / 8) xs.length xs), true) else ([], false)
theorem bbF_no {xs : List Int} (h : bitsB xs = false) : bbF xs = ([], false) := if_neg (by rw [h]; decide)
theorem bbF_yes {xs : List Int} {n q : Nat} (h : bitsB xs = true) (hn : xs.length = n) (hq : (n + 7) / 8 = q) : bbF xs = (packN q (fillQ q n xs), true) := by subst hn; subst hq; exact if_pos h
theorem getL_zeros (z : Nat) : ∀ a : Int, getL a (List.replicate z 0) = a * 2 ^ z := by
  induction z with
  | zero => intro a; simp [getL]
  | succ z ih => intro a; rw [List.replicate_succ, getL, ih, Int.pow_succ, Int.add_zero, Int.mul_comm 2 a, Int.mul_assoc, Int.mul_comm 2]
theorem fillQ_len {q k : Nat} {xs : List Int} (hk : k ≤ xs.length) (hq : xs.length ≤ 8 * q) : (fillQ q k xs).length = 8 * q := by
  rw [fillQ, List.length_append, List.length_take, List.length_replicate]; omega
theorem fillQ_set {q k : Nat} {xs : List Int} {x : Int} (hx : xs[k]? = some x) (hq : xs.length ≤ 8 * q) : (fillQ q k xs).set k x = fillQ q (k + 1) xs := by
  have hk : k < xs.length := (List.getElem?_eq_some_iff.1 hx).1
  rw [fillQ, fillQ, List.set_append_right _ _ (by rw [List.length_take]; omega), List.length_take, Nat.min_eq_left (by omega), Nat.sub_self]
  obtain ⟨z, hz⟩ : ∃ z, 8 * q - k = z + 1 := ⟨8 * q - k - 1, by omega⟩
  rw [hz, List.replicate_succ, List.set_cons_zero, show 8 * q - (k + 1) = z by omega, List.take_add_one, hx, List.append_assoc]; rfl
theorem chunk_set_far {ys : List Int} {k i : Nat} {x : Int} (h : i ≠ k / 8) : chunk (ys.set k x) i = chunk ys i := by
  unfold chunk
  rw [List.drop_set]
  by_cases h1 : k < 8 * i
  · rw [if_pos h1]
  · rw [if_neg h1, List.take_set, List.set_eq_of_length_le (by rw [List.length_take]; omega)]
theorem getL_range (xs : List Int) (hv : everyB 0 1 xs = true) : ∀ a : Int, 0 ≤ a → 0 ≤ getL a xs ∧ getL a xs + 1 ≤ (a + 1) * 2 ^ xs.length := by
  induction xs with
  | nil => intro a h; simp [getL]; exact h
  | cons x xs ih =>
    intro a h
    rw [everyB_cons, Bool.and_eq_true, inB_iff] at hv
    obtain ⟨h1, h2⟩ := ih hv.2 (2 * a + x) (by omega)
    refine ⟨h1, Int.le_trans h2 ?_⟩
    rw [List.length_cons, Int.pow_succ, Int.mul_comm (2 ^ xs.length) 2, ← Int.mul_assoc]
    exact Int.mul_le_mul_of_nonneg_right (by omega) (Int.le_of_lt (Int.pow_pos (by omega)))
theorem chunk_at {q k j p : Nat} {xs : List Int} (hk : k < xs.length) (hq : xs.length ≤ 8 * q) (hj : k = 8 * j + p) (hp : p < 8) :
    ((fillQ q k xs).drop (8 * j)).take 8 = (xs.take k).drop (8 * j) ++ List.replicate (8 - p) 0 := by
  have hl : ((xs.take k).drop (8 * j)).length = p := by rw [List.length_drop, List.length_take]; omega
  rw [fillQ, List.drop_append_of_le_length (by rw [List.length_take]; omega), List.take_append, hl, List.take_of_length_le (by omega), List.take_replicate]
  congr 2; omega
/-- The byte under way, and the next bit in it. -/
theorem chunk_fill {q k j p : Nat} {xs : List Int} (hv : everyB 0 1 xs = true) (hk : k < xs.length) (hq : xs.length ≤ 8 * q) (hj : k = 8 * j + p) (hp : p < 8) :
    ∃ g : Int, 0 ≤ g ∧ g ≤ 255 ∧ chunk (fillQ q k xs) j = g * 2 ^ (8 - p) ∧ ∀ x, chunk ((fillQ q k xs).set k x) j = (2 * g + x) * 2 ^ (7 - p) := by
  have hl : ((xs.take k).drop (8 * j)).length = p := by rw [List.length_drop, List.length_take]; omega
  have hc := chunk_at hk hq hj hp
  obtain ⟨r0, r1⟩ := getL_range _ (everyB_drop (everyB_take hv k) (8 * j)) 0 (by omega)
  rw [hl, Int.zero_add, Int.one_mul] at r1
  have hp2 := pow_small (k := p) (m := 8) (by omega)
  refine ⟨getL 0 ((xs.take k).drop (8 * j)), r0, by omega, ?_, fun x => ?_⟩
  · rw [chunk, hc, getL_append, getL_zeros]
  · rw [chunk, List.drop_set, if_neg (by omega), List.take_set, hc, show k - 8 * j = p by omega, List.set_append_right _ _ (by omega), hl, Nat.sub_self,
      show 8 - p = (7 - p) + 1 by omega, List.replicate_succ, List.set_cons_zero, getL_append, getL_cons, getL_zeros]
/-- One round of the packing. -/
theorem pack_step {q k j p : Nat} {xs : List Int} {x : Int} (hv : everyB 0 1 xs = true) (hx : xs[k]? = some x) (hq : xs.length ≤ 8 * q) (hj : k = 8 * j + p) (hp : p < 8) :
    ∃ v : Int, (packN q (fillQ q k xs))[j]? = some v ∧ 0 ≤ v ∧ v ≤ 65280 ∧ bits .or .i64 v (x * 2 ^ (7 - p)) = v + x * 2 ^ (7 - p) ∧ (packN q (fillQ q k xs)).set j (v + x * 2 ^ (7 - p)) = packN q (fillQ q (k + 1) xs) := by
  have hk : k < xs.length := (List.getElem?_eq_some_iff.1 hx).1
  have hxb := everyB_get hv hx
  obtain ⟨g, g0, g1, hc, hs⟩ := chunk_fill (q := q) hv hk hq hj hp
  have e8 : (2 : Int) ^ (8 - p) = 2 * 2 ^ (7 - p) := by rw [show 8 - p = (7 - p) + 1 by omega, Int.pow_succ, Int.mul_comm]
  have hpp : (0 : Int) < 2 ^ (7 - p) := Int.pow_pos (by omega)
  have hp7 : (2 : Int) ^ (7 - p) ≤ 2 ^ 7 := pow_small (by omega)
  have hx2 : 0 ≤ x * 2 ^ (7 - p) ∧ x * 2 ^ (7 - p) < 2 ^ (8 - p) := by
    rw [e8]
    rcases (show x = 0 ∨ x = 1 by omega) with rfl | rfl <;> omega
  have hgv : 0 ≤ g * 2 ^ (8 - p) ∧ g * 2 ^ (8 - p) ≤ 255 * 256 :=
    ⟨Int.mul_nonneg g0 (by omega), Int.mul_le_mul g1 (by omega) (by omega) (by omega)⟩
  refine ⟨g * 2 ^ (8 - p), by rw [packN_get _ (by omega), hc], hgv.1, by omega, i64_or_low (8 - p) (by omega) g0 (by omega) hx2.1 hx2.2, ?_⟩
  rw [← fillQ_set hx hq]
  apply List.ext_getElem?
  intro i
  by_cases hi : i < q
  · rw [packN_get _ hi]
    by_cases hij : i = j
    · subst hij
      rw [List.getElem?_set_self (by rw [packN_len]; exact hi), hs, e8, Int.add_mul, Int.mul_comm 2 g, Int.mul_assoc]
    · rw [List.getElem?_set_ne (by omega), packN_get _ hi, chunk_set_far (by omega)]
  · rw [List.getElem?_eq_none (by rw [List.length_set, packN_len]; omega), List.getElem?_eq_none (by rw [packN_len]; omega)]
theorem pack_start (q : Nat) (xs : List Int) : packN q (fillQ q 0 xs) = List.replicate q 0 := by
  apply List.ext_getElem?
  intro i
  by_cases hi : i < q
  · rw [packN_get _ hi, List.getElem?_replicate, if_pos hi, chunk, fillQ, List.take_zero, List.nil_append, List.drop_replicate, List.take_replicate, getL_zeros, Int.zero_mul]
  · rw [List.getElem?_eq_none (by rw [packN_len]; omega), List.getElem?_eq_none (by rw [List.length_replicate]; omega)]
end Go.Proofs.Ytfpieikheofbgaa
