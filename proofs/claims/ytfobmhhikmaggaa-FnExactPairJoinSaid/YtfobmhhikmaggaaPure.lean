/- Plain functions on lists of ints, which the code computes, and lemmas on them. No program in sight. No condition. -/
import Derived.RowKit
namespace Go.Proofs.Ytfobmhhikmaggaa

def inB (lo hi x : Int) : Bool := decide (lo ≤ x) && decide (x ≤ hi)
def everyB (lo hi : Int) (xs : List Int) : Bool := xs.all (inB lo hi)
theorem everyB_cons (lo hi x : Int) (xs : List Int) : everyB lo hi (x :: xs) = (inB lo hi x && everyB lo hi xs) := rfl
theorem everyB_nil (lo hi : Int) : everyB lo hi [] = true := rfl
theorem inB_iff {lo hi x : Int} : inB lo hi x = true ↔ lo ≤ x ∧ x ≤ hi := by simp [inB]
theorem inB_false {lo hi x : Int} : inB lo hi x = false ↔ x < lo ∨ hi < x := by
  rw [← Bool.not_eq_true, inB_iff]; omega
theorem fill_at {xs : List Int} {n k : Nat} (hl : xs.length = n) (hk : k < n) : (xs.take k ++ List.replicate (n - k) 0)[k]? = some 0 := by
  have e : (xs.take k).length = k := by rw [List.length_take, hl]; omega
  rw [List.getElem?_append_right (by omega), e, Nat.sub_self, show n - k = (n - k - 1) + 1 by omega, List.replicate_succ]; rfl
theorem fill_set {xs : List Int} {n k : Nat} {x : Int} (hl : xs.length = n) (hk : k < n) (hx : xs[k]? = some x) :
    (xs.take k ++ List.replicate (n - k) 0).set k x = xs.take (k + 1) ++ List.replicate (n - (k + 1)) 0 := by
  have e : (xs.take k).length = k := by rw [List.length_take, hl]; omega
  rw [List.set_append_right _ _ (by omega), e, Nat.sub_self, show n - k = (n - (k + 1)) + 1 by omega, List.replicate_succ, List.set_cons_zero, List.take_add_one, hx]
  simp
theorem fill_end {xs : List Int} {n : Nat} (hl : xs.length = n) : xs.take n ++ List.replicate (n - n) 0 = xs := by
  rw [Nat.sub_self, List.replicate_zero, List.append_nil, List.take_of_length_le (by omega)]
theorem beq_cons (x y : Int) (xs ys : List Int) : (x :: xs == y :: ys) = ((x == y) && (xs == ys)) := rfl
theorem beq_ne_len {xs ys : List Int} (h : xs.length ≠ ys.length) : (xs == ys) = false := by
  rw [beq_eq_false_iff_ne]; intro e; exact h (by rw [e])
end Go.Proofs.Ytfobmhhikmaggaa
