/- Plain functions on lists of ints, which the code computes, and lemmas on them. No program in sight. No condition. -/
import Derived.RowKit
namespace Go.Proofs.Ytaaaiagpbhiphaa

def inB (lo hi x : Int) : Bool := decide (lo ≤ x) && decide (x ≤ hi)
def everyB (lo hi : Int) (xs : List Int) : Bool := xs.all (inB lo hi)
theorem everyB_cons (lo hi x : Int) (xs : List Int) : everyB lo hi (x :: xs) = (inB lo hi x && everyB lo hi xs) := rfl
theorem everyB_nil (lo hi : Int) : everyB lo hi [] = true := rfl
theorem inB_iff {lo hi x : Int} : inB lo hi x = true ↔ lo ≤ x ∧ x ≤ hi := by simp [inB]
theorem inB_false {lo hi x : Int} : inB lo hi x = false ↔ x < lo ∨ hi < x := by
  rw [← Bool.not_eq_true, inB_iff]; omega
theorem fill_at {xs : List Int} {n k : Nat} (hl : xs.length = n) (hk : k < n) : (xs.take k ++ List.replicate (n - k) 0)[k]? = some 0 := by
  have e : (xs.take k).length = k := by rw [List.length_take, hl]; omega
  rw [List.getElem?_append_right (by omega), e, Nat.sub_self, show n - k = (n - k - 1) + 1 by omega, List.replicate_succ]; rfl
theorem fill_set {xs : List Int} {n k : Nat} {x : Int} (hl : xs.length = n) (hk : k < n) (hx : xs[k]? = some x) :
    (xs.take k ++ List.replicate (n - k) 0).set k x = xs.take (k + 1) ++ List.replicate (n - (k + 1)) 0 := by
  have e : (xs.take k).length = k := by rw [List.length_take, hl]; omega
  rw [List.set_append_right _ _ (by omega), e, Nat.sub_self, show n - k = (n - (k + 1)) + 1 by omega, List.replicate_succ, List.set_cons_zero, List.take_add_one, hx]
  simp
theorem fill_end {xs : List Int} {n : Nat} (hl : xs.length = n) : xs.take n ++ List.replicate (n - n) 0 = xs := by
  rw [Nat.sub_self, List.replicate_zero, List.append_nil, List.take_of_length_le (by omega)]
theorem beq_cons (x y : Int) (xs ys : List Int) : (x :: xs == y :: ys) = ((x == y) && (xs == ys)) := rfl
theorem beq_ne_len {xs ys : List Int} (h : xs.length ≠ ys.length) : (xs == ys) = false := by
  rw [beq_eq_false_iff_ne]; intro e; exact h (by rw [e])
theorem everyB_get {lo hi : Int} {xs : List Int} {k : Nat} {x : Int} (h : everyB lo hi xs = true) (hx : xs[k]? = some x) : lo ≤ x ∧ x ≤ hi :=
  inB_iff.1 (List.all_eq_true.1 h x (List.mem_of_getElem? hx))
theorem everyB_append (lo hi : Int) (xs ys : List Int) : everyB lo hi (xs ++ ys) = (everyB lo hi xs && everyB lo hi ys) := by simp [everyB]
theorem everyB_take {lo hi : Int} {xs : List Int} (h : everyB lo hi xs = true) (k : Nat) : everyB lo hi (xs.take k) = true := by
  have e := everyB_append lo hi (xs.take k) (xs.drop k)
  rw [List.take_append_drop, h] at e
  exact (Bool.and_eq_true_iff.1 e.symm).1
theorem everyB_drop {lo hi : Int} {xs : List Int} (h : everyB lo hi xs = true) (k : Nat) : everyB lo hi (xs.drop k) = true := by
  have e := everyB_append lo hi (xs.take k) (xs.drop k)
  rw [List.take_append_drop, h] at e
  exact (Bool.and_eq_true_iff.1 e.symm).2
theorem everyB_set {lo hi : Int} {xs : List Int} {k : Nat} {x : Int} (h : everyB lo hi xs = true) (hx : lo ≤ x ∧ x ≤ hi) : everyB lo hi (xs.set k x) = true := by
  refine List.all_eq_true.2 fun y hy => ?_
  rcases List.mem_or_eq_of_mem_set hy with h1 | h1
  · exact List.all_eq_true.1 h y h1
  · subst h1; exact inB_iff.2 hx
theorem everyB_zeros {lo hi : Int} (h : lo ≤ 0 ∧ 0 ≤ hi) (n : Nat) : everyB lo hi (List.replicate n 0) = true := by
  refine List.all_eq_true.2 fun y hy => ?_
  rw [List.eq_of_mem_replicate hy]; exact inB_iff.2 h
theorem mod_at (m n : Nat) : ∃ k : Nat, (m : Int) % ((n : Int) + 1) = (k : Int) ∧ k ≤ n := by
  refine ⟨m % (n + 1), by rw [Int.natCast_emod]; rfl, Nat.le_of_lt_succ (Nat.mod_lt _ (by omega))⟩
theorem mod_lt (m n : Nat) (h : 0 < n) : ∃ k : Nat, (m : Int) % (n : Int) = (k : Int) ∧ k < n :=
  ⟨m % n, by rw [Int.natCast_emod], Nat.mod_lt _ h⟩
def sumL : List Int → Int
  | [] => 0
  | x :: xs => x + sumL xs
theorem sumL_append (xs ys : List Int) : sumL (xs ++ ys) = sumL xs + sumL ys := by
  induction xs with
  | nil => simp [sumL]
  | cons x xs ih => simp only [List.cons_append, sumL, ih]; omega
theorem sumL_set : ∀ (xs : List Int) (k : Nat) (x y : Int), xs[k]? = some x → sumL (xs.set k y) = sumL xs + (y - x)
  | [], k, x, y, h => by simp at h
  | z :: xs, 0, x, y, h => by simp at h; subst h; simp only [List.set_cons_zero, sumL]; omega
  | z :: xs, k + 1, x, y, h => by
    simp only [List.getElem?_cons_succ] at h
    simp only [List.set_cons_succ, sumL, sumL_set xs k x y h]; omega
end Go.Proofs.Ytaaaiagpbhiphaa
