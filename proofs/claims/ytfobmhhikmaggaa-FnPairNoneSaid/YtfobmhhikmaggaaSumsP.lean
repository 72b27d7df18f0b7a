/- Plain functions of the sums' chapter. No program in sight. No condition. -/
import Derived.Test.YtfobmhhikmaggaaPure
namespace Go.Proofs.Ytfobmhhikmaggaa
def pairL (a b : Int) : List Int → Int × Int
  | [] => (a, b)
  | x :: xs => pairL ((a + x) % 251) ((b + (a + x) % 251) % 251) xs
def pairF (xs : List Int) : Int × Int × Bool :=
  if everyB 0 255 xs = true ∧ xs.length ≤ 400 then ((pairL 1 0 xs).1, (pairL 1 0 xs).2, true) else (0, 0, false)
theorem pairF_yes {xs : List Int} (h : everyB 0 255 xs = true) (hn : xs.length ≤ 400) : pairF xs = ((pairL 1 0 xs).1, (pairL 1 0 xs).2, true) := if_pos ⟨h, hn⟩
theorem pairF_no {xs : List Int} (h : everyB 0 255 xs = true → ¬ xs.length ≤ 400) : pairF xs = (0, 0, false) := if_neg fun ⟨a, b⟩ => h a b
def joinB (a b c d m : Int) : Bool := inB 0 250 a && inB 0 250 b && inB 0 250 c && inB 0 250 d && inB 0 400 m
def joinF (a b c d m : Int) : Int × Int × Bool :=
  if joinB a b c d m = true then ((a + c + 250) % 251, (b + d + m * (a + 250)) % 251, true) else (0, 0, false)
theorem mul_bound {m a : Int} (h0 : 0 ≤ m) (h1 : m ≤ 400) (g0 : 0 ≤ a) (g1 : a ≤ 500) : 0 ≤ m * a ∧ m * a ≤ 200000 := by
  refine ⟨Int.mul_nonneg h0 g0, ?_⟩
  have h := Int.mul_le_mul h1 g1 g0 (by omega)
  omega
theorem mul_bound' {m a : Int} (h0 : 0 ≤ m) (h1 : m ≤ 400) (g0 : -1 ≤ a) (g1 : a ≤ 499) : -400 ≤ m * a ∧ m * a ≤ 200000 := by
  have h := mul_bound (a := a + 1) h0 h1 (by omega) (by omega) |>.1
  rcases (show a = -1 ∨ 0 ≤ a by omega) with e | g
  · rw [e, Int.mul_neg, Int.mul_one]; omega
  · have := mul_bound h0 h1 g (by omega); omega
theorem join_second {b d m a : Int} : (b + d + m * (a - 1) + m * 251) = b + d + m * (a + 250) := by
  have e : m * (a + 250) = m * (a - 1) + m * 251 := by rw [← Int.mul_add]; congr 1; omega
  omega
theorem joinF_yes {a b c d m : Int} (h : joinB a b c d m = true) : joinF a b c d m = ((a + c + 250) % 251, (b + d + m * (a + 250)) % 251, true) := if_pos h
theorem joinF_no {a b c d m : Int} (h : joinB a b c d m = false) : joinF a b c d m = (0, 0, false) := if_neg (by rw [h]; decide)
theorem joinB_every (a b c d m : Int) : joinB a b c d m = (everyB 0 250 [a, b, c, d] && inB 0 400 m) := by
  simp [joinB, everyB, Bool.and_assoc]

def wsum : List Int → Int
  | [] => 0
  | x :: xs => ((xs.length : Int) + 1) * x + wsum xs
theorem wsum_append (xs ys : List Int) : wsum (xs ++ ys) = wsum xs + (ys.length : Int) * sumL xs + wsum ys := by
  induction xs with
  | nil => simp [wsum, sumL]
  | cons x xs ih =>
    simp only [List.cons_append, wsum, sumL, ih, List.length_append]
    have e1 : (((xs.length + ys.length : Nat) : Int) + 1) * x = ((xs.length : Int) + 1) * x + (ys.length : Int) * x := by
      rw [← Int.add_mul]; congr 1; omega
    have e2 : (ys.length : Int) * (x + sumL xs) = (ys.length : Int) * x + (ys.length : Int) * sumL xs := Int.mul_add _ _ _
    omega
theorem mod_of (x y m : Int) (h : ∃ q, x = y + m * q) : x % m = y % m := by
  obtain ⟨q, rfl⟩ := h
  exact Int.add_mul_emod_self_left _ _ _
theorem pairL_closed (xs : List Int) : ∀ a b : Int, pairL (a % 251) (b % 251) xs = ((a + sumL xs) % 251, (b + (xs.length : Int) * a + wsum xs) % 251) := by
  induction xs with
  | nil => intro a b; simp [pairL, sumL, wsum]
  | cons x xs ih =>
    intro a b
    have e1 : (a % 251 + x) % 251 = (a + x) % 251 := by omega
    have e2 : (b % 251 + (a + x) % 251) % 251 = (b + (a + x)) % 251 := by omega
    rw [pairL, e1, e2, ih, sumL, wsum]
    refine Prod.ext ?_ ?_
    · show (a + x + sumL xs) % 251 = _; congr 1; omega
    · show (b + (a + x) + (xs.length : Int) * (a + x) + wsum xs) % 251 = _
      congr 1
      have e3 : (((x :: xs).length : Nat) : Int) * a = (xs.length : Int) * a + a := by
        rw [List.length_cons, Int.natCast_add, Int.add_mul]; omega
      have e4 : (xs.length : Int) * (a + x) = (xs.length : Int) * a + (xs.length : Int) * x := Int.mul_add _ _ _
      have e5 : ((xs.length : Int) + 1) * x = (xs.length : Int) * x + x := by rw [Int.add_mul]; omega
      omega
theorem pair_closed (xs : List Int) : pairL 1 0 xs = ((1 + sumL xs) % 251, ((xs.length : Int) + wsum xs) % 251) := by
  have h := pairL_closed xs 1 0
  rw [show (1 : Int) % 251 = 1 from rfl, show (0 : Int) % 251 = 0 from rfl] at h
  rw [h, Int.mul_one, Int.zero_add]
theorem pairL_range (xs : List Int) : 0 ≤ (pairL 1 0 xs).1 ∧ (pairL 1 0 xs).1 ≤ 250 ∧ 0 ≤ (pairL 1 0 xs).2 ∧ (pairL 1 0 xs).2 ≤ 250 := by
  rw [pair_closed]; show 0 ≤ (1 + sumL xs) % 251 ∧ _; refine ⟨?_, ?_, ?_, ?_⟩ <;> (try simp only) <;> omega

/-- Sums of parts are joined. -/
theorem pair_join {xs : List Int} (hn : xs.length ≤ 400) (k : Nat) (hk : k ≤ xs.length) :
    joinF (pairL 1 0 (xs.take k)).1 (pairL 1 0 (xs.take k)).2 (pairL 1 0 (xs.drop k)).1 (pairL 1 0 (xs.drop k)).2 ((xs.length - k : Nat) : Int) = ((pairL 1 0 xs).1, (pairL 1 0 xs).2, true) := by
  obtain ⟨a0, a1, b0, b1⟩ := pairL_range (xs.take k)
  obtain ⟨c0, c1, d0, d1⟩ := pairL_range (xs.drop k)
  have hj : joinB (pairL 1 0 (xs.take k)).1 (pairL 1 0 (xs.take k)).2 (pairL 1 0 (xs.drop k)).1 (pairL 1 0 (xs.drop k)).2 ((xs.length - k : Nat) : Int) = true := by
    simp only [joinB, Bool.and_eq_true, inB_iff]; omega
  rw [joinF_yes hj]
  have e : xs = xs.take k ++ xs.drop k := (List.take_append_drop k xs).symm
  have hs : sumL xs = sumL (xs.take k) + sumL (xs.drop k) := by rw [← sumL_append, ← e]
  have hw : wsum xs = wsum (xs.take k) + ((xs.drop k).length : Int) * sumL (xs.take k) + wsum (xs.drop k) := by rw [← wsum_append, ← e]
  have hl : ((xs.drop k).length : Int) = ((xs.length - k : Nat) : Int) := by rw [List.length_drop]
  have hl2 : ((xs.take k).length : Int) = (k : Int) := by rw [List.length_take]; omega
  rw [pair_closed xs, pair_closed (xs.take k), pair_closed (xs.drop k)]
  simp only
  rw [hl, hl2]
  rw [hl] at hw
  generalize sumL (xs.take k) = S1 at *
  generalize sumL (xs.drop k) = S2 at *
  generalize wsum (xs.take k) = W1 at *
  generalize wsum (xs.drop k) = W2 at *
  generalize hM : ((xs.length - k : Nat) : Int) = M at *
  refine Prod.ext ?_ (Prod.ext ?_ rfl)
  · show ((1 + S1) % 251 + (1 + S2) % 251 + 250) % 251 = (1 + sumL xs) % 251
    rw [hs]; omega
  · show (((k : Int) + W1) % 251 + (M + W2) % 251 + M * ((1 + S1) % 251 + 250)) % 251 = ((xs.length : Int) + wsum xs) % 251
    rw [hw]
    have e3 : (1 + S1) % 251 = 1 + S1 - 251 * ((1 + S1) / 251) := by omega
    have e4 : M * ((1 + S1) % 251 + 250) = M * S1 + 251 * (M * (1 - (1 + S1) / 251)) := by
      rw [e3, show (1 + S1 - 251 * ((1 + S1) / 251) + 250) = S1 + 251 * (1 - (1 + S1) / 251) by omega, Int.mul_add, Int.mul_left_comm]
    rw [e4]
    generalize M * S1 = P at *
    generalize M * (1 - (1 + S1) / 251) = Q at *
    omega

theorem wsum_set : ∀ (xs : List Int) (k : Nat) (x y : Int), xs[k]? = some x → wsum (xs.set k y) = wsum xs + ((xs.length - k : Nat) : Int) * (y - x)
  | [], k, x, y, h => by simp at h
  | z :: xs, 0, x, y, h => by
    simp at h; subst h
    simp only [List.set_cons_zero, wsum, List.length_cons, Nat.sub_zero]
    have e := Int.mul_sub ((xs.length : Int) + 1) y z
    have e2 : (((xs.length + 1 : Nat) : Int)) = (xs.length : Int) + 1 := by omega
    rw [e2]; omega
  | z :: xs, k + 1, x, y, h => by
    simp only [List.getElem?_cons_succ] at h
    simp only [List.set_cons_succ, wsum, wsum_set xs k x y h, List.length_set, List.length_cons]
    rw [show xs.length + 1 - (k + 1) = xs.length - k by omega]; omega
/-- A changed byte is noticed. -/
theorem pair_change {xs : List Int} {k : Nat} {x y : Int} (hx : xs[k]? = some x) (hxy : (y - x) % 251 ≠ 0) : (pairL 1 0 (xs.set k y)).1 ≠ (pairL 1 0 xs).1 := by
  rw [pair_closed, pair_closed, sumL_set xs k x y hx]
  simp only
  omega
/-- Bytes that change places. -/
theorem pair_swap {xs : List Int} {k : Nat} {x y : Int} (hx : xs[k]? = some x) (hy : xs[k + 1]? = some y) :
    (pairL 1 0 ((xs.set k y).set (k + 1) x)).1 = (pairL 1 0 xs).1 ∧ ((pairL 1 0 ((xs.set k y).set (k + 1) x)).2 = (pairL 1 0 xs).2 ↔ (x - y) % 251 = 0) := by
  have hy' : (xs.set k y)[k + 1]? = some y := by rw [List.getElem?_set_ne (by omega)]; exact hy
  have hl : k + 1 < xs.length := (List.getElem?_eq_some_iff.1 hy).1
  rw [pair_closed, pair_closed, sumL_set _ _ _ _ hy', sumL_set _ _ _ _ hx, wsum_set _ _ _ _ hy', wsum_set _ _ _ _ hx]
  simp only [List.length_set]
  obtain ⟨d, hd⟩ : ∃ d : Nat, xs.length - (k + 1) = d := ⟨_, rfl⟩
  rw [hd, show xs.length - k = d + 1 by omega]
  have e1 : (((d + 1 : Nat) : Int)) * (y - x) = (d : Int) * (y - x) + (y - x) := by rw [Int.natCast_add, Int.add_mul]; omega
  have e2 : (d : Int) * (x - y) = - ((d : Int) * (y - x)) := by rw [← Int.mul_neg]; congr 1; omega
  rw [e1, e2]
  generalize (d : Int) * (y - x) = D
  constructor
  · omega
  · constructor <;> intro h <;> omega
theorem sumL_zeros (n : Nat) : sumL (List.replicate n 0) = 0 := by
  induction n with
  | zero => rfl
  | succ n ih => rw [List.replicate_succ, sumL, ih]; rfl
theorem wsum_zeros (n : Nat) : wsum (List.replicate n 0) = 0 := by
  induction n with
  | zero => rfl
  | succ n ih => rw [List.replicate_succ, wsum, ih]; simp
/-- Zeros are counted. -/
theorem pair_zeros (n : Nat) : pairL 1 0 (List.replicate n 0) = (1, (n : Int) % 251) := by
  rw [pair_closed, sumL_zeros, wsum_zeros, List.length_replicate]; simp
end Go.Proofs.Ytfobmhhikmaggaa
