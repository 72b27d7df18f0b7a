/- Plain functions of the sums' chapter. No program in sight. No condition. -/
import Derived.Test.YtfobmhhikmaggaaPure
namespace Go.Proofs.Ytfobmhhikmaggaa
theorem everyB_get {lo hi : Int} {xs : List Int} {k : Nat} {x : Int} (h : everyB lo hi xs = true) (hx : xs[k]? = some x) : lo ≤ x ∧ x ≤ hi :=
  inB_iff.1 (List.all_eq_true.1 h x (List.mem_of_getElem? hx))
def pairL (a b : Int) : List Int → Int × Int
  | [] => (a, b)
  | x :: xs => pairL ((a + x) % 251) ((b + (a + x) % 251) % 251) xs
def pairF (xs : List Int) : Int × Int × Bool :=
  if everyB 0 255 xs = true ∧ xs.length ≤ 400 then ((pairL 1 0 xs).1, (pairL 1 0 xs).2, true) else (0, 0, false)
theorem pairF_yes {xs : List Int} (h : everyB 0 255 xs = true) (hn : xs.length ≤ 400) : pairF xs = ((pairL 1 0 xs).1, (pairL 1 0 xs).2, true) := if_pos ⟨h, hn⟩
theorem pairF_no {xs : List Int} (h : everyB 0 255 xs = true → ¬ xs.length ≤ 400) : pairF xs = (0, 0, false) := if_neg fun ⟨a, b⟩ => h a b
def joinB (a b c d m : Int) : Bool := inB 0 250 a && inB 0 250 b && inB 0 250 c && inB 0 250 d && inB 0 400 m
def joinF (a b c d m : Int) : Int × Int × Bool :=
  if joinB a b c d m = true then ((a + c + 250) % 251, (b + d + m * (a + 250)) % 251, true) else (0, 0, false)
theorem mul_bound {m a : Int} (h0 : 0 ≤ m) (h1 : m ≤ 400) (g0 : 0 ≤ a) (g1 : a ≤ 500) : 0 ≤ m * a ∧ m * a ≤ 200000 := by
  refine ⟨Int.mul_nonneg h0 g0, ?_⟩
  have h := Int.mul_le_mul h1 g1 g0 (by omega)
  omega
theorem mul_bound' {m a : Int} (h0 : 0 ≤ m) (h1 : m ≤ 400) (g0 : -1 ≤ a) (g1 : a ≤ 499) : -400 ≤ m * a ∧ m * a ≤ 200000 := by
  have h := mul_bound (a := a + 1) h0 h1 (by omega) (by omega) |>.1
  rcases (show a = -1 ∨ 0 ≤ a by omega) with e | g
  · rw [e, Int.mul_neg, Int.mul_one]; omega
  · have := mul_bound h0 h1 g (by omega); omega
theorem join_second {b d m a : Int} : (b + d + m * (a - 1) + m * 251) = b + d + m * (a + 250) := by
  have e : m * (a + 250) = m * (a - 1) + m * 251 := by rw [← Int.mul_add]; congr 1; omega
  omega
theorem joinF_yes {a b c d m : Int} (h : joinB a b c d m = true) : joinF a b c d m = ((a + c + 250) % 251, (b + d + m * (a + 250)) % 251, true) := if_pos h
theorem joinF_no {a b c d m : Int} (h : joinB a b c d m = false) : joinF a b c d m = (0, 0, false) := if_neg (by rw [h]; decide)
theorem joinB_every (a b c d m : Int) : joinB a b c d m = (everyB 0 250 [a, b, c, d] && inB 0 400 m) := by
  simp [joinB, everyB, Bool.and_assoc]
end Go.Proofs.Ytfobmhhikmaggaa
