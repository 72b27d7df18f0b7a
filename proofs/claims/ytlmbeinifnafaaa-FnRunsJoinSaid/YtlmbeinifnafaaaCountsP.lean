/- Plain functions of the counts' chapter. No program in sight. No condition. -/
import Derived.Test.YtlmbeinifnafaaaPure
namespace Go.Proofs.Ytlmbeinifnafaaa
def listV (xs : List Int) : Bool := decide (xs.length ≤ 40) && everyB 0 7 xs
def countsV (xs : List Int) : Bool := decide (xs.length = 8) && everyB 0 999 xs
theorem listV_iff {xs : List Int} : listV xs = true ↔ xs.length ≤ 40 ∧ everyB 0 7 xs = true := by simp [listV]
theorem countsV_iff {xs : List Int} : countsV xs = true ↔ xs.length = 8 ∧ everyB 0 999 xs = true := by simp [countsV]
def startsL (n : Int) : List Int → List Int
  | [] => []
  | x :: xs => n :: startsL (n + x) xs
theorem startsL_cons (n x : Int) (xs : List Int) : startsL n (x :: xs) = n :: startsL (n + x) xs := rfl
theorem startsL_len (xs : List Int) : ∀ n, (startsL n xs).length = xs.length := by
  induction xs with
  | nil => intro n; rfl
  | cons x xs ih => intro n; rw [startsL_cons, List.length_cons, ih, List.length_cons]
def startsF (xs : List Int) : List Int := if countsV xs = true then startsL 0 xs else []
/-- One more of the number s. -/
def bump (L : List Int) (s : Int) : List Int := L.set s.toNat (L.getD s.toNat 0 + 1)
def cntL (L : List Int) : List Int → List Int
  | [] => L
  | s :: xs => cntL (bump L s) xs
theorem cntL_cons (L : List Int) (s : Int) (xs : List Int) : cntL L (s :: xs) = cntL (bump L s) xs := rfl
theorem cntL_nil (L : List Int) : cntL L [] = L := rfl
theorem bump_len (L : List Int) (s : Int) : (bump L s).length = L.length := by rw [bump, List.length_set]
theorem cntL_len (xs : List Int) : ∀ L, (cntL L xs).length = L.length := by
  induction xs with
  | nil => intro L; rfl
  | cons s xs ih => intro L; rw [cntL_cons, ih, bump_len]
def zero8 : List Int := List.replicate 8 0
def countsF (xs : List Int) : List Int := if listV xs = true then cntL zero8 xs else []
/-- All numbers lie from 0 to k. -/
theorem bump_range {L : List Int} {s k : Int} (h : everyB 0 k L = true) (hs : s.toNat < L.length) : everyB 0 (k + 1) (bump L s) = true := by
  refine List.all_eq_true.2 fun y hy => ?_
  obtain ⟨x, hx⟩ : ∃ x, L[s.toNat]? = some x := ⟨_, List.getElem?_eq_getElem hs⟩
  have hb := everyB_get h hx
  rcases List.mem_or_eq_of_mem_set hy with h1 | h1
  · have := inB_iff.1 (List.all_eq_true.1 h y h1)
    exact inB_iff.2 (by omega)
  · subst h1
    simp only [List.getD, hx, Option.getD_some]
    exact inB_iff.2 (by omega)

theorem startsL_get : ∀ (xs : List Int) (a : Int) (i : Nat), i < xs.length → (startsL a xs)[i]? = some (a + sumL (xs.take i))
  | [], a, i, h => by simp at h
  | x :: xs, a, 0, h => by simp [startsL_cons, sumL]
  | x :: xs, a, i + 1, h => by
    rw [startsL_cons, List.getElem?_cons_succ, startsL_get xs (a + x) i (by simpa using h), List.take_succ_cons, sumL, Int.add_assoc]
theorem sumL_take_succ {xs : List Int} {i : Nat} {x : Int} (h : xs[i]? = some x) : sumL (xs.take (i + 1)) = sumL (xs.take i) + x := by
  rw [List.take_add_one, h, sumL_append]; simp [sumL]
theorem sumL_range {k : Int} (hk : 0 ≤ k) : ∀ {xs : List Int}, everyB 0 k xs = true → 0 ≤ sumL xs ∧ sumL xs ≤ k * xs.length
  | [], _ => by simp [sumL]
  | x :: xs, h => by
    rw [everyB_cons, Bool.and_eq_true, inB_iff] at h
    have ih := sumL_range hk h.2
    rw [sumL, List.length_cons, Int.natCast_add, Int.mul_add]
    omega
theorem bump_sum {L : List Int} {s : Int} (hs : s.toNat < L.length) : sumL (bump L s) = sumL L + 1 := by
  obtain ⟨x, hx⟩ : ∃ x, L[s.toNat]? = some x := ⟨_, List.getElem?_eq_getElem hs⟩
  rw [bump, sumL_set L _ x _ hx]; simp [List.getD, hx]; omega
theorem cntL_sum : ∀ (xs L : List Int), everyB 0 7 xs = true → L.length = 8 → sumL (cntL L xs) = sumL L + xs.length
  | [], L, _, _ => by simp [cntL_nil]
  | s :: xs, L, h, hl => by
    rw [everyB_cons, Bool.and_eq_true, inB_iff] at h
    rw [cntL_cons, cntL_sum xs _ h.2 (by rw [bump_len]; exact hl), bump_sum (by omega), List.length_cons]; omega
theorem cntL_range : ∀ (xs L : List Int) (k : Int), everyB 0 7 xs = true → L.length = 8 → everyB 0 k L = true → everyB 0 (k + xs.length) (cntL L xs) = true
  | [], L, k, _, _, hL => by simpa [cntL_nil] using hL
  | s :: xs, L, k, h, hl, hL => by
    rw [everyB_cons, Bool.and_eq_true, inB_iff] at h
    have := cntL_range xs (bump L s) (k + 1) h.2 (by rw [bump_len]; exact hl) (bump_range hL (by omega))
    rw [cntL_cons, List.length_cons]
    rw [show k + (((xs.length + 1 : Nat)) : Int) = k + 1 + (xs.length : Int) by omega]; exact this
theorem everyB_mono {lo hi lo' hi' : Int} {xs : List Int} (h : everyB lo hi xs = true) (h1 : lo' ≤ lo) (h2 : hi ≤ hi') : everyB lo' hi' xs = true :=
  List.all_eq_true.2 fun y hy => by have := inB_iff.1 (List.all_eq_true.1 h y hy); exact inB_iff.2 (by omega)
/-- What CountsOf gives of a valid list. -/
theorem countsF_yes {xs : List Int} (h : listV xs = true) : countsF xs = cntL zero8 xs ∧ (countsF xs).length = 8 ∧ countsV (countsF xs) = true ∧ everyB 0 1000 (countsF xs) = true ∧ sumL (countsF xs) = xs.length := by
  obtain ⟨h1, h2⟩ := listV_iff.1 h
  have e : countsF xs = cntL zero8 xs := if_pos h
  have hl : (cntL zero8 xs).length = 8 := by rw [cntL_len]; rfl
  have hr : everyB 0 999 (cntL zero8 xs) = true := everyB_mono (cntL_range xs zero8 0 h2 rfl (by decide)) (by omega) (by omega)
  rw [e]
  refine ⟨rfl, hl, countsV_iff.2 ⟨hl, hr⟩, everyB_mono hr (by omega) (by omega), ?_⟩
  rw [cntL_sum xs zero8 h2 rfl]; show sumL zero8 + _ = _
  rw [show sumL zero8 = 0 by decide]; omega
theorem countsF_no {xs : List Int} (h : listV xs = false) : countsF xs = [] := if_neg (by rw [h]; decide)
/-- How often i is in a list. -/
def cnt1 (i : Nat) : List Int → Int
  | [] => 0
  | s :: xs => (if s.toNat = i then 1 else 0) + cnt1 i xs
theorem cnt1_append (i : Nat) (xs ys : List Int) : cnt1 i (xs ++ ys) = cnt1 i xs + cnt1 i ys := by
  induction xs with
  | nil => simp [cnt1]
  | cons x xs ih => rw [List.cons_append, cnt1, ih, cnt1, Int.add_assoc]
theorem cntL_get : ∀ (xs L : List Int) (i : Nat) (u : Int), everyB 0 7 xs = true → L.length = 8 → L[i]? = some u → (cntL L xs)[i]? = some (u + cnt1 i xs)
  | [], L, i, u, _, _, hu => by rw [cntL_nil, hu, cnt1, Int.add_zero]
  | s :: xs, L, i, u, h, hl, hu => by
    rw [everyB_cons, Bool.and_eq_true, inB_iff] at h
    have hs : s.toNat < L.length := by omega
    by_cases e : s.toNat = i
    · have hb : (bump L s)[i]? = some (u + 1) := by
        subst e
        rw [bump, List.getElem?_set_self hs]; simp [List.getD, hu]
      rw [cntL_cons, cntL_get xs _ i (u + 1) h.2 (by rw [bump_len]; exact hl) hb, cnt1, if_pos e]
      congr 1; omega
    · have hb : (bump L s)[i]? = some u := by rw [bump, List.getElem?_set_ne e]; exact hu
      rw [cntL_cons, cntL_get xs _ i u h.2 (by rw [bump_len]; exact hl) hb, cnt1, if_neg e]
      congr 1; omega
theorem zero8_get {i : Nat} (h : i < 8) : zero8[i]? = some 0 := by rw [zero8, List.getElem?_replicate, if_pos h]
theorem countsF_get {xs : List Int} (h : listV xs = true) {i : Nat} (hi : i < 8) : (countsF xs)[i]? = some (cnt1 i xs) := by
  rw [(countsF_yes h).1, cntL_get xs zero8 i 0 (listV_iff.1 h).2 rfl (zero8_get hi), Int.zero_add]
theorem listV_take {xs : List Int} (h : listV xs = true) (k : Nat) : listV (xs.take k) = true := by
  obtain ⟨h1, h2⟩ := listV_iff.1 h
  exact listV_iff.2 ⟨by rw [List.length_take]; omega, everyB_take h2 k⟩
theorem listV_drop {xs : List Int} (h : listV xs = true) (k : Nat) : listV (xs.drop k) = true := by
  obtain ⟨h1, h2⟩ := listV_iff.1 h
  exact listV_iff.2 ⟨by rw [List.length_drop]; omega, everyB_drop h2 k⟩
theorem cnt1_range (i : Nat) (xs : List Int) : 0 ≤ cnt1 i xs ∧ cnt1 i xs ≤ xs.length := by
  induction xs with
  | nil => simp [cnt1]
  | cons x xs ih => rw [cnt1, List.length_cons]; split <;> omega
theorem startsF_yes {xs : List Int} (h : countsV xs = true) : startsF xs = startsL 0 xs ∧ (startsF xs).length = 8 := by
  have e : startsF xs = startsL 0 xs := if_pos h
  rw [e]; exact ⟨rfl, by rw [startsL_len]; exact (countsV_iff.1 h).1⟩
theorem startsF_no {xs : List Int} (h : countsV xs = false) : startsF xs = [] := if_neg (by rw [h]; decide)
end Go.Proofs.Ytlmbeinifnafaaa
