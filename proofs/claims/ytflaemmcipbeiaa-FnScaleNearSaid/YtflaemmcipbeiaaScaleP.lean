/- Plain functions of the scaling of counts, and the laws on them. No program in sight. No condition. -/
import Derived.Test.YtflaemmcipbeiaaCountsP
namespace Go.Proofs.Ytflaemmcipbeiaa
/-- The place of the first greatest number: the numbers from place k on, the best so far at place b with value v. -/
def gG (k b : Nat) (v : Int) : List Int → Nat
  | [] => b
  | y :: ys => if v < y then gG (k + 1) k y ys else gG (k + 1) b v ys
def gr : List Int → Nat
  | [] => 0
  | x :: xs => gG 1 0 x xs
theorem gG_up {k b : Nat} {v y : Int} {ys : List Int} (h : v < y) : gG k b v (y :: ys) = gG (k + 1) k y ys := if_pos h
theorem gG_no {k b : Nat} {v y : Int} {ys : List Int} (h : ¬ v < y) : gG k b v (y :: ys) = gG (k + 1) b v ys := if_neg h
theorem gr_cons (x : Int) (xs : List Int) : gr (x :: xs) = gG 0 0 x (x :: xs) := by rw [gG_no (by omega)]; rfl
theorem gG_at : ∀ (ys pre : List Int) (b : Nat) (v : Int), pre[b]? = some v → (∀ x ∈ pre, x ≤ v) → ∃ u, (pre ++ ys)[gG pre.length b v ys]? = some u ∧ ∀ x ∈ pre ++ ys, x ≤ u
  | [], pre, b, v, h, hm => ⟨v, by rw [List.append_nil]; exact h, by rw [List.append_nil]; exact hm⟩
  | y :: ys, pre, b, v, h, hm => by
    have e : pre ++ y :: ys = (pre ++ [y]) ++ ys := by rw [List.append_assoc]; rfl
    have el : pre.length + 1 = (pre ++ [y]).length := by rw [List.length_append]; rfl
    by_cases hy : v < y
    · rw [gG_up hy, e, el]
      refine gG_at ys (pre ++ [y]) pre.length y (by rw [List.getElem?_append_right (Nat.le_refl _), Nat.sub_self]; rfl) fun x hx => ?_
      rcases List.mem_append.1 hx with h1 | h1
      · have := hm x h1; omega
      · rw [List.mem_singleton.1 h1]; exact Int.le_refl _
    · rw [gG_no hy, e, el]
      refine gG_at ys (pre ++ [y]) b v (by rw [List.getElem?_append_left (List.getElem?_eq_some_iff.1 h).1]; exact h) fun x hx => ?_
      rcases List.mem_append.1 hx with h1 | h1
      · exact hm x h1
      · rw [List.mem_singleton.1 h1]; omega
theorem gr_at {xs : List Int} (h : 0 < xs.length) : ∃ u, xs[gr xs]? = some u ∧ ∀ x ∈ xs, x ≤ u := by
  match xs, h with
  | x :: xs, _ => exact gG_at xs [x] 0 x rfl (fun y hy => by rw [List.mem_singleton.1 hy]; exact Int.le_refl _)
theorem gr_lt {xs : List Int} (h : 0 < xs.length) : gr xs < xs.length := by
  obtain ⟨u, hu, _⟩ := gr_at h
  exact (List.getElem?_eq_some_iff.1 hu).1
theorem gG_two : ∀ (ys : List Int) (k b : Nat) (v : Int), gG k b (2 * v) (ys.map (2 * ·)) = gG k b v ys
  | [], _, _, _ => rfl
  | y :: ys, k, b, v => by
    rw [List.map_cons]
    by_cases h : v < y
    · rw [gG_up h, gG_up (by omega), gG_two ys]
    · rw [gG_no h, gG_no (by omega), gG_two ys]
theorem gr_two (xs : List Int) : gr (xs.map (2 * ·)) = gr xs := by
  cases xs with
  | nil => rfl
  | cons x xs => exact gG_two xs 1 0 x

def scale1 (all : Int) (xs : List Int) : List Int := xs.map fun n => if 0 < n then max (n * 32 / all) 1 else n * 32 / all
/-- One less at the greatest. -/
def decG (xs : List Int) : List Int := xs.set (gr xs) (xs.getD (gr xs) 0 - 1)
def shr : Nat → List Int → List Int
  | 0, xs => xs
  | f + 1, xs => if 32 < sumL xs then shr f (decG xs) else xs
def shrF (xs : List Int) : List Int := shr (sumL xs - 32).toNat xs
theorem shrF_no {xs : List Int} (h : ¬ 32 < sumL xs) : shrF xs = xs := by
  unfold shrF
  rw [show (sumL xs - 32).toNat = 0 by omega]; rfl
theorem decG_len (xs : List Int) : (decG xs).length = xs.length := List.length_set
theorem decG_sum {xs : List Int} (h : 0 < xs.length) : sumL (decG xs) = sumL xs - 1 := by
  obtain ⟨u, hu, _⟩ := gr_at h
  rw [decG, sumL_set _ _ u _ hu]; simp [List.getD, hu]; omega
theorem shrF_up {xs : List Int} (h : 32 < sumL xs) (hl : 0 < xs.length) : shrF xs = shrF (decG xs) := by
  unfold shrF
  rw [decG_sum hl, show (sumL xs - 32).toNat = (sumL xs - 1 - 32).toNat + 1 by omega]
  exact if_pos h
/-- What is made up at the end. -/
def scL (xs : List Int) : List Int := (shrF (scale1 (sumL xs) xs)).set (gr xs) ((shrF (scale1 (sumL xs) xs)).getD (gr xs) 0 + (32 - sumL (shrF (scale1 (sumL xs) xs))))
def scB (xs : List Int) : Bool := countsV xs && !(sumL xs == 0)
def scF (xs : List Int) : List Int × Bool := if scB xs = true then (scL xs, true) else ([], false)
theorem scF_yes {xs : List Int} (h : scB xs = true) : scF xs = (scL xs, true) := if_pos h
theorem scF_no {xs : List Int} (h : scB xs = false) : scF xs = ([], false) := if_neg (by rw [h]; decide)
theorem scB_iff {xs : List Int} : scB xs = true ↔ xs.length = 8 ∧ everyB 0 999 xs = true ∧ sumL xs ≠ 0 := by
  rw [scB, Bool.and_eq_true, countsV_iff, and_assoc]; simp

/-- The numbers L lie from 0 to S's, and are 0 where S's are. -/
def Fits (S L : List Int) : Prop := L.length = S.length ∧ ∀ (i : Nat) (u s : Int), L[i]? = some u → S[i]? = some s → 0 ≤ u ∧ u ≤ s ∧ (u = 0 ↔ s = 0)
theorem sumL_le {m : Int} : ∀ {xs : List Int}, (∀ x ∈ xs, x ≤ m) → sumL xs ≤ m * xs.length
  | [], _ => by simp [sumL]
  | x :: xs, h => by
    have ih := sumL_le (m := m) (xs := xs) fun y hy => h y (List.mem_cons_of_mem _ hy)
    have h1 := h x List.mem_cons_self
    rw [sumL, List.length_cons, Int.natCast_add, Int.mul_add]
    omega
theorem Fits.dec {S L : List Int} (h : Fits S L) (h8 : S.length = 8) (hs : 32 < sumL L) : Fits S (decG L) := by
  have hl : L.length = 8 := h.1.trans h8
  obtain ⟨m, hm, hx⟩ := gr_at (xs := L) (by omega)
  have hle := sumL_le hx
  rw [hl] at hle
  refine ⟨(decG_len L).trans h.1, fun i u s hu hS => ?_⟩
  by_cases e : gr L = i
  · subst e
    rw [decG, List.getElem?_set_self (by have := (List.getElem?_eq_some_iff.1 hm).1; omega)] at hu
    injection hu with hu
    obtain ⟨a, b, c⟩ := h.2 _ m s hm hS
    simp [List.getD, hm] at hu
    omega
  · rw [decG, List.getElem?_set_ne e] at hu
    exact h.2 i u s hu hS
theorem shr_fits {S : List Int} (h8 : S.length = 8) : ∀ (f : Nat) (L : List Int), Fits S L → (sumL L - 32).toNat ≤ f → Fits S (shr f L) ∧ sumL (shr f L) ≤ 32
  | 0, L, h, hf => ⟨h, by show sumL L ≤ 32; omega⟩
  | f + 1, L, h, hf => by
    by_cases hs : 32 < sumL L
    · rw [show shr (f + 1) L = shr f (decG L) from if_pos hs]
      refine shr_fits h8 f _ (h.dec h8 hs) ?_
      rw [decG_sum (by rw [h.1, h8]; omega)]; omega
    · rw [show shr (f + 1) L = L from if_neg hs]
      exact ⟨h, by omega⟩
theorem shrF_fits {S : List Int} (h8 : S.length = 8) (h : Fits S S) : Fits S (shrF S) ∧ sumL (shrF S) ≤ 32 := shr_fits h8 _ S h (Nat.le_refl _)
theorem get_of_mem {xs : List Int} {x : Int} (h : x ∈ xs) : ∃ i : Nat, xs[i]? = some x := List.getElem?_of_mem h
theorem scale1_len (a : Int) (xs : List Int) : (scale1 a xs).length = xs.length := List.length_map _
theorem scale1_get {a : Int} {xs : List Int} {i : Nat} {x : Int} (h : xs[i]? = some x) : (scale1 a xs)[i]? = some (if 0 < x then max (x * 32 / a) 1 else x * 32 / a) := by
  rw [scale1, List.getElem?_map, h]; rfl
theorem scale1_fits {a : Int} {xs : List Int} (ha : 0 < a) (hv : everyB 0 999 xs = true) : Fits (scale1 a xs) (scale1 a xs) := by
  refine ⟨rfl, fun i u s hu hs => ?_⟩
  rw [hu] at hs; injection hs with hs; subst hs
  refine ⟨?_, Int.le_refl _, Iff.rfl⟩
  have hi : i < xs.length := by have := (List.getElem?_eq_some_iff.1 hu).1; rwa [scale1_len] at this
  have hx := List.getElem?_eq_getElem hi
  rw [scale1_get hx] at hu
  injection hu with hu
  have hb := everyB_get hv hx
  have hd : 0 ≤ xs[i] * 32 / a := Int.ediv_nonneg (by omega) (by omega)
  split at hu <;> omega
theorem sum_nonneg : ∀ {xs : List Int}, (∀ x ∈ xs, 0 ≤ x) → 0 ≤ sumL xs ∧ ∀ x ∈ xs, x ≤ sumL xs
  | [], _ => ⟨Int.le_refl _, fun _ h => by cases h⟩
  | y :: xs, h => by
    obtain ⟨a, b⟩ := sum_nonneg (xs := xs) fun z hz => h z (List.mem_cons_of_mem _ hz)
    have hy := h y List.mem_cons_self
    refine ⟨by rw [sumL]; omega, fun x hx => ?_⟩
    rw [sumL]
    rcases List.mem_cons.1 hx with e | e
    · subst e; omega
    · have := b x e; omega
/-- What the scaled counts are: as many, 0 where the counts are, of the sum 32, and (but at the greatest count) at most what the proportion says. -/
theorem scL_is {xs : List Int} (h : scB xs = true) : (scL xs).length = 8 ∧ everyB 0 32 (scL xs) = true ∧ sumL (scL xs) = 32 ∧
    (∀ (i : Nat) (u x : Int), (scL xs)[i]? = some u → xs[i]? = some x → 0 ≤ u ∧ (u = 0 ↔ x = 0)) ∧
    (∀ (i : Nat) (u x : Int), i ≠ gr xs → 0 < x → (scL xs)[i]? = some u → xs[i]? = some x → (u - 1) * sumL xs ≤ x * 32) := by
  obtain ⟨h8, hv, hz⟩ := scB_iff.1 h
  have hnn : ∀ x ∈ xs, 0 ≤ x := fun x hx => (inB_iff.1 (List.all_eq_true.1 hv x hx)).1
  have hpos : 0 < sumL xs := by have := (sum_nonneg hnn).1; omega
  obtain ⟨S, hS⟩ : ∃ S, scale1 (sumL xs) xs = S := ⟨_, rfl⟩
  have hS8 : S.length = 8 := by rw [← hS, scale1_len, h8]
  obtain ⟨hF, h32⟩ := shrF_fits hS8 (by rw [← hS]; exact scale1_fits hpos hv)
  obtain ⟨L, hL⟩ : ∃ L, shrF S = L := ⟨_, rfl⟩
  rw [hL] at hF h32
  have hl8 : L.length = 8 := hF.1.trans hS8
  obtain ⟨m, hm, hmx⟩ := gr_at (xs := xs) (by omega)
  have hg8 : gr xs < 8 := by have := (List.getElem?_eq_some_iff.1 hm).1; omega
  have hm0 : 0 < m := by
    have := sumL_le hmx
    rw [h8] at this
    omega
  obtain ⟨u0, hu0⟩ : ∃ u, L[gr xs]? = some u := ⟨_, List.getElem?_eq_getElem (by omega)⟩
  have hsm : S[gr xs]? = some (if 0 < m then max (m * 32 / sumL xs) 1 else m * 32 / sumL xs) := by rw [← hS]; exact scale1_get hm
  rw [if_pos hm0] at hsm
  obtain ⟨f1, f2, f3⟩ := hF.2 _ _ _ hu0 hsm
  have hu0p : 0 < u0 := by
    have : u0 ≠ 0 := fun e => by have := f3.1 e; omega
    omega
  have e : scL xs = L.set (gr xs) (u0 + (32 - sumL L)) := by
    unfold scL
    rw [hS, hL]; simp [List.getD, hu0]
  have hsum : sumL (scL xs) = 32 := by rw [e, sumL_set _ _ u0 _ hu0]; omega
  have hget : ∀ (i : Nat) (u x : Int), (scL xs)[i]? = some u → xs[i]? = some x → 0 ≤ u ∧ (u = 0 ↔ x = 0) := by
    intro i u x hu hx
    rw [e] at hu
    by_cases ei : gr xs = i
    · subst ei
      rw [List.getElem?_set_self (by omega)] at hu
      injection hu with hu
      rw [hm] at hx; injection hx with hx
      omega
    · rw [List.getElem?_set_ne ei] at hu
      have hs : S[i]? = some (if 0 < x then max (x * 32 / sumL xs) 1 else x * 32 / sumL xs) := by rw [← hS]; exact scale1_get hx
      obtain ⟨g1, g2, g3⟩ := hF.2 _ _ _ hu hs
      have hb := everyB_get hv hx
      refine ⟨g1, g3.trans ?_⟩
      by_cases hx0 : 0 < x
      · rw [if_pos hx0]; omega
      · have : x = 0 := by omega
        subst this
        simp
  refine ⟨by rw [e, List.length_set, hl8], ?_, hsum, hget, ?_⟩
  · have hn : ∀ y ∈ scL xs, 0 ≤ y := by
      intro y hy
      obtain ⟨i, hi⟩ := get_of_mem hy
      have hil : i < xs.length := by
        have := (List.getElem?_eq_some_iff.1 hi).1
        rw [e, List.length_set] at this; omega
      exact (hget i y _ hi (List.getElem?_eq_getElem hil)).1
    have hb := (sum_nonneg hn).2
    rw [hsum] at hb
    exact List.all_eq_true.2 fun y hy => inB_iff.2 ⟨hn y hy, hb y hy⟩
  · intro i u x hi hx0 hu hx
    rw [e, List.getElem?_set_ne (Ne.symm hi)] at hu
    have hs : S[i]? = some (if 0 < x then max (x * 32 / sumL xs) 1 else x * 32 / sumL xs) := by rw [← hS]; exact scale1_get hx
    rw [if_pos hx0] at hs
    obtain ⟨g1, g2, _⟩ := hF.2 _ _ _ hu hs
    have hd : x * 32 / sumL xs * sumL xs ≤ x * 32 := Int.ediv_mul_le _ (by omega)
    by_cases h1 : x * 32 / sumL xs < 1
    · have hu1 : u - 1 ≤ 0 := by omega
      have : (u - 1) * sumL xs ≤ 0 := Int.mul_nonpos_of_nonpos_of_nonneg hu1 (by omega)
      omega
    · have hu1 : u - 1 ≤ x * 32 / sumL xs := by omega
      exact Int.le_trans (Int.mul_le_mul_of_nonneg_right hu1 (by omega)) hd
/-- Counts of the sum 32 are scaled counts. -/
theorem scF_same {xs : List Int} (h8 : xs.length = 8) (hv : everyB 0 32 xs = true) (hs : sumL xs = 32) : scF xs = (xs, true) := by
  have hB : scB xs = true := scB_iff.2 ⟨h8, everyB_mono hv (by omega) (by omega), by omega⟩
  have e : scale1 (sumL xs) xs = xs := by
    rw [scale1, hs]
    refine List.ext_getElem? fun i => ?_
    rw [List.getElem?_map]
    cases hx : xs[i]? with
    | none => rfl
    | some x =>
      have hb := everyB_get hv hx
      rw [Option.map_some, Int.mul_ediv_cancel _ (by omega)]
      congr 1
      split <;> omega
  rw [scF_yes hB]
  congr 1
  unfold scL
  rw [e, shrF_no (by omega), hs]
  obtain ⟨m, hm, _⟩ := gr_at (xs := xs) (by omega)
  have hl := (List.getElem?_eq_some_iff.1 hm).1
  simp [List.getD, hm]
  exact (List.getElem?_eq_some_iff.1 hm).2 ▸ List.set_getElem_self hl
theorem sumL_two (xs : List Int) : sumL (xs.map (2 * ·)) = 2 * sumL xs := by
  induction xs with
  | nil => rfl
  | cons x xs ih => rw [List.map_cons, sumL, ih, sumL]; omega
/-- Doubled counts have the same proportions. -/
theorem scF_two {xs : List Int} (h : scB xs = true) (hv : everyB 0 499 xs = true) : scF (xs.map (2 * ·)) = (scL xs, true) := by
  obtain ⟨h8, hv9, hz⟩ := scB_iff.1 h
  have hB : scB (xs.map (2 * ·)) = true := by
    refine scB_iff.2 ⟨by rw [List.length_map, h8], ?_, by rw [sumL_two]; omega⟩
    refine List.all_eq_true.2 fun y hy => ?_
    obtain ⟨x, hx, rfl⟩ := List.mem_map.1 hy
    have := inB_iff.1 (List.all_eq_true.1 hv x hx)
    exact inB_iff.2 (by omega)
  have e : scale1 (sumL (xs.map (2 * ·))) (xs.map (2 * ·)) = scale1 (sumL xs) xs := by
    rw [scale1, scale1, sumL_two, List.map_map]
    refine List.map_congr_left fun x hx => ?_
    show (if 0 < 2 * x then max (2 * x * 32 / (2 * sumL xs)) 1 else 2 * x * 32 / (2 * sumL xs)) = _
    rw [Int.mul_assoc, Int.mul_ediv_mul_of_pos _ _ (by omega)]
    by_cases hx0 : 0 < x
    · rw [if_pos hx0, if_pos (by omega)]
    · rw [if_neg hx0, if_neg (by omega)]
  rw [scF_yes hB]
  unfold scL
  rw [e, gr_two]
/-- Scaled counts before they are made to fit lie from 0 to 32. -/
theorem scale1_range {xs : List Int} (h : scB xs = true) : everyB 0 32 (scale1 (sumL xs) xs) = true := by
  obtain ⟨h8, hv, hz⟩ := scB_iff.1 h
  have hnn : ∀ x ∈ xs, 0 ≤ x := fun x hx => (inB_iff.1 (List.all_eq_true.1 hv x hx)).1
  obtain ⟨hp, hle⟩ := sum_nonneg hnn
  refine List.all_eq_true.2 fun y hy => ?_
  obtain ⟨x, hx, rfl⟩ := List.mem_map.1 hy
  have h0 := hnn x hx
  have h1 := hle x hx
  have h2 : 0 ≤ x * 32 / sumL xs := Int.ediv_nonneg (by omega) hp
  have h3 : x * 32 / sumL xs ≤ 32 := Int.ediv_le_of_le_mul (by omega) (by omega)
  refine inB_iff.2 ?_
  split <;> omega
theorem fits_range {S L : List Int} (h : Fits S L) {m : Int} (hS : everyB 0 m S = true) : everyB 0 m L = true := by
  refine List.all_eq_true.2 fun y hy => ?_
  obtain ⟨i, hi⟩ := get_of_mem hy
  have hil : i < S.length := by rw [← h.1]; exact (List.getElem?_eq_some_iff.1 hi).1
  have hs := List.getElem?_eq_getElem hil
  obtain ⟨a, b, _⟩ := h.2 i y _ hi hs
  have := everyB_get hS hs
  exact inB_iff.2 (by omega)
theorem scale1_cons (a x : Int) (xs : List Int) : scale1 a (x :: xs) = (if 0 < x then max (x * 32 / a) 1 else x * 32 / a) :: scale1 a xs := rfl
/-- One of 8 numbers of a sum above 32 is greater than 0. -/
theorem gr_pos {L : List Int} (h8 : L.length = 8) : ∃ u, L[gr L]? = some u ∧ gr L < 8 ∧ decG L = L.set (gr L) (u - 1) := by
  obtain ⟨u, hu, _⟩ := gr_at (xs := L) (by omega)
  exact ⟨u, hu, by have := (List.getElem?_eq_some_iff.1 hu).1; omega, by simp [decG, List.getD, hu]⟩
end Go.Proofs.Ytflaemmcipbeiaa
