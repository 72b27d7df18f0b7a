/- What is put is got, and the other way round, plainly. No program in sight. No condition. -/
import Derived.Test.YtfpieikheofbgaaBitsQ
namespace Go.Proofs.Ytfpieikheofbgaa
open Go.RowKit
theorem getL_put : ∀ (m : Nat) (n : Int), 0 ≤ n → n < 2 ^ m → getL 0 (putL n m) = n
  | 0, n, h0, h1 => by rw [Int.pow_zero] at h1; rw [putL, getL]; omega
  | m + 1, n, h0, h1 => by
    rw [Int.pow_succ] at h1
    have e : getL 0 (putL n (m + 1)) = 2 * getL 0 (putL (n / 2) m) + n % 2 := by rw [putL, getL_append]; rfl
    rw [e, getL_put m (n / 2) (by omega) (by omega)]; omega
theorem putL_get' : ∀ (m : Nat) (ys : List Int), ys.length = m → everyB 0 1 ys = true → putL (getL 0 ys) m = ys
  | 0, ys, hl, _ => by rw [List.eq_nil_of_length_eq_zero hl]; rfl
  | m + 1, ys, hl, hv => by
    have hne : ys ≠ [] := by intro e; rw [e] at hl; cases hl
    have e := List.dropLast_concat_getLast hne
    obtain ⟨zs, hz⟩ : ∃ zs, ys.dropLast = zs := ⟨_, rfl⟩
    obtain ⟨x, hx⟩ : ∃ x, ys.getLast hne = x := ⟨_, rfl⟩
    rw [hz, hx] at e
    subst e
    rw [everyB_append, Bool.and_eq_true, everyB_cons, everyB_nil, Bool.and_true, inB_iff] at hv
    rw [List.length_append] at hl
    have ih := putL_get' m zs (by simpa using hl) hv.1
    have e2 : getL 0 (zs ++ [x]) = 2 * getL 0 zs + x := by rw [getL_append]; rfl
    rw [putL, e2, show (2 * getL 0 zs + x) / 2 = getL 0 zs by omega, ih, show (2 * getL 0 zs + x) % 2 = x by omega]
theorem getL_acc : ∀ (ys : List Int) (a : Int), getL a ys = a * 2 ^ ys.length + getL 0 ys
  | [], a => by simp [getL]
  | y :: ys, a => by
    rw [getL_cons, getL_cons, getL_acc ys (2 * a + y), getL_acc ys (2 * 0 + y), List.length_cons, Int.pow_succ, Int.mul_zero, Int.zero_add, Int.add_mul, ← Int.add_assoc]
    congr 2
    rw [Int.mul_comm 2 a, Int.mul_assoc, Int.mul_comm 2]
/-- What a number that was got is: the bits of a part. -/
theorem bget_ok {xs : List Int} {t m o : Int} (h : bgetF xs t m = (o, true)) : ∃ T M : Nat, t = (T : Int) ∧ m = (M : Int) ∧ M ≤ 16 ∧ T + M ≤ xs.length ∧ xs.length ≤ 600 ∧ bitsB xs = true ∧ everyB 0 1 xs = true ∧ o = getL 0 ((xs.drop T).take M) ∧ 0 ≤ o ∧ o < 2 ^ M := by
  by_cases hc : bitsB xs = true ∧ 0 ≤ m ∧ m ≤ 16 ∧ 0 ≤ t ∧ t + m ≤ xs.length
  · obtain ⟨h1, h2, h3, h4, h5⟩ := hc
    obtain ⟨T, rfl⟩ := Int.eq_ofNat_of_zero_le h4
    obtain ⟨M, rfl⟩ := Int.eq_ofNat_of_zero_le h2
    obtain ⟨v1, v2⟩ := bitsB_iff.1 h1
    rw [bgetF_yes h1 (by omega) (by omega)] at h
    injection h with h _
    have hr := getL_range _ (everyB_take (everyB_drop v1 T) M) 0 (by omega)
    rw [List.length_take, List.length_drop, Nat.min_eq_left (by omega), h] at hr
    exact ⟨T, M, rfl, rfl, by omega, by omega, v2, h1, v1, h.symm, hr.1, by omega⟩
  · rw [bgetF_no hc] at h
    cases h
theorem bput_ok {xs r : List Int} {n m : Int} (h : bputF xs n m = (r, true)) : ∃ M : Nat, m = (M : Int) ∧ M ≤ 16 ∧ xs.length + M ≤ 600 ∧ r = xs ++ putL n M ∧ r.length = xs.length + M ∧ 0 ≤ n ∧ n ≤ 65535 ∧ bgetF r xs.length M = (n, true) ∧ r.take xs.length = xs := by
  by_cases hc : bitsB xs = true ∧ 0 ≤ m ∧ m ≤ 16 ∧ 0 ≤ n ∧ n < 2 ^ m.toNat ∧ xs.length + m ≤ 600
  · obtain ⟨h1, h2, h3, h4, h5, h6⟩ := hc
    obtain ⟨M, rfl⟩ := Int.eq_ofNat_of_zero_le h2
    rw [Int.toNat_natCast] at h5
    obtain ⟨v1, v2⟩ := bitsB_iff.1 h1
    rw [bputF_yes h1 (by omega) h4 h5 (by omega)] at h
    injection h with h _
    subst h
    have hl : (xs ++ putL n M).length = xs.length + M := by rw [List.length_append, putL_len]
    have hb : bitsB (xs ++ putL n M) = true := bitsB_iff.2 ⟨by rw [everyB_append, v1, putL_bits]; rfl, by omega⟩
    have hp := pow_small (k := M) (m := 16) (by omega)
    rw [show (2 : Int) ^ 16 = 65536 by decide] at hp
    refine ⟨M, rfl, by omega, by omega, rfl, hl, h4, by omega, ?_, List.take_left' rfl⟩
    rw [bgetF_yes hb (by omega) (by omega), List.drop_left' rfl, List.take_of_length_le (by rw [putL_len]; exact Nat.le_refl _), getL_put M n h4 h5]
  · rw [bputF_no hc] at h
    cases h
theorem bput_get {xs : List Int} {T M : Nat} (hb : bitsB xs = true) (hm : M ≤ 16) (hl : T + M ≤ xs.length) : bputF (xs.take T) (getL 0 ((xs.drop T).take M)) M = (xs.take (T + M), true) := by
  obtain ⟨v1, v2⟩ := bitsB_iff.1 hb
  have hr := getL_range _ (everyB_take (everyB_drop v1 T) M) 0 (by omega)
  have hyl : ((xs.drop T).take M).length = M := by rw [List.length_take, List.length_drop]; omega
  rw [hyl] at hr
  have htl : (xs.take T).length = T := by rw [List.length_take]; omega
  have e := putL_get' M _ hyl (everyB_take (everyB_drop v1 T) M)
  rw [bputF_yes (bitsB_iff.2 ⟨everyB_take v1 T, by omega⟩) hm hr.1 (by omega) (by omega), e, List.take_add]
theorem bput_none {xs : List Int} (hb : bitsB xs = true) : bputF xs 0 0 = (xs, true) := by
  have := bputF_yes (n := 0) (m := 0) hb (by omega) (by omega) (by decide) (by have := (bitsB_iff.1 hb).2; omega)
  rw [putL, List.append_nil] at this
  exact this
theorem bget_none {xs : List Int} {T : Nat} (hb : bitsB xs = true) (hl : T ≤ xs.length) : bgetF xs T 0 = (0, true) := by
  have := bgetF_yes (t := T) (m := 0) hb (by omega) (by omega)
  rw [List.take_zero] at this
  exact this
/-- A number's front and back part. -/
theorem bget_parts {xs : List Int} {T M k : Nat} (hb : bitsB xs = true) (hm : M ≤ 16) (hl : T + M ≤ xs.length) (hk : k ≤ M) :
    ∃ a b : Int, bgetF xs T k = (a, true) ∧ bgetF xs ((T : Int) + (k : Int)) ((M : Int) - (k : Int)) = (b, true) ∧ 0 ≤ a ∧ a < 2 ^ k ∧ 0 ≤ b ∧ b ≤ 65535 ∧ getL 0 ((xs.drop T).take M) = a * 2 ^ (M - k) + b := by
  obtain ⟨v1, v2⟩ := bitsB_iff.1 hb
  have e1 := bgetF_yes (t := T) (m := k) hb (by omega) (by omega)
  have e2 := bgetF_yes (t := T + k) (m := M - k) hb (by omega) (by omega)
  rw [show ((T + k : Nat) : Int) = (T : Int) + (k : Int) by omega, show ((M - k : Nat) : Int) = (M : Int) - (k : Int) by omega] at e2
  have r1 := getL_range _ (everyB_take (everyB_drop v1 T) k) 0 (by omega)
  have r2 := getL_range _ (everyB_take (everyB_drop v1 (T + k)) (M - k)) 0 (by omega)
  rw [List.length_take, List.length_drop, Nat.min_eq_left (by omega)] at r1 r2
  have hp := pow_small (k := M - k) (m := 16) (by omega)
  rw [show (2 : Int) ^ 16 = 65536 by decide] at hp
  refine ⟨_, _, e1, e2, r1.1, by omega, r2.1, by omega, ?_⟩
  have e : (xs.drop T).take M = (xs.drop T).take k ++ (xs.drop (T + k)).take (M - k) := by
    have h1 := List.take_add (l := xs.drop T) (i := k) (j := M - k)
    rw [show k + (M - k) = M by omega, List.drop_drop] at h1
    exact h1
  rw [e, getL_append, getL_acc, List.length_take, List.length_drop, Nat.min_eq_left (by omega)]
end Go.Proofs.Ytfpieikheofbgaa
