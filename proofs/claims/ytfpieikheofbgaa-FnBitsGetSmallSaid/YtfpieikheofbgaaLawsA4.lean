/- The walks of the laws on BitsPut and BitsGet. No condition. -/
import Derived.Test.YtfpieikheofbgaaBits2
import Derived.Test.YtfpieikheofbgaaBits3
import Derived.Test.YtfpieikheofbgaaBits4
import Derived.Test.YtfpieikheofbgaaBitsT
import Derived.Test.YtfpieikheofbgaaDrawA3
namespace Go.Proofs.Ytfpieikheofbgaa
open Go.RowKit

set_option maxRecDepth 100000 in
set_option maxHeartbeats 3200000 in
theorem FnBitsGetSmall_walk (A : Option Addr) (n c : Nat) (w : World) (h : BRow w w.heap.size A n c) : Calls Try.prog 8 #[.slice A n c] w (PTrue w) := by
  by_cases hn : 1048576 < n
  · go_enter Try.func8, Try.ntmps8
    go_wp2
    go_ret
    exact ⟨rfl, Below.refl _ _⟩
  go_enter Try.func8, Try.ntmps8
  go_wp2_with fail
  refine (DrawBitsGet_s_c A n c _ w h (Nat.le_refl _)).mono ?_
  rintro _ w1 ⟨A1, n1, c1, xs, t, v, rfl, O1, hn1, b1⟩
  have s1 := b1.size
  obtain ⟨⟨o, ok⟩, hR⟩ : ∃ r, bgetF xs t v = r := ⟨_, rfl⟩
  have k1 := BitsGet_c A1 n1 c1 _ xs t v w1 O1.row
  have k2 := BitsGet_s_c A1 n1 c1 _ xs t v w1 O1.row
  rw [hR] at k1 k2
  have HR := hid hR
  clear hR
  have hoo : (o == o) = true := beq_self_eq_true _
  have hoo' : (o != o) = false := by simp
  go_wp2_with fail
  refine k1.mono ?_
  rintro _ w' ⟨rfl, rfl⟩
  go_wp2_with fail
  refine k2.mono ?_
  rintro _ w' ⟨rfl, rfl⟩
  clear k1 k2
  cases ok with
  | false =>
    go_wp2
    go_ret
    exact ⟨rfl, b1⟩
  | true =>
    obtain ⟨t, v, rfl, rfl, hM, hTM, hl6, hb, hv, he, o0, o1⟩ := bget_ok HR.out
    have hlx := O1.len
    have HE := hid he
    have HO := hid o1
    clear he o1 hlx hb hv
    go_wp2_with fail
    go_loop [10, 11] (fun y i => ∃ (k : Nat) (z : Int), k ≤ v ∧ y = .int .i64 z ∧ i = .int .i64 (k : Int) ∧ z = 2 ^ k) (fun _ i => v - (intOf i).toNat)
    case atStart => exact ⟨0, 1, Nat.zero_le _, rfl, rfl, rfl⟩
    case round =>
      obtain ⟨k, z, hk, rfl, rfl, hz⟩ := hrel
      have hp := pow_small (k := k) (m := 16) (by omega)
      rw [show (2 : Int) ^ 16 = 65536 by decide, ← hz] at hp
      have hp0 : 0 < z := by rw [hz]; exact Int.pow_pos (by decide)
      have HZ := hid hz
      clear hz
      by_cases hlt : k < v
      · go_wp2
        go_round
        case rel => exact ⟨k + 1, 2 * z, by omega, rfl, by go_num, by rw [HZ.out, Int.pow_succ, Int.mul_comm]⟩
        case measure => simp [intOf]; omega
      · obtain rfl : k = v := by omega
        have hfin : o < z := by rw [HZ.out]; exact HO.out
        go_wp2
        go_ret
        exact ⟨rfl, b1⟩

set_option maxRecDepth 100000 in
set_option maxHeartbeats 3200000 in
theorem FnBitsNone_walk (A : Option Addr) (n c : Nat) (w : World) (h : BRow w w.heap.size A n c) : Calls Try.prog 11 #[.slice A n c] w (PTrue w) := by
  by_cases hn : 1048576 < n
  · go_enter Try.func11, Try.ntmps11
    go_wp2
    go_ret
    exact ⟨rfl, Below.refl _ _⟩
  go_enter Try.func11, Try.ntmps11
  go_wp2_with fail
  refine (DrawBitsGet_s_c A n c _ w h (Nat.le_refl _)).mono ?_
  rintro _ w1 ⟨A1, n1, c1, xs, t, v, rfl, O1, hn1, b1⟩
  have s1 := b1.size
  obtain ⟨⟨o, ok⟩, hR⟩ : ∃ r, bgetF xs t v = r := ⟨_, rfl⟩
  have k1 := BitsGet_c A1 n1 c1 _ xs t v w1 O1.row
  have k2 := BitsGet_s_c A1 n1 c1 _ xs t v w1 O1.row
  rw [hR] at k1 k2
  have HR := hid hR
  clear hR
  have hoo : (o == o) = true := beq_self_eq_true _
  have hoo' : (o != o) = false := by simp
  go_wp2_with fail
  refine k1.mono ?_
  rintro _ w' ⟨rfl, rfl⟩
  go_wp2_with fail
  refine k2.mono ?_
  rintro _ w' ⟨rfl, rfl⟩
  clear k1 k2
  cases ok with
  | false =>
    go_wp2
    go_ret
    exact ⟨rfl, b1⟩
  | true =>
    obtain ⟨t, v, rfl, rfl, hM, hTM, hl6, hb, hv, he, o0, o1⟩ := bget_ok HR.out
    have hlx := O1.len
    have k3 := BitsGet_c A1 n1 c1 _ xs (t : Int) 0 w1 O1.row
    rw [bget_none hb (by omega)] at k3
    have k4 := BitsPut_c A1 n1 c1 _ xs 0 0 w1 O1.row (Nat.le_refl _)
    rw [bput_none hb] at k4
    have HLX := hid hlx
    have hXX : (xs == xs) = true := beq_self_eq_true _
    clear he hlx hb hv o1
    go_wp2_with fail
    refine k3.mono ?_
    rintro _ w' ⟨rfl, rfl⟩
    go_wp2_with fail
    refine k4.mono ?_
    rintro _ w2 ⟨A2, c2, rfl, O2, b2⟩
    clear k3 k4
    have s2 := b2.size
    simp only [] at O2
    rw [HLX.out] at O2
    simp only [HLX.out]
    go_wp2_with fail
    refine (sameInts_c _ _ _ _ _ _ _ _ _ _ w2 O2.row (O1.row.below b2) (Nat.le_refl _) s2).mono ?_
    rintro _ w6 ⟨rfl, b6⟩
    have hfin := b1.trans ((b2.trans (b6.mono s2)).mono s1)
    go_wp2
    go_ret
    exact ⟨rfl, hfin⟩

set_option maxRecDepth 100000 in
set_option maxHeartbeats 3200000 in
theorem FnBitsGet_walk (A : Option Addr) (n c : Nat) (w : World) (h : BRow w w.heap.size A n c) : Calls Try.prog 10 #[.slice A n c] w (PTrue w) := by
  by_cases hn : 1048576 < n
  · go_enter Try.func10, Try.ntmps10
    go_wp2
    go_ret
    exact ⟨rfl, Below.refl _ _⟩
  go_enter Try.func10, Try.ntmps10
  go_wp2_with fail
  refine (DrawBitsGet_s_c A n c _ w h (Nat.le_refl _)).mono ?_
  rintro _ w1 ⟨A1, n1, c1, xs, t, v, rfl, O1, hn1, b1⟩
  have s1 := b1.size
  obtain ⟨⟨o, ok⟩, hR⟩ : ∃ r, bgetF xs t v = r := ⟨_, rfl⟩
  have k1 := BitsGet_c A1 n1 c1 _ xs t v w1 O1.row
  have k2 := BitsGet_s_c A1 n1 c1 _ xs t v w1 O1.row
  rw [hR] at k1 k2
  have HR := hid hR
  clear hR
  have hoo : (o == o) = true := beq_self_eq_true _
  have hoo' : (o != o) = false := by simp
  go_wp2_with fail
  refine k1.mono ?_
  rintro _ w' ⟨rfl, rfl⟩
  go_wp2_with fail
  refine k2.mono ?_
  rintro _ w' ⟨rfl, rfl⟩
  clear k1 k2
  cases ok with
  | false =>
    go_wp2
    go_ret
    exact ⟨rfl, b1⟩
  | true =>
    obtain ⟨t, v, rfl, rfl, hM, hTM, hl6, hb, hv, he, o0, o1⟩ := bget_ok HR.out
    have hlx := O1.len
    rw [hlx] at hTM hl6
    have hcap := O1.caps
    have hcm := hcap.2
    unfold maxLen at hcm
    have hI1 : (t : Int) ≤ (c1 : Int) := by omega
    have hI2 : (t : Int) + (v : Int) ≤ (c1 : Int) := by omega
    have hI3 : (0 : Int) ≤ (t : Int) + (v : Int) := by omega
    have hTN : ((t : Int) + (v : Int)).toNat = t + v := by omega
    have k4 := BitsPut_c A1 t c1 _ (xs.take t) o v w1 (O1.row.pre (by omega)) (Nat.le_refl _)
    rw [he, bput_get hb hM (by omega), ← he] at k4
    obtain ⟨Y, hY⟩ : ∃ Y, xs.take (t + v) = Y := ⟨_, rfl⟩
    have hpre := O1.row.pre (k := t + v) hTM
    rw [hY] at k4 hpre
    have hyl : Y.length = t + v := by rw [← hY, List.length_take]; omega
    have HLX := hid hyl
    have hXX : (Y == Y) = true := beq_self_eq_true _
    clear he hlx hb hv o1 hY hyl hcap
    go_wp2_with fail
    refine k4.mono ?_
    rintro _ w2 ⟨A2, c2, rfl, O2, b2⟩
    clear k4
    have s2 := b2.size
    simp only [] at O2
    rw [HLX.out] at O2
    simp only [HLX.out]
    go_wp2_with fail
    refine (sameInts_c _ _ _ _ _ _ _ _ _ _ w2 O2.row (hpre.below b2) (Nat.le_refl _) s2).mono ?_
    rintro _ w6 ⟨rfl, b6⟩
    have hfin := b1.trans ((b2.trans (b6.mono s2)).mono s1)
    go_wp2
    go_ret
    exact ⟨rfl, hfin⟩

set_option maxRecDepth 100000 in
set_option maxHeartbeats 3200000 in
theorem FnBitsGetParts_walk (A : Option Addr) (n c : Nat) (D : Option Addr) (m d : Nat) (w : World) (h : BRow w w.heap.size A n c) (_ : BRow w w.heap.size D m d) : Calls Try.prog 7 #[.slice A n c, .slice D m d] w (PTrue w) := by
  by_cases hn : 1048576 < n
  · go_enter Try.func7, Try.ntmps7
    go_wp2
    go_ret
    exact ⟨rfl, Below.refl _ _⟩
  by_cases hm : 1048576 < m
  · go_enter Try.func7, Try.ntmps7
    go_wp2
    go_ret
    exact ⟨rfl, Below.refl _ _⟩
  go_enter Try.func7, Try.ntmps7
  go_wp2_with fail
  refine (DrawBitsGet_s_c A n c _ w h (Nat.le_refl _)).mono ?_
  rintro _ w1 ⟨A1, n1, c1, xs, t, v, rfl, O1, hn1, b1⟩
  have s1 := b1.size
  obtain ⟨⟨o, ok⟩, hR⟩ : ∃ r, bgetF xs t v = r := ⟨_, rfl⟩
  have k1 := BitsGet_c A1 n1 c1 _ xs t v w1 O1.row
  have k2 := BitsGet_s_c A1 n1 c1 _ xs t v w1 O1.row
  rw [hR] at k1 k2
  have HR := hid hR
  clear hR
  have hoo : (o == o) = true := beq_self_eq_true _
  have hoo' : (o != o) = false := by simp
  go_wp2_with fail
  refine k1.mono ?_
  rintro _ w' ⟨rfl, rfl⟩
  go_wp2_with fail
  refine k2.mono ?_
  rintro _ w' ⟨rfl, rfl⟩
  clear k1 k2
  cases ok with
  | false =>
    go_wp2
    go_ret
    exact ⟨rfl, b1⟩
  | true =>
    obtain ⟨t, v, rfl, rfl, hM, hTM, hl6, hb, hv, he, o0, o1⟩ := bget_ok HR.out
    have hlx := O1.len
    obtain ⟨k, hkE, hk⟩ := mod_at m v
    obtain ⟨a, b, e1, e2, a0, a1, b0, b9, hsum⟩ := bget_parts (T := t) (M := v) (k := k) hb hM (by omega) hk
    have k3 := BitsGet_c A1 n1 c1 _ xs (t : Int) (k : Int) w1 O1.row
    rw [e1] at k3
    have k4 := BitsGet_c A1 n1 c1 _ xs ((t : Int) + (k : Int)) ((v : Int) - (k : Int)) w1 O1.row
    rw [e2] at k4
    have HE := hid (he.trans hsum)
    have HA := hid a1
    rw [hlx] at hTM hl6
    clear he hsum e1 e2 hlx hb hv o1 a1
    go_wp2_with fail
    refine k3.mono ?_
    rintro _ w' ⟨rfl, rfl⟩
    go_wp2_with fail
    refine k4.mono ?_
    rintro _ w' ⟨rfl, rfl⟩
    clear k3 k4 hkE
    go_wp2_with fail
    go_loop [13, 17] (fun y i => ∃ (j : Nat) (z : Int), j ≤ v - k ∧ y = .int .i64 z ∧ i = .int .i64 (j : Int) ∧ z = a * 2 ^ j) (fun _ i => v - k - (intOf i).toNat)
    case atStart => exact ⟨0, a, Nat.zero_le _, rfl, rfl, by rw [Int.pow_zero, Int.mul_one]⟩
    case round =>
      obtain ⟨j, z, hj, rfl, rfl, hz⟩ := hrel
      have hp0 : 0 ≤ z := by rw [hz]; exact Int.mul_nonneg a0 (Int.le_of_lt (Int.pow_pos (by decide)))
      have hp : z ≤ 65536 := by
        rw [hz]
        have h1 : a * 2 ^ j ≤ 2 ^ k * 2 ^ j := Int.mul_le_mul_of_nonneg_right (Int.le_of_lt HA.out) (Int.le_of_lt (Int.pow_pos (by decide)))
        rw [← Int.pow_add] at h1
        have h2 := pow_small (k := k + j) (m := 16) (by omega)
        rw [show (2 : Int) ^ 16 = 65536 by decide] at h2
        omega
      have HZ := hid hz
      clear hz
      by_cases hlt : j < v - k
      · have hltI : (j : Int) < (v : Int) - (k : Int) := by omega
        go_wp2
        go_round
        case rel => exact ⟨j + 1, 2 * z, by omega, rfl, by go_num, by rw [HZ.out, Int.pow_succ, Int.mul_comm 2, Int.mul_assoc]⟩
        case measure => simp [intOf]; omega
      · obtain rfl : j = v - k := by omega
        have hltI : ¬ ((v - k : Nat) : Int) < (v : Int) - (k : Int) := by omega
        have hfin : (o == z + b) = true := by rw [HZ.out, HE.out]; exact beq_self_eq_true _
        go_wp2
        go_ret
        exact ⟨rfl, b1⟩

set_option maxRecDepth 100000 in
set_option maxHeartbeats 3200000 in
theorem FnBitsPut_walk (A : Option Addr) (n c : Nat) (w : World) (h : BRow w w.heap.size A n c) : Calls Try.prog 13 #[.slice A n c] w (PTrue w) := by
  by_cases hn : 1048576 < n
  · go_enter Try.func13, Try.ntmps13
    go_wp2
    go_ret
    exact ⟨rfl, Below.refl _ _⟩
  go_enter Try.func13, Try.ntmps13
  go_wp2_with fail
  refine (DrawBitsPut_s_c A n c _ w h (Nat.le_refl _)).mono ?_
  rintro _ w1 ⟨A1, n1, c1, xs, t, v, rfl, O1, hn1, b1⟩
  have s1 := b1.size
  obtain ⟨⟨r, ok⟩, hR⟩ : ∃ r, bputF xs t v = r := ⟨_, rfl⟩
  have k1 := BitsPut_c A1 n1 c1 _ xs t v w1 O1.row (Nat.le_refl _)
  rw [hR] at k1
  have HR := hid hR
  clear hR
  have hrr : (r == r) = true := beq_self_eq_true _
  go_wp2_with fail
  refine k1.mono ?_
  rintro _ w2 ⟨A2, c2, rfl, O2, b2⟩
  clear k1
  have s2 := b2.size
  have k2 := BitsPut_s_c A1 n1 c1 _ xs t v w2 (O1.row.below b2) s2
  rw [HR.out] at k2
  go_wp2_with fail
  refine k2.mono ?_
  rintro _ w3 ⟨A3, c3, rfl, O3, b3⟩
  clear k2
  have s3 := b3.size
  have b13 := b1.trans ((b2.trans (b3.mono s2)).mono s1)
  cases ok with
  | false =>
    go_wp2_with fail
    refine (sameInts_c _ _ _ _ _ _ _ _ _ _ w3 (O2.row.below b3) O3.row s3 (Nat.le_refl _)).mono ?_
    rintro _ w4 ⟨rfl, b4⟩
    have s4 := b4.size
    go_wp2_with fail
    first
      | (refine (sameInts_c _ _ _ _ _ _ _ _ _ _ w4 ((O2.row.below b3).below (b4.mono s3)) (O3.row.below b4) (Nat.le_trans s3 s4) s4).mono ?_
         rintro _ w5 ⟨rfl, b5⟩
         have hfin := (b13.trans (b4.mono (by omega))).trans (b5.mono (by omega))
         go_wp2
         go_ret
         exact ⟨rfl, hfin⟩)
      | (go_wp2
         go_ret
         exact ⟨rfl, b13.trans (b4.mono (by omega))⟩)
  | true =>
    obtain ⟨v, rfl, hM, hl6, he, hrl, t0, t9, hg, htk⟩ := bput_ok HR.out
    have hlx := O1.len
    rw [hlx] at hl6 hrl hg htk
    have HRL := hid hrl
    have HTK := hid htk
    have hXX : (xs == xs) = true := beq_self_eq_true _
    clear he hrl hlx htk
    simp only [] at O2 O3
    rw [HRL.out] at O2 O3
    simp only [HRL.out]
    go_wp2_with fail
    refine (sameInts_c _ _ _ _ _ _ _ _ _ _ w3 (O2.row.below b3) O3.row s3 (Nat.le_refl _)).mono ?_
    rintro _ w4 ⟨rfl, b4⟩
    have s4 := b4.size
    have O4 := (O1.below b2 (Nat.le_refl _)).below (b3.trans (b4.mono s3)) (Nat.le_refl _)
    have R4 := (O2.below b3 (Nat.le_refl _)).below b4 (Nat.le_refl _)
    have b14 := b13.trans (b4.mono (by omega))
    have k5 := BitsGet_c A2 (n1 + v) c2 _ r (n1 : Int) (v : Int) w4 R4.row
    rw [hg] at k5
    have hcap := R4.caps
    have hcm := hcap.2
    unfold maxLen at hcm
    have hI1 : (n1 : Int) ≤ (c2 : Int) := by omega
    have htt : (t == t) = true := beq_self_eq_true _
    have hpre := R4.row.pre (k := n1) (by omega)
    rw [HTK.out] at hpre
    have hlen : (((n1 + v : Nat) : Int) == (n1 : Int) + (v : Int)) = true := by simp
    have hlen2 : ((n1 : Int) + (v : Int) == (n1 : Int) + (v : Int)) = true := by simp
    clear hg hcap
    go_wp2_with fail
    refine k5.mono ?_
    rintro _ w' ⟨rfl, rfl⟩
    clear k5
    go_wp2_with fail
    refine (sameInts_c _ _ _ _ _ _ _ _ _ _ w4 hpre O4.row (Nat.le_refl _) (Nat.le_refl _)).mono ?_
    rintro _ w6 ⟨rfl, b6⟩
    have hfin := b14.trans (b6.mono (by omega))
    go_wp2
    go_ret
    exact ⟨rfl, hfin⟩
end Go.Proofs.Ytfpieikheofbgaa
