/- The walk of the law on BitsBytes. No condition. -/
import Derived.Test.YtfpieikheofbgaaBits5
import Derived.Test.YtfpieikheofbgaaBits6
import Derived.Test.YtfpieikheofbgaaBitsS
import Derived.Test.YtfpieikheofbgaaDrawA2
namespace Go.Proofs.Ytfpieikheofbgaa
open Go.RowKit

set_option maxRecDepth 100000 in
set_option maxHeartbeats 3200000 in
theorem FnBitsBytes_walk (A : Option Addr) (n c : Nat) (w : World) (h : BRow w w.heap.size A n c) : Calls Try.prog 14 #[.slice A n c] w (PTrue w) := by
  by_cases hn : 1048576 < n
  · go_enter Try.func14, Try.ntmps14
    go_wp2
    go_ret
    exact ⟨rfl, Below.refl _ _⟩
  go_enter Try.func14, Try.ntmps14
  go_wp2_with fail
  refine (DrawBitsBytes_s_c A n c _ w h (Nat.le_refl _)).mono ?_
  rintro _ w1 ⟨A1, n1, c1, xs, rfl, O1, hn1, b1⟩
  have s1 := b1.size
  obtain ⟨⟨r, ok⟩, hR⟩ : ∃ r, r = bbF xs := ⟨_, rfl⟩
  have k1 := BitsBytes_c A1 n1 c1 _ xs w1 O1.row (Nat.le_refl _)
  rw [← hR] at k1
  have HR := hid hR
  clear hR
  have hrr : (r == r) = true := beq_self_eq_true _
  go_wp2_with fail
  refine k1.mono ?_
  rintro _ w2 ⟨A2, c2, rfl, O2, b2⟩
  clear k1
  have s2 := b2.size
  have k2 := BitsBytes_s_c A1 n1 c1 _ xs w2 (O1.row.below b2) s2
  rw [← HR.out] at k2
  go_wp2_with fail
  refine k2.mono ?_
  rintro _ w3 ⟨A3, c3, rfl, O3, b3⟩
  clear k2
  have s3 := b3.size
  have b13 := b1.trans ((b2.trans (b3.mono s2)).mono s1)
  cases ok with
  | false =>
    go_wp2_with fail
    refine (sameInts_c _ _ _ _ _ _ _ _ _ _ w3 (O2.row.below b3) O3.row s3 (Nat.le_refl _)).mono ?_
    rintro _ w4 ⟨rfl, b4⟩
    have s4 := b4.size
    go_wp2_with fail
    first
      | (refine (sameInts_c _ _ _ _ _ _ _ _ _ _ w4 ((O2.row.below b3).below (b4.mono s3)) (O3.row.below b4) (Nat.le_trans s3 s4) s4).mono ?_
         rintro _ w5 ⟨rfl, b5⟩
         have hfin := (b13.trans (b4.mono (by omega))).trans (b5.mono (by omega))
         go_wp2
         go_ret
         exact ⟨rfl, hfin⟩)
      | (go_wp2
         go_ret
         exact ⟨rfl, b13.trans (b4.mono (by omega))⟩)
  | true =>
    have hok : bitsB xs = true := by
      refine Classical.byContradiction fun hno => ?_
      rw [Bool.not_eq_true] at hno
      have := HR.out
      rw [bbF_no hno] at this
      cases this
    have hlx := O1.len
    obtain ⟨hv1, hl6⟩ := bitsB_iff.1 hok
    rw [hlx] at hl6
    obtain ⟨q, hq⟩ : ∃ q, (n1 + 7) / 8 = q := ⟨_, rfl⟩
    have hq8 : n1 ≤ 8 * q ∧ q ≤ 75 ∧ 8 * q < n1 + 8 := by omega
    obtain ⟨hq1, hq2, hq3⟩ := hq8
    have hr : r = packN q (fillQ q n1 xs) := by have := HR.out; rw [bbF_yes hok hlx hq] at this; exact (Prod.mk.inj this).1
    obtain ⟨Y, hY⟩ : ∃ Y, fillQ q n1 xs = Y := ⟨_, rfl⟩
    have hfe : fillQ q n1 xs = xs ++ List.replicate (8 * q - n1) 0 := by rw [fillQ, List.take_of_length_le (by omega)]
    have hfl : (fillQ q n1 xs).length = 8 * q := fillQ_len (by omega) (by omega)
    have hfb : everyB 0 1 (fillQ q n1 xs) = true := by rw [hfe, everyB_append, hv1, zeros_bits]; rfl
    obtain ⟨e1, e2⟩ := flat_pack hfb q hfl
    have hft : (fillQ q n1 xs).take n1 = xs := by rw [hfe, List.take_left' hlx]
    have hfd : (fillQ q n1 xs).drop n1 = List.replicate (8 * q - n1) 0 := by rw [hfe, List.drop_left' hlx]
    have hsum : ∀ z, sumL (List.replicate z (0 : Int)) = 0 := by intro z; induction z with | zero => rfl | succ z ih => rw [List.replicate_succ, sumL, ih]; rfl
    have hev : ∀ z, everyB 0 1000 (List.replicate z (0 : Int)) = true := by intro z; induction z with | zero => rfl | succ z ih => rw [List.replicate_succ, everyB_cons, ih]; rfl
    have HS := hid (hsum (8 * q - n1))
    have HE := hid (hev (8 * q - n1))
    have HX := hid (show byF r = (Y, true) by rw [hr, ← hY, byF_yes e2 (by rw [packN_len]; omega), e1])
    have HPL := hid (show r.length = q by rw [hr, packN_len])
    rw [hY] at hfl hft hfd
    have HFL := hid hfl
    have HFT := hid hft
    have HFD := hid hfd
    have hXX : (xs == xs) = true := beq_self_eq_true _
    clear hq hlx hfe hfl hfb hft hfd hsum hev e1 e2 hok hr hY
    simp only [] at O2 O3
    rw [HPL.out] at O2 O3
    simp only [HPL.out]
    go_wp2_with fail
    refine (sameInts_c _ _ _ _ _ _ _ _ _ _ w3 (O2.row.below b3) O3.row s3 (Nat.le_refl _)).mono ?_
    rintro _ w4 ⟨rfl, b4⟩
    have s4 := b4.size
    have O4 := (O1.below b2 (Nat.le_refl _)).below (b3.trans (b4.mono s3)) (Nat.le_refl _)
    have R4 := (O2.row.below b3).below (b4.mono s3)
    have b14 := b13.trans (b4.mono (by omega))
    have k5 := BytesBits_c A2 q c2 _ r w4 R4 (by omega)
    rw [HX.out] at k5
    go_wp2_with fail
    refine k5.mono ?_
    rintro _ w5 ⟨A5, c5, rfl, O5, b5⟩
    clear k5
    have s5 := b5.size
    simp only [] at O5
    rw [HFL.out] at O5
    simp only [HFL.out]
    have b15 := b14.trans (b5.mono (by omega))
    have hcap5 := O5.caps
    have hcm5 := hcap5.2
    unfold maxLen at hcm5
    have hI1 : (n1 : Int) ≤ 8 * (q : Int) := by omega
    have hI2 : 8 * (q : Int) < (n1 : Int) + 8 := by omega
    have hI3 : (n1 : Int) ≤ (c5 : Int) := by omega
    have hr1 := O5.row.pre (k := n1) hq1
    rw [HFT.out] at hr1
    obtain ⟨E, hE, hr2⟩ := O5.row.suf_at (k := n1) hq1
    rw [HFD.out] at hr2
    go_wp2_with fail
    refine (sameInts_c _ _ _ _ _ _ _ _ _ _ w5 hr1 (O4.row.below b5) (Nat.le_refl _) s5).mono ?_
    rintro _ w6 ⟨rfl, b6⟩
    have hfin := b15.trans (b6.mono (by omega))
    have k7 := sumOf_c _ _ _ _ _ w6 (hr2.below b6) HE.out (by omega)
    rw [HS.out] at k7
    go_wp2_with fail
    refine k7.mono ?_
    rintro _ w' ⟨rfl, rfl⟩
    go_wp2
    go_ret
    exact ⟨rfl, hfin⟩
end Go.Proofs.Ytfpieikheofbgaa
