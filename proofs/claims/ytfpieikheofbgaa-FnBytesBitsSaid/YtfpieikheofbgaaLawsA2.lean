/- The walk of the law on BytesBits. No condition. -/
import Derived.Test.YtfpieikheofbgaaBits5
import Derived.Test.YtfpieikheofbgaaBitsR
import Derived.Test.YtfpieikheofbgaaDrawA
namespace Go.Proofs.Ytfpieikheofbgaa
open Go.RowKit

set_option maxRecDepth 100000 in
set_option maxHeartbeats 3200000 in
theorem FnBytesBits_walk (A : Option Addr) (n c : Nat) (w : World) (h : BRow w w.heap.size A n c) : Calls Try.prog 12 #[.slice A n c] w (PTrue w) := by
  by_cases hn : 1048576 < n
  · go_enter Try.func12, Try.ntmps12
    go_wp2
    go_ret
    exact ⟨rfl, Below.refl _ _⟩
  go_enter Try.func12, Try.ntmps12
  go_wp2_with fail
  refine (DrawBytesBits_s_c A n c _ w h (Nat.le_refl _)).mono ?_
  rintro _ w1 ⟨A1, n1, c1, xs, rfl, O1, hn1, b1⟩
  have s1 := b1.size
  obtain ⟨⟨r, ok⟩, hR⟩ : ∃ r, r = byF xs := ⟨_, rfl⟩
  have k1 := BytesBits_c A1 n1 c1 _ xs w1 O1.row (Nat.le_refl _)
  rw [← hR] at k1
  have HR := hid hR
  clear hR
  have hrr : (r == r) = true := beq_self_eq_true _
  go_wp2_with fail
  refine k1.mono ?_
  rintro _ w2 ⟨A2, c2, rfl, O2, b2⟩
  clear k1
  have s2 := b2.size
  have k2 := BytesBits_s_c A1 n1 c1 _ xs w2 (O1.row.below b2) s2
  rw [← HR.out] at k2
  go_wp2_with fail
  refine k2.mono ?_
  rintro _ w3 ⟨A3, c3, rfl, O3, b3⟩
  clear k2
  have s3 := b3.size
  have b13 := b1.trans ((b2.trans (b3.mono s2)).mono s1)
  cases ok with
  | false =>
    go_wp2_with fail
    refine (sameInts_c _ _ _ _ _ _ _ _ _ _ w3 (O2.row.below b3) O3.row s3 (Nat.le_refl _)).mono ?_
    rintro _ w4 ⟨rfl, b4⟩
    have s4 := b4.size
    go_wp2_with fail
    first
      | (refine (sameInts_c _ _ _ _ _ _ _ _ _ _ w4 ((O2.row.below b3).below (b4.mono s3)) (O3.row.below b4) (Nat.le_trans s3 s4) s4).mono ?_
         rintro _ w5 ⟨rfl, b5⟩
         have hfin := (b13.trans (b4.mono (by omega))).trans (b5.mono (by omega))
         go_wp2
         go_ret
         exact ⟨rfl, hfin⟩)
      | (go_wp2
         go_ret
         exact ⟨rfl, b13.trans (b4.mono (by omega))⟩)
  | true =>
    have hok : everyB 0 255 xs = true ∧ 8 * xs.length ≤ 600 := by
      refine Classical.byContradiction fun hno => ?_
      have := HR.out
      rw [byF_no hno] at this
      cases this
    obtain rfl : r = flatL xs := by have := HR.out; rw [byF_yes hok.1 hok.2] at this; exact (Prod.mk.inj this).1
    have hlx := O1.len
    have HL := hid (show (flatL xs).length = 8 * n1 by rw [flatL_len, hlx])
    have HX := hid (bb_flat hok.1 hok.2)
    have hLX := hid hlx
    have hn75 : n1 ≤ 75 := by have := hok.2; omega
    have hXX : (xs == xs) = true := beq_self_eq_true _
    have h8 : (8 * (n1 : Int) == 8 * (n1 : Int)) = true := beq_self_eq_true _
    clear hok hlx
    simp only [] at O2 O3
    rw [HL.out] at O2 O3
    simp only [HL.out]
    go_wp2_with fail
    refine (sameInts_c _ _ _ _ _ _ _ _ _ _ w3 (O2.row.below b3) O3.row s3 (Nat.le_refl _)).mono ?_
    rintro _ w4 ⟨rfl, b4⟩
    have s4 := b4.size
    have O4 := (O1.below b2 (Nat.le_refl _)).below (b3.trans (b4.mono s3)) (Nat.le_refl _)
    have R4 := (O2.row.below b3).below (b4.mono s3)
    have b14 := b13.trans (b4.mono (by omega))
    have k5 := BitsBytes_c A2 (8 * n1) c2 _ (flatL xs) w4 R4 (by omega)
    rw [HX.out] at k5
    go_wp2_with fail
    refine k5.mono ?_
    rintro _ w5 ⟨A5, c5, rfl, O5, b5⟩
    clear k5
    have s5 := b5.size
    simp only [] at O5
    rw [hLX.out] at O5
    simp only [hLX.out]
    have b15 := b14.trans (b5.mono (by omega))
    go_wp2_with fail
    refine (sameInts_c _ _ _ _ _ _ _ _ _ _ w5 O5.row (O4.row.below b5) (Nat.le_refl _) s5).mono ?_
    rintro _ w6 ⟨rfl, b6⟩
    have hfin := b15.trans (b6.mono (by omega))
    go_wp2
    go_ret
    exact ⟨rfl, hfin⟩
end Go.Proofs.Ytfpieikheofbgaa
