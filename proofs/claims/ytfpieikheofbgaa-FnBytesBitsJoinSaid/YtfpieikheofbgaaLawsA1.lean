/- The walk of the law on BytesBits of two parts. No condition. -/
import Derived.Test.YtfpieikheofbgaaBits1
import Derived.Test.YtfpieikheofbgaaJoinW
import Derived.Test.YtfpieikheofbgaaDrawA
namespace Go.Proofs.Ytfpieikheofbgaa
open Go.RowKit

set_option maxRecDepth 100000 in
set_option maxHeartbeats 3200000 in
theorem FnBytesBitsJoin_walk (A : Option Addr) (n c : Nat) (D : Option Addr) (m d : Nat) (w : World) (h : BRow w w.heap.size A n c) (_ : BRow w w.heap.size D m d) : Calls Try.prog 9 #[.slice A n c, .slice D m d] w (PTrue w) := by
  by_cases hn : 1048576 < n
  · go_enter Try.func9, Try.ntmps9
    go_wp2
    go_ret
    exact ⟨rfl, Below.refl _ _⟩
  by_cases hm : 1048576 < m
  · go_enter Try.func9, Try.ntmps9
    go_wp2
    go_ret
    exact ⟨rfl, Below.refl _ _⟩
  go_enter Try.func9, Try.ntmps9
  go_wp2_with fail
  refine (DrawBytesBits_s_c A n c _ w h (Nat.le_refl _)).mono ?_
  rintro _ w1 ⟨A1, n1, c1, xs, rfl, O1, hn1, b1⟩
  have s1 := b1.size
  obtain ⟨⟨r, ok⟩, hR⟩ : ∃ r, r = byF xs := ⟨_, rfl⟩
  have k1 := BytesBits_c A1 n1 c1 _ xs w1 O1.row (Nat.le_refl _)
  rw [← hR] at k1
  have HR := hid hR
  clear hR
  have hrr : (r == r) = true := beq_self_eq_true _
  go_wp2_with fail
  refine k1.mono ?_
  rintro _ w2 ⟨A2, c2, rfl, O2, b2⟩
  clear k1
  have s2 := b2.size
  have k2 := BytesBits_s_c A1 n1 c1 _ xs w2 (O1.row.below b2) s2
  rw [← HR.out] at k2
  go_wp2_with fail
  refine k2.mono ?_
  rintro _ w3 ⟨A3, c3, rfl, O3, b3⟩
  clear k2
  have s3 := b3.size
  have b13 := b1.trans ((b2.trans (b3.mono s2)).mono s1)
  cases ok with
  | false =>
    go_wp2_with fail
    refine (sameInts_c _ _ _ _ _ _ _ _ _ _ w3 (O2.row.below b3) O3.row s3 (Nat.le_refl _)).mono ?_
    rintro _ w4 ⟨rfl, b4⟩
    have s4 := b4.size
    go_wp2_with fail
    first
      | (refine (sameInts_c _ _ _ _ _ _ _ _ _ _ w4 ((O2.row.below b3).below (b4.mono s3)) (O3.row.below b4) (Nat.le_trans s3 s4) s4).mono ?_
         rintro _ w5 ⟨rfl, b5⟩
         have hfin := (b13.trans (b4.mono (by omega))).trans (b5.mono (by omega))
         go_wp2
         go_ret
         exact ⟨rfl, hfin⟩)
      | (go_wp2
         go_ret
         exact ⟨rfl, b13.trans (b4.mono (by omega))⟩)
  | true =>
    have hok : everyB 0 255 xs = true ∧ 8 * xs.length ≤ 600 := by
      refine Classical.byContradiction fun hno => ?_
      have := HR.out
      rw [byF_no hno] at this
      cases this
    obtain rfl : r = flatL xs := by have := HR.out; rw [byF_yes hok.1 hok.2] at this; exact (Prod.mk.inj this).1
    have hlx := O1.len
    have hcaps := O1.caps
    have hcm := hcaps.2
    unfold maxLen at hcm
    obtain ⟨k, hkE, hk⟩ := mod_at m n1
    have hkn : (k : Int) ≤ (n1 : Int) := by omega
    have hkc : (k : Int) ≤ (c1 : Int) := by omega
    have HL := hid (show (flatL xs).length = 8 * n1 by rw [flatL_len, hlx])
    have HX := hid (byF_yes (xs := xs.take k) (everyB_take hok.1 k) (by rw [List.length_take]; omega))
    have HY := hid (byF_yes (xs := xs.drop k) (everyB_drop hok.1 k) (by rw [List.length_drop]; omega))
    have HXL := hid (show (flatL (xs.take k)).length = 8 * k by rw [flatL_len, List.length_take, hlx, Nat.min_eq_left (by omega)])
    have HYL := hid (show (flatL (xs.drop k)).length = 8 * (n1 - k) by rw [flatL_len, List.length_drop, hlx])
    have HXY := hid (show flatL (xs.take k) ++ flatL (xs.drop k) = flatL xs by rw [← flatL_append, List.take_append_drop])
    have hn75 : n1 ≤ 75 := by have := hok.2; omega
    clear hok hlx
    go_wp2_with fail
    refine (sameInts_c _ _ _ _ _ _ _ _ _ _ w3 (O2.row.below b3) O3.row s3 (Nat.le_refl _)).mono ?_
    rintro _ w4 ⟨rfl, b4⟩
    have s4 := b4.size
    have O4 := (O1.below b2 (Nat.le_refl _)).below (b3.trans (b4.mono s3)) (Nat.le_refl _)
    have R4 := (O2.row.below b3).below (b4.mono s3)
    have b14 := b13.trans (b4.mono (by omega))
    obtain ⟨E, hE, hrE⟩ := O4.row.suf_at (k := k) hk
    have k5 := BytesBits_c A1 k c1 _ (xs.take k) w4 (O4.row.pre hk) (Nat.le_refl _)
    rw [HX.out] at k5
    go_wp2_with fail
    refine k5.mono ?_
    rintro _ w5 ⟨A5, c5, rfl, O5, b5⟩
    clear k5
    have s5 := b5.size
    have k6 := BytesBits_c E (n1 - k) (c1 - k) _ (xs.drop k) w5 (hrE.below b5) s5
    rw [HY.out] at k6
    go_wp2_with fail
    refine k6.mono ?_
    rintro _ w6 ⟨A6, c6, rfl, O6, b6⟩
    clear k6
    have s6 := b6.size
    simp only [] at O5 O6
    rw [HXL.out] at O5
    rw [HYL.out] at O6
    have O5' := O5.below b6 (Nat.le_refl _)
    have b46 := b5.trans (b6.mono s5)
    have b16 := b14.trans (b46.mono (by omega))
    have hlit : Own (w6.alloc (.cells #[] 3)) w6.heap.size (some ⟨w6.heap.size, 0, none⟩) 0 0 [] := Own.lit w6 [] rfl (by omega) (Nat.le_refl _)
    have bl : Below w6.heap.size w6 (w6.alloc (.cells #[] 3)) := (Below.refl _ _).alloc (Nat.le_refl _) _
    simp only [HXL.out, HYL.out]
    go_wp2_with (first | (at_builtin; refine wpList_join_w (by rfl) _ _ rfl rfl hlit rfl (O5'.row.below bl) (by omega) (by simp) ?_; intro A7 c7 w7 O7 g7 b7; rw [Nat.zero_add, List.nil_append] at O7; rw [Nat.zero_add]; have b67 := bl.trans b7) | (at_builtin; refine wpList_join_w (by rfl) _ _ rfl rfl O7 rfl (O6.row.below b67) (by omega) b67.size ?_; intro A8 c8 w8 O8 g8 b8; rw [HXY.out] at O8; have b68 := b67.trans b8))
    have s8 := b68.size
    have b48 := b46.trans (b68.mono (by omega))
    refine (sameInts_c _ _ _ _ _ _ _ _ _ _ w8 O8.row (R4.below (b48.mono (by omega))) (Nat.le_refl _) (by omega)).mono ?_
    rintro _ w9 ⟨rfl, b9⟩
    have hfin := (b16.trans (b68.mono (by omega))).trans (b9.mono (by omega))
    go_wp2
    go_ret
    exact ⟨rfl, hfin⟩
end Go.Proofs.Ytfpieikheofbgaa
