/- The walk of the law on joined runs. No condition. -/
import Derived.Test.YtlmbeinifnafaaaRuns2
import Derived.Test.YtlmbeinifnafaaaRunsJ
import Derived.Test.YtlmbeinifnafaaaBaseR
import Derived.Test.YtlmbeinifnafaaaDrawR
import Derived.IntWalk
namespace Go.Proofs.Ytlmbeinifnafaaa
open Go.RowKit
set_option linter.unusedVariables false

set_option maxRecDepth 100000 in
set_option maxHeartbeats 3200000 in
theorem FnRunsJoin_walk (A : Option Addr) (n c : Nat) (w : World) (h : BRow w w.heap.size A n c) : Calls Try.prog 3 #[.slice A n c] w (PTrue w) := by
  by_cases hn : 1048576 < n
  · go_enter Try.func3, Try.ntmps3
    go_wp2
    go_ret
    exact ⟨rfl, Below.refl _ _⟩
  go_enter Try.func3, Try.ntmps3
  go_wp2_with fail
  refine (DrawRunsJoin_s_c A n c _ w h (Nat.le_refl _)).mono ?_
  rintro _ w1 ⟨A1, n1, c1, rs, rfl, O1, hn1, b1⟩
  have s1 := b1.size
  obtain ⟨⟨r, ok⟩, hR⟩ : ∃ r, r = rjF rs := ⟨_, rfl⟩
  have k1 := RunsJoin_c A1 n1 c1 _ rs w1 O1.row (Nat.le_refl _)
  rw [← hR] at k1
  have HR := hid hR
  clear hR
  have hrr : (r == r) = true := beq_self_eq_true _
  have hss : (rs == rs) = true := beq_self_eq_true _
  go_wp2_with fail
  refine k1.mono ?_
  rintro _ w2 ⟨A2, c2, rfl, O2, b2⟩
  clear k1
  have s2 := b2.size
  have k2 := RunsJoin_s_c A1 n1 c1 _ rs w2 (O1.row.below b2) s2
  rw [← HR.out] at k2
  go_wp2_with fail
  refine k2.mono ?_
  rintro _ w3 ⟨A3, c3, rfl, O3, b3⟩
  clear k2
  have s3 := b3.size
  have b13 := b1.trans ((b2.trans (b3.mono s2)).mono s1)
  cases ok with
  | false =>
    go_wp2_with fail
    refine (sameInts_c _ _ _ _ _ _ _ _ _ _ w3 (O2.row.below b3) O3.row s3 (Nat.le_refl _)).mono ?_
    rintro _ w4 ⟨rfl, b4⟩
    have s4 := b4.size
    go_wp2_with fail
    first
      | (refine (sameInts_c _ _ _ _ _ _ _ _ _ _ w4 ((O2.row.below b3).below (b4.mono s3)) (O3.row.below b4) (Nat.le_trans s3 s4) s4).mono ?_
         rintro _ w5 ⟨rfl, b5⟩
         have hfin := (b13.trans (b4.mono (by omega))).trans (b5.mono (by omega))
         go_wp2
         go_ret
         exact ⟨rfl, hfin⟩)
      | (go_wp2
         go_ret
         exact ⟨rfl, b13.trans (b4.mono (by omega))⟩)
  | true =>
    obtain ⟨hv, hrun⟩ := rjF_ok HR.out.symm
    have HRU := hid hrun
    have HL1 := hid O1.len
    clear hrun
    simp only [] at O2 O3
    go_wp2_with fail
    refine (sameInts_c _ _ _ _ _ _ _ _ _ _ w3 (O2.row.below b3) O3.row s3 (Nat.le_refl _)).mono ?_
    rintro _ w4 ⟨rfl, b4⟩
    have s4 := b4.size
    have O4 := (O1.below b2 (Nat.le_refl _)).below (b3.trans (b4.mono s3)) (Nat.le_refl _)
    have R4 := (O2.below b3 (Nat.le_refl _)).below b4 (Nat.le_refl _)
    have b14 := b13.trans (b4.mono (by omega))
    have k5 := RunsOf_c A2 r.length c2 _ r w4 R4.row (Nat.le_refl _)
    rw [HRU.out] at k5
    go_wp2_with fail
    refine k5.mono ?_
    rintro _ w5 ⟨A5, c5, rfl, O5, b5⟩
    clear k5
    have s5 := b5.size
    rw [HL1.out] at O5
    rw [HL1.out]
    go_wp2_with fail
    refine (sameRuns_c _ _ _ _ _ _ _ _ _ _ w5 O5.row (O4.row.below b5) (Nat.le_refl _) s5).mono ?_
    rintro _ w6 ⟨rfl, b6⟩
    have s6 := b6.size
    have R6 := (R4.below b5 (Nat.le_refl _)).below b6 (Nat.le_refl _)
    have hfin := b14.trans ((b5.trans (b6.mono s5)).mono (by omega : w.heap.size ≤ w4.heap.size))
    go_wp2_with fail
    refine (ListValid_c _ _ _ _ _ w6 R6.row).mono ?_
    rintro _ w' ⟨rfl, rfl⟩
    go_wp2
    go_ret
    exact ⟨rfl, hfin⟩
end Go.Proofs.Ytlmbeinifnafaaa
