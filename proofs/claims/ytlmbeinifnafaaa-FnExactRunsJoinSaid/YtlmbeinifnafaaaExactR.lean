/- The walks of the exact laws on runs. No condition. -/
import Derived.Test.YtlmbeinifnafaaaRuns2
import Derived.Test.YtlmbeinifnafaaaRuns3
import Derived.Test.YtlmbeinifnafaaaRunsJ
import Derived.Test.YtlmbeinifnafaaaRunsT
import Derived.Test.YtlmbeinifnafaaaMark
namespace Go.Proofs.Ytlmbeinifnafaaa
open Go.RowKit

set_option maxHeartbeats 3200000 in
theorem FnExactRunsOf_walk (A : Option Addr) (n c : Nat) (xs : List Int) (w : World) (h : n ≤ 1048576 → Row w w.heap.size A n c xs) : Calls Try.prog 8 #[.slice A n c] w (PTrue w) := by
  by_cases hn : n ≤ 1048576
  case neg =>
    go_enter Try.func8, Try.ntmps8
    go_wp2
    go_ret
    exact ⟨rfl, Below.refl _ _⟩
  have hr := h hn
  clear h
  obtain ⟨r, hR⟩ : ∃ r, r = runsF xs := ⟨_, rfl⟩
  have HR := hid hR
  clear hR
  have hLL : (r == r) = true := beq_self_eq_true _
  have hXX : (xs == xs) = true := beq_self_eq_true _
  go_enter Try.func8, Try.ntmps8
  go_wp2_with fail
  refine (toIntS_c A n c _ xs w hr (Nat.le_refl _)).mono ?_
  rintro e w1 ⟨A1, c1, rfl, O1, b1⟩
  have q1 := O1.len
  have z1 := b1.size
  have hl : xs.length = n := hr.len
  rw [hl] at O1 
  have HL := hid hl
  clear hl q1
  rw [HL.out]
  have hf := RunsOf_s_c A1 n c1 _ xs w1 O1.row (Nat.le_refl _)
  rw [← HR.out] at hf
  go_wp2_with fail
  refine hf.mono ?_
  rintro e w2 ⟨A2, c2, rfl, O2, b2⟩
  clear hf
  have z2 := b2.size
  have hb2 := b1.trans (b2.mono z1)
  have W2 := O2.row
  go_wp2_with fail
  refine (toIntS_c A n c _ xs w2 (hr.below hb2) (by omega)).mono ?_
  rintro e w3 ⟨A3, c3, rfl, O3, b3⟩
  have z3 := b3.size
  rw [HL.out] at O3
  rw [HL.out]
  have hf := RunsOf_c A3 n c3 _ xs w3 O3.row (Nat.le_refl _)
  rw [← HR.out] at hf
  go_wp2_with fail
  refine hf.mono ?_
  rintro e w4 ⟨A4, c4, rfl, O4, b4⟩
  clear hf
  have z4 := b4.size
  have b24 := b3.trans (b4.mono z3)
  go_wp2_with fail
  refine (eqRunS_c _ _ _ _ _ _ _ _ _ _ w4 O4.row (W2.below b24) (Nat.le_refl _) (by omega)).mono ?_
  rintro e w5 ⟨rfl, b5⟩
  have z5 := b5.size
  have b25 := b24.trans (b5.mono (by omega))
  have b35 := b4.trans (b5.mono (by omega))
  go_wp2_with fail
  refine (toIntS_c A n c _ xs w5 (hr.below (hb2.trans (b25.mono (by omega)))) (by omega)).mono ?_
  rintro e w6 ⟨A6, c6, rfl, O6, b6⟩
  have z6 := b6.size
  rw [HL.out] at O6
  rw [HL.out]
  have b26 := b25.trans (b6.mono (by omega))
  have b36 := b35.trans (b6.mono (by omega))
  have b46 := b5.trans (b6.mono (by omega))
  go_wp2_with fail
  refine (eqIntS_c _ _ _ _ _ _ _ _ _ _ w6 (O3.row.below b36) O6.row (by omega) (Nat.le_refl _)).mono ?_
  rintro e w7 ⟨rfl, b7⟩
  have z7 := b7.size
  have b27 := b26.trans (b7.mono (by omega))
  have b37 := b36.trans (b7.mono (by omega))
  have b47 := b46.trans (b7.mono (by omega))
  go_wp2_with fail
  refine (markIntS_c _ _ _ _ _ w7 (O3.below b37 (Nat.le_refl _)) (by omega)).mono ?_
  rintro e w8 ⟨rfl, O8, g8, b8⟩
  have z8 := b8.size
  have G8 := (O4.below b47 (Nat.le_refl _)).apart g8 O3.rowUnder
  have b28 := b27.trans b8
  have hb8 := hb2.trans (b28.mono (by omega))
  go_wp2_with fail
  refine (eqRunS_c _ _ _ _ _ _ _ _ _ _ w8 G8.row (W2.below b28) (Nat.le_refl _) (by omega)).mono ?_
  rintro e w9 ⟨rfl, b9⟩
  have z9 := b9.size
  have b29 := b28.trans (b9.mono (by omega))
  go_wp2_with fail
  refine (markRunS_c _ _ _ _ _ w9 (G8.below b9 (Nat.le_refl _)) (by omega)).mono ?_
  rintro e w10 ⟨rfl, O10, g10, b10⟩
  have z10 := b10.size
  have b210 := b29.trans (b10.mono (by omega))
  go_wp2_with fail
  refine (heldRunS_c _ _ _ _ w10 O10.row).mono ?_
  rintro e w' ⟨rfl, rfl⟩
  go_wp2_with fail
  refine (toIntS_c A n c _ xs w10 (hr.below (hb2.trans (b210.mono (by omega)))) (by omega)).mono ?_
  rintro e w11 ⟨A11, c11, rfl, O11, b11⟩
  have z11 := b11.size
  rw [HL.out] at O11
  rw [HL.out]
  have b211 := b210.trans (b11.mono (by omega))
  have hf := RunsOf_c A11 n c11 _ xs w11 O11.row (Nat.le_refl _)
  rw [← HR.out] at hf
  go_wp2_with fail
  refine hf.mono ?_
  rintro e w12 ⟨A12, c12, rfl, O12, b12⟩
  clear hf
  have z12 := b12.size
  have b212 := b211.trans (b12.mono (by omega))
  have b1012 := b11.trans (b12.mono z11)
  go_wp2_with fail
  refine (eqRunS_c _ _ _ _ _ _ _ _ _ _ w12 O12.row (W2.below b212) (Nat.le_refl _) (by omega)).mono ?_
  rintro e w13 ⟨rfl, b13⟩
  have z13 := b13.size
  have b1013 := b1012.trans (b13.mono (by omega))
  go_wp2_with fail
  refine (heldRunS_c _ _ _ _ w13 (O10.below b1013 (Nat.le_refl _)).row).mono ?_
  rintro e w' ⟨rfl, rfl⟩
  have hfin := hb2.trans ((b212.trans (b13.mono (by omega))).mono (by omega : w.heap.size ≤ w2.heap.size))
  go_wp2
  go_ret
  exact ⟨rfl, hfin⟩

set_option maxHeartbeats 800000 in
theorem FnExactRunsLongest_walk (A : Option Addr) (n c : Nat) (xs : List Int) (w : World) (h : n ≤ 1048576 → Row w w.heap.size A n c xs) : Calls Try.prog 4 #[.slice A n c] w (PTrue w) := by
  by_cases hn : n ≤ 1048576
  case neg =>
    go_enter Try.func4, Try.ntmps4
    go_wp2
    go_ret
    exact ⟨rfl, Below.refl _ _⟩
  have hr := h hn
  clear h
  obtain ⟨r, hR⟩ : ∃ r, r = longF xs := ⟨_, rfl⟩
  have HR := hid hR
  clear hR
  have hXX : (xs == xs) = true := beq_self_eq_true _
  have hrr : (r != r) = false := by simp
  go_enter Try.func4, Try.ntmps4
  go_wp2_with fail
  refine (toIntS_c A n c _ xs w hr (Nat.le_refl _)).mono ?_
  rintro e w1 ⟨A1, c1, rfl, O1, b1⟩
  have z1 := b1.size
  have hl : xs.length = n := hr.len
  rw [hl] at O1
  have HL := hid hl
  clear hl
  rw [HL.out]
  have hf := RunsLongest_s_c A1 n c1 _ xs w1 O1.row (Nat.le_refl _)
  rw [← HR.out] at hf
  go_wp2_with fail
  refine hf.mono ?_
  rintro e w2 ⟨rfl, b2⟩
  clear hf
  have z2 := b2.size
  have hb2 := b1.trans (b2.mono z1)
  go_wp2_with fail
  refine (toIntS_c A n c _ xs w2 (hr.below hb2) (by omega)).mono ?_
  rintro e w3 ⟨A3, c3, rfl, O3, b3⟩
  have z3 := b3.size
  rw [HL.out] at O3
  rw [HL.out]
  have hf := RunsLongest_c A3 n c3 _ xs w3 O3.row (Nat.le_refl _)
  rw [← HR.out] at hf
  go_wp2_with fail
  refine hf.mono ?_
  rintro e w4 ⟨rfl, b4⟩
  clear hf
  have z4 := b4.size
  have b24 := b3.trans (b4.mono z3)
  have hb4 := hb2.trans (b24.mono (by omega))
  go_wp2_with fail
  refine (toIntS_c A n c _ xs w4 (hr.below hb4) (by omega)).mono ?_
  rintro e w5 ⟨A5, c5, rfl, O5, b5⟩
  have z5 := b5.size
  rw [HL.out] at O5
  rw [HL.out]
  go_wp2_with fail
  refine (eqIntS_c _ _ _ _ _ _ _ _ _ _ w5 ((O3.row.below b4).below (b5.mono z4)) O5.row (by omega) (Nat.le_refl _)).mono ?_
  rintro e w6 ⟨rfl, b6⟩
  have hfin := (hb4.trans (b5.mono (by omega))).trans (b6.mono (by omega))
  go_wp2
  go_ret
  exact ⟨rfl, hfin⟩

set_option maxHeartbeats 3200000 in
theorem FnExactRunsJoin_walk (A : Option Addr) (n c : Nat) (xs : List (Int × Int)) (w : World) (hm : n ≤ 9223372036854775807) (h : n ≤ 1048576 → RowR w w.heap.size A n c xs) : Calls Try.prog 5 #[.slice A n c] w (PTrue w) := by
  by_cases hn : n ≤ 1048576
  case neg =>
    go_enter Try.func5, Try.ntmps5
    go_wp2_with fail
    have hz := szRunS_c A n c 1048576 w hm (by omega)
    rw [if_pos (by omega)] at hz
    refine hz.mono ?_
    rintro _ w' ⟨rfl, rfl⟩
    clear hz
    go_wp2
    go_ret
    exact ⟨rfl, Below.refl _ _⟩
  have hr := h hn
  clear h
  obtain ⟨r, hR⟩ : ∃ r, r = rjF xs := ⟨_, rfl⟩
  have HR := hid hR
  clear hR
  have hLL : (r.1 == r.1) = true := beq_self_eq_true _
  have hXX : (xs == xs) = true := beq_self_eq_true _
  have hbb : (r.2 != r.2) = false := by simp
  go_enter Try.func5, Try.ntmps5
  go_wp2_with fail
  have hz := szRunS_c A n c 1048576 w hm (by omega)
  rw [if_neg (by omega)] at hz
  refine hz.mono ?_
  rintro _ w' ⟨rfl, rfl⟩
  clear hz
  have hpos : ¬ 1048576 - (n : Int) < 0 := by omega
  go_wp2_with fail
  refine (toRunS_c A n c _ xs w hr (Nat.le_refl _)).mono ?_
  rintro e w1 ⟨A1, c1, rfl, O1, b1⟩
  have q1 := O1.len
  have z1 := b1.size
  have hl : xs.length = n := hr.len
  rw [hl] at O1 
  have HL := hid hl
  clear hl q1
  rw [HL.out]
  have hf := RunsJoin_s_c A1 n c1 _ xs w1 O1.row (Nat.le_refl _)
  rw [← HR.out] at hf
  go_wp2_with fail
  refine hf.mono ?_
  rintro e w2 ⟨A2, c2, rfl, O2, b2⟩
  clear hf
  have z2 := b2.size
  have hb2 := b1.trans (b2.mono z1)
  have W2 := O2.row
  go_wp2_with fail
  refine (toRunS_c A n c _ xs w2 (hr.below hb2) (by omega)).mono ?_
  rintro e w3 ⟨A3, c3, rfl, O3, b3⟩
  have z3 := b3.size
  rw [HL.out] at O3
  rw [HL.out]
  have hf := RunsJoin_c A3 n c3 _ xs w3 O3.row (Nat.le_refl _)
  rw [← HR.out] at hf
  go_wp2_with fail
  refine hf.mono ?_
  rintro e w4 ⟨A4, c4, rfl, O4, b4⟩
  clear hf
  have z4 := b4.size
  have b24 := b3.trans (b4.mono z3)
  go_wp2_with fail
  refine (eqIntS_c _ _ _ _ _ _ _ _ _ _ w4 O4.row (W2.below b24) (Nat.le_refl _) (by omega)).mono ?_
  rintro e w5 ⟨rfl, b5⟩
  have z5 := b5.size
  have b25 := b24.trans (b5.mono (by omega))
  have b35 := b4.trans (b5.mono (by omega))
  go_wp2_with fail
  refine (toRunS_c A n c _ xs w5 (hr.below (hb2.trans (b25.mono (by omega)))) (by omega)).mono ?_
  rintro e w6 ⟨A6, c6, rfl, O6, b6⟩
  have z6 := b6.size
  rw [HL.out] at O6
  rw [HL.out]
  have b26 := b25.trans (b6.mono (by omega))
  have b36 := b35.trans (b6.mono (by omega))
  have b46 := b5.trans (b6.mono (by omega))
  go_wp2_with fail
  refine (eqRunS_c _ _ _ _ _ _ _ _ _ _ w6 (O3.row.below b36) O6.row (by omega) (Nat.le_refl _)).mono ?_
  rintro e w7 ⟨rfl, b7⟩
  have z7 := b7.size
  have b27 := b26.trans (b7.mono (by omega))
  have b37 := b36.trans (b7.mono (by omega))
  have b47 := b46.trans (b7.mono (by omega))
  go_wp2_with fail
  refine (markRunS_c _ _ _ _ _ w7 (O3.below b37 (Nat.le_refl _)) (by omega)).mono ?_
  rintro e w8 ⟨rfl, O8, g8, b8⟩
  have z8 := b8.size
  have G8 := (O4.below b47 (Nat.le_refl _)).apartR g8 O3.rowUnder
  have b28 := b27.trans b8
  have hb8 := hb2.trans (b28.mono (by omega))
  go_wp2_with fail
  refine (eqIntS_c _ _ _ _ _ _ _ _ _ _ w8 G8.row (W2.below b28) (Nat.le_refl _) (by omega)).mono ?_
  rintro e w9 ⟨rfl, b9⟩
  have z9 := b9.size
  have b29 := b28.trans (b9.mono (by omega))
  go_wp2_with fail
  refine (markIntS_c _ _ _ _ _ w9 (G8.below b9 (Nat.le_refl _)) (by omega)).mono ?_
  rintro e w10 ⟨rfl, O10, g10, b10⟩
  have z10 := b10.size
  have b210 := b29.trans (b10.mono (by omega))
  go_wp2_with fail
  refine (heldIntS_c _ _ _ _ w10 O10.row).mono ?_
  rintro e w' ⟨rfl, rfl⟩
  go_wp2_with fail
  refine (toRunS_c A n c _ xs w10 (hr.below (hb2.trans (b210.mono (by omega)))) (by omega)).mono ?_
  rintro e w11 ⟨A11, c11, rfl, O11, b11⟩
  have z11 := b11.size
  rw [HL.out] at O11
  rw [HL.out]
  have b211 := b210.trans (b11.mono (by omega))
  have hf := RunsJoin_c A11 n c11 _ xs w11 O11.row (Nat.le_refl _)
  rw [← HR.out] at hf
  go_wp2_with fail
  refine hf.mono ?_
  rintro e w12 ⟨A12, c12, rfl, O12, b12⟩
  clear hf
  have z12 := b12.size
  have b212 := b211.trans (b12.mono (by omega))
  have b1012 := b11.trans (b12.mono z11)
  go_wp2_with fail
  refine (eqIntS_c _ _ _ _ _ _ _ _ _ _ w12 O12.row (W2.below b212) (Nat.le_refl _) (by omega)).mono ?_
  rintro e w13 ⟨rfl, b13⟩
  have z13 := b13.size
  have b1013 := b1012.trans (b13.mono (by omega))
  go_wp2_with fail
  refine (heldIntS_c _ _ _ _ w13 (O10.below b1013 (Nat.le_refl _)).row).mono ?_
  rintro e w' ⟨rfl, rfl⟩
  have hfin := hb2.trans ((b212.trans (b13.mono (by omega))).mono (by omega : w.heap.size ≤ w2.heap.size))
  go_wp2
  go_ret
  exact ⟨rfl, hfin⟩

end Go.Proofs.Ytlmbeinifnafaaa
