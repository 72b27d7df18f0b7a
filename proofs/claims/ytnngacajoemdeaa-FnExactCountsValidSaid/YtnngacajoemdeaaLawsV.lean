/- The walks of the laws on validity. No condition. -/
import Derived.Test.YtnngacajoemdeaaCounts
namespace Go.Proofs.Ytnngacajoemdeaa
open Go.RowKit

set_option maxHeartbeats 800000 in
theorem FnExactCountsValid_walk (A : Option Addr) (n c : Nat) (xs : List Int) (w : World) (h : n ≤ 1048576 → Row w w.heap.size A n c xs) : Calls Try.prog 4 #[.slice A n c] w (PTrue w) := by
  by_cases hn : n ≤ 1048576
  · have hr := h hn
    go_enter Try.func4, Try.ntmps4
    go_wp2_with fail
    refine (toIntS_c A n c _ xs w hr (Nat.le_refl _)).mono ?_
    rintro e w1 ⟨A1, c1, rfl, hown1, hb1⟩
    go_wp2_with fail
    refine (CountsValid_s_c _ _ _ _ _ _ hown1.row).mono ?_
    rintro e w' ⟨rfl, rfl⟩
    go_wp2_with fail
    refine (toIntS_c A n c _ xs w1 (hr.below hb1) hb1.size).mono ?_
    rintro e w2 ⟨A2, c2, rfl, hown2, hb2⟩
    go_wp2_with fail
    refine (CountsValid_c _ _ _ _ _ _ hown2.row).mono ?_
    rintro e w' ⟨rfl, rfl⟩
    go_wp2_with fail
    refine (toIntS_c A n c _ xs w2 ((hr.below hb1).below (hb2.mono hb1.size)) (Nat.le_trans hb1.size hb2.size)).mono ?_
    rintro e w3 ⟨A3, c3, rfl, hown3, hb3⟩
    go_wp2_with fail
    refine (eqIntS_c _ _ _ _ _ _ _ _ _ _ _ (hown2.row.below hb3) hown3.row hb3.size (Nat.le_refl _)).mono ?_
    rintro e w4 ⟨rfl, hb4⟩
    have hbb : Below w.heap.size w w4 := ((hb1.trans (hb2.mono hb1.size)).trans (hb3.mono (Nat.le_trans hb1.size hb2.size))).trans (hb4.mono (Nat.le_trans (Nat.le_trans hb1.size hb2.size) hb3.size))
    have hxx : (xs == xs) = true := beq_self_eq_true xs
    go_wp2
    go_ret
    exact ⟨rfl, hbb⟩
  · go_enter Try.func4, Try.ntmps4
    go_wp2
    go_ret
    exact ⟨rfl, Below.refl _ _⟩
set_option maxHeartbeats 800000 in
theorem FnExactListValid_walk (A : Option Addr) (n c : Nat) (xs : List Int) (w : World) (h : n ≤ 1048576 → Row w w.heap.size A n c xs) : Calls Try.prog 5 #[.slice A n c] w (PTrue w) := by
  by_cases hn : n ≤ 1048576
  · have hr := h hn
    go_enter Try.func5, Try.ntmps5
    go_wp2_with fail
    refine (toIntS_c A n c _ xs w hr (Nat.le_refl _)).mono ?_
    rintro e w1 ⟨A1, c1, rfl, hown1, hb1⟩
    go_wp2_with fail
    refine (ListValid_s_c _ _ _ _ _ _ hown1.row).mono ?_
    rintro e w' ⟨rfl, rfl⟩
    go_wp2_with fail
    refine (toIntS_c A n c _ xs w1 (hr.below hb1) hb1.size).mono ?_
    rintro e w2 ⟨A2, c2, rfl, hown2, hb2⟩
    go_wp2_with fail
    refine (ListValid_c _ _ _ _ _ _ hown2.row).mono ?_
    rintro e w' ⟨rfl, rfl⟩
    go_wp2_with fail
    refine (toIntS_c A n c _ xs w2 ((hr.below hb1).below (hb2.mono hb1.size)) (Nat.le_trans hb1.size hb2.size)).mono ?_
    rintro e w3 ⟨A3, c3, rfl, hown3, hb3⟩
    go_wp2_with fail
    refine (eqIntS_c _ _ _ _ _ _ _ _ _ _ _ (hown2.row.below hb3) hown3.row hb3.size (Nat.le_refl _)).mono ?_
    rintro e w4 ⟨rfl, hb4⟩
    have hbb : Below w.heap.size w w4 := ((hb1.trans (hb2.mono hb1.size)).trans (hb3.mono (Nat.le_trans hb1.size hb2.size))).trans (hb4.mono (Nat.le_trans (Nat.le_trans hb1.size hb2.size) hb3.size))
    have hxx : (xs == xs) = true := beq_self_eq_true xs
    go_wp2
    go_ret
    exact ⟨rfl, hbb⟩
  · go_enter Try.func5, Try.ntmps5
    go_wp2
    go_ret
    exact ⟨rfl, Below.refl _ _⟩
end Go.Proofs.Ytnngacajoemdeaa
