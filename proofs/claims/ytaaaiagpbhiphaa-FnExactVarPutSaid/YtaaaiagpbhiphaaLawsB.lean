/- The walks of the laws on ZigZag, ZagZig and on the lengths of VarPut. No condition. -/
import Derived.Test.YtaaaiagpbhiphaaVar
import Derived.Test.YtaaaiagpbhiphaaMark
namespace Go.Proofs.Ytaaaiagpbhiphaa
open Go.RowKit

theorem FnExactZagZig_walk (n : Int) (w : World) : Calls Try.prog 3 #[.int .i64 n] w (PTrue w) := by
  go_enter Try.func3, Try.ntmps3
  go_wp2_with fail
  refine (ZagZig_s_c n w).mono ?_
  rintro e w' ⟨rfl, rfl⟩
  go_wp2_with fail
  refine (ZagZig_c n w).mono ?_
  rintro e w' ⟨rfl, rfl⟩
  go_wp2
  go_ret
  exact ⟨rfl, Below.refl _ _⟩

theorem FnExactZigZag_walk (n : Int) (w : World) : Calls Try.prog 4 #[.int .i64 n] w (PTrue w) := by
  go_enter Try.func4, Try.ntmps4
  go_wp2_with fail
  refine (ZigZag_s_c n w).mono ?_
  rintro e w' ⟨rfl, rfl⟩
  go_wp2_with fail
  refine (ZigZag_c n w).mono ?_
  rintro e w' ⟨rfl, rfl⟩
  go_wp2
  go_ret
  exact ⟨rfl, Below.refl _ _⟩

set_option maxHeartbeats 3200000 in
theorem FnZigZag_walk (A : Option Addr) (n c : Nat) (w : World) (h : BRow w w.heap.size A n c) : Calls Try.prog 7 #[.slice A n c] w (PTrue w) := by
  by_cases hn : 1048576 < n
  · go_enter Try.func7, Try.ntmps7
    go_wp2
    go_ret
    exact ⟨rfl, Below.refl _ _⟩
  go_enter Try.func7, Try.ntmps7
  go_wp2_with fail
  refine (DrawZigZag_s_c A n c _ w h (Nat.le_refl _)).mono ?_
  rintro e w1 ⟨x, rfl, hx0, hx1, hb1⟩
  have hs1 := hb1.size
  by_cases hr : -1048576 ≤ x ∧ x ≤ 1048575
  case neg =>
    have hZ : zzF x = -1 := by rw [zzF, if_neg hr]
    have c1 := ZigZag_c x w1
    have c2 := ZigZag_s_c x w1
    rw [hZ] at c1 c2
    clear hZ
    go_wp2_with fail
    refine c1.mono ?_
    rintro e w' ⟨rfl, rfl⟩
    go_wp2_with fail
    refine c2.mono ?_
    rintro e w' ⟨rfl, rfl⟩
    clear c1 c2
    go_wp2
    go_ret
    exact ⟨rfl, hb1⟩
  obtain ⟨r0, r1⟩ := hr
  by_cases hn : x < 0
  · have hZ : zzF x = -2 * x - 1 := by rw [zzF, if_pos ⟨r0, r1⟩, if_pos hn]
    have c1 := ZigZag_c x w1
    have c2 := ZigZag_s_c x w1
    rw [hZ] at c1 c2
    clear hZ
    go_wp2_with fail
    refine c1.mono ?_
    rintro e w' ⟨rfl, rfl⟩
    go_wp2_with fail
    refine c2.mono ?_
    rintro e w' ⟨rfl, rfl⟩
    clear c1 c2
    have hG : zgF (-2 * x - 1) = x := by rw [zgF, if_pos (by omega), if_pos (by omega)]; omega
    have c3 := ZagZig_c (-2 * x - 1) w1
    rw [hG] at c3
    clear hG
    have hm : ((-2 * x - 1) % 2 == 1) = true := by rw [beq_iff_eq]; omega
    have hxx : (x == x) = true := beq_self_eq_true x
    go_wp2_with fail
    refine c3.mono ?_
    rintro e w' ⟨rfl, rfl⟩
    clear c3
    go_wp2
    go_ret
    exact ⟨rfl, hb1⟩
  · have hZ : zzF x = 2 * x := by rw [zzF, if_pos ⟨r0, r1⟩, if_neg hn]
    have c1 := ZigZag_c x w1
    have c2 := ZigZag_s_c x w1
    rw [hZ] at c1 c2
    clear hZ
    go_wp2_with fail
    refine c1.mono ?_
    rintro e w' ⟨rfl, rfl⟩
    go_wp2_with fail
    refine c2.mono ?_
    rintro e w' ⟨rfl, rfl⟩
    clear c1 c2
    have hG : zgF (2 * x) = x := by rw [zgF, if_pos (by omega), if_neg (by omega)]; omega
    have c3 := ZagZig_c (2 * x) w1
    rw [hG] at c3
    clear hG
    have hm : (2 * x % 2 == 1) = false := by rw [beq_eq_false_iff_ne]; omega
    have hnd : decide (x < 0) = false := by simp; omega
    have hxx : (x == x) = true := beq_self_eq_true x
    go_wp2_with fail
    refine c3.mono ?_
    rintro e w' ⟨rfl, rfl⟩
    clear c3
    go_wp2
    go_ret
    exact ⟨rfl, hb1⟩

set_option maxHeartbeats 3200000 in
theorem FnZigZagNear_walk (A : Option Addr) (n c : Nat) (w : World) (h : BRow w w.heap.size A n c) : Calls Try.prog 5 #[.slice A n c] w (PTrue w) := by
  by_cases hn : 1048576 < n
  · go_enter Try.func5, Try.ntmps5
    go_wp2
    go_ret
    exact ⟨rfl, Below.refl _ _⟩
  go_enter Try.func5, Try.ntmps5
  go_wp2_with fail
  refine (DrawZigZag_s_c A n c _ w h (Nat.le_refl _)).mono ?_
  rintro e w1 ⟨x, rfl, hx0, hx1, hb1⟩
  have hs1 := hb1.size
  by_cases hr : -1048576 ≤ x ∧ x ≤ 1048575
  case neg =>
    have hZ : zzF x = -1 := by rw [zzF, if_neg hr]
    have c1 := ZigZag_c x w1
    have c2 := ZigZag_s_c x w1
    rw [hZ] at c1 c2
    clear hZ
    go_wp2_with fail
    refine c1.mono ?_
    rintro e w' ⟨rfl, rfl⟩
    go_wp2_with fail
    refine c2.mono ?_
    rintro e w' ⟨rfl, rfl⟩
    clear c1 c2
    go_wp2
    go_ret
    exact ⟨rfl, hb1⟩
  obtain ⟨r0, r1⟩ := hr
  by_cases hn : x < 0
  · have hZ : zzF x = -2 * x - 1 := by rw [zzF, if_pos ⟨r0, r1⟩, if_pos hn]
    have c1 := ZigZag_c x w1
    have c2 := ZigZag_s_c x w1
    rw [hZ] at c1 c2
    clear hZ
    go_wp2_with fail
    refine c1.mono ?_
    rintro e w' ⟨rfl, rfl⟩
    go_wp2_with fail
    refine c2.mono ?_
    rintro e w' ⟨rfl, rfl⟩
    clear c1 c2
    have hmx : x ≤ 0 - x := by omega
    go_wp2
    go_ret
    exact ⟨by show Ending.returned (.bool (decide (2 * -x ≤ -2 * x))) = _; rw [decide_eq_true (by omega)], hb1⟩
  · have hZ : zzF x = 2 * x := by rw [zzF, if_pos ⟨r0, r1⟩, if_neg hn]
    have c1 := ZigZag_c x w1
    have c2 := ZigZag_s_c x w1
    rw [hZ] at c1 c2
    clear hZ
    go_wp2_with fail
    refine c1.mono ?_
    rintro e w' ⟨rfl, rfl⟩
    go_wp2_with fail
    refine c2.mono ?_
    rintro e w' ⟨rfl, rfl⟩
    clear c1 c2
    have hmx : 0 - x ≤ x := by omega
    go_wp2
    go_ret
    exact ⟨by show Ending.returned (.bool (decide (2 * x - 1 ≤ 2 * x))) = _; rw [decide_eq_true (by omega)], hb1⟩

set_option maxHeartbeats 3200000 in
theorem FnZagZig_walk (A : Option Addr) (n c : Nat) (w : World) (h : BRow w w.heap.size A n c) : Calls Try.prog 8 #[.slice A n c] w (PTrue w) := by
  by_cases hn : 1048576 < n
  · go_enter Try.func8, Try.ntmps8
    go_wp2
    go_ret
    exact ⟨rfl, Below.refl _ _⟩
  go_enter Try.func8, Try.ntmps8
  go_wp2_with fail
  refine (DrawZagZig_s_c A n c _ w h (Nat.le_refl _)).mono ?_
  rintro e w1 ⟨x, rfl, hx0, hx1, hb1⟩
  have hs1 := hb1.size
  have c1 := ZagZig_c x w1
  have c2 := ZagZig_s_c x w1
  by_cases hr : 0 ≤ x ∧ x ≤ 2097151
  case neg =>
    have hZ : zgF x = 0 := by rw [zgF, if_neg hr]
    rw [hZ] at c1 c2
    clear hZ
    by_cases hn : x < 0
    · go_wp2_with fail
      refine c1.mono ?_
      rintro e w' ⟨rfl, rfl⟩
      go_wp2_with fail
      refine c2.mono ?_
      rintro e w' ⟨rfl, rfl⟩
      clear c1 c2
      go_wp2
      go_ret
      exact ⟨rfl, hb1⟩
    · have hbig : 2097151 < x := by omega
      go_wp2_with fail
      refine c1.mono ?_
      rintro e w' ⟨rfl, rfl⟩
      go_wp2_with fail
      refine c2.mono ?_
      rintro e w' ⟨rfl, rfl⟩
      clear c1 c2
      go_wp2
      go_ret
      exact ⟨rfl, hb1⟩
  obtain ⟨r0, r1⟩ := hr
  obtain ⟨y, hy⟩ : ∃ y, zgF x = y := ⟨_, rfl⟩
  have hz : zzF y = x := by
    rw [← hy, zgF, if_pos ⟨r0, r1⟩, zzF]
    by_cases h2 : x % 2 = 1
    · rw [if_pos h2, if_pos (by omega), if_pos (by omega)]; omega
    · rw [if_neg h2, if_pos (by omega), if_neg (by omega)]; omega
  rw [hy] at c1 c2
  have c3 := ZigZag_c y w1
  rw [hz] at c3
  clear hz hy
  go_wp2_with fail
  refine c1.mono ?_
  rintro e w' ⟨rfl, rfl⟩
  go_wp2_with fail
  refine c2.mono ?_
  rintro e w' ⟨rfl, rfl⟩
  clear c1 c2
  go_wp2_with fail
  refine c3.mono ?_
  rintro e w' ⟨rfl, rfl⟩
  clear c3
  go_wp2
  go_ret
  exact ⟨rfl, hb1⟩

set_option maxHeartbeats 3200000 in
theorem FnVarPutLength_walk (A : Option Addr) (n c : Nat) (w : World) (h : BRow w w.heap.size A n c) : Calls Try.prog 9 #[.slice A n c] w (PTrue w) := by
  by_cases hn : 1048576 < n
  · go_enter Try.func9, Try.ntmps9
    go_wp2
    go_ret
    exact ⟨rfl, Below.refl _ _⟩
  go_enter Try.func9, Try.ntmps9
  go_wp2_with fail
  refine (DrawVarPut_s_c A n c _ w h (Nat.le_refl _)).mono ?_
  rintro e w1 ⟨x, rfl, hx0, hx1, hb1⟩
  have hs1 := hb1.size
  by_cases hr : 0 ≤ x ∧ x ≤ 2097151
  case neg =>
    have e0 := varF_no hr
    have c1 := VarPut_c x w1
    rw [e0] at c1
    go_wp2_with fail
    refine c1.mono ?_
    rintro e w2 ⟨A2, c2, rfl, hown2, hb2⟩
    have hs2 := hb2.size
    have c2' := VarPut_s_c x w2
    rw [e0] at c2'
    go_wp2_with fail
    refine c2'.mono ?_
    rintro e w3 ⟨A3, c3, rfl, hown3, hb3⟩
    have hs3 := hb3.size
    clear c1 c2' e0
    go_wp2_with fail
    refine (sameInts_c _ _ _ _ _ _ _ _ _ _ w3 (hown2.row.below hb3) hown3.row hs3 (Nat.le_refl _)).mono ?_
    rintro e w4 ⟨rfl, hb4⟩
    have hs4 := hb4.size
    go_wp2_with fail
    refine (sameInts_c _ _ _ _ _ _ _ _ _ _ w4 ((hown2.row.below hb3).below (hb4.mono hs3)) (hown3.row.below hb4) (Nat.le_trans hs3 hs4) hs4).mono ?_
    rintro e w5 ⟨rfl, hb5⟩
    have hfin := ((((hb1.trans (hb2.mono hs1)).trans (hb3.mono (by omega))).trans (hb4.mono (by omega))).trans (hb5.mono (by omega)))
    go_wp2
    go_ret
    exact ⟨rfl, hfin⟩
  obtain ⟨r, hR⟩ : ∃ r, r = varF x := ⟨_, rfl⟩
  obtain ⟨L, hL⟩ : ∃ L, r.length = L := ⟨_, rfl⟩
  have hLL : 1 ≤ L ∧ L ≤ 3 := by have := varF_len hr; rw [← hR, hL] at this; omega
  have HR := hid hR
  have hrr : (r == r) = true := beq_self_eq_true _
  have hf1 := VarPut_c x w1
  rw [← hR] at hf1
  go_wp2_with fail
  refine hf1.mono ?_
  rintro e w2 ⟨A2, c2, rfl, hown2, hb2⟩
  have hs2 := hb2.size
  have hf2 := VarPut_s_c x w2
  rw [← hR] at hf2
  rw [hL] at hown2
  rw [hL]
  go_wp2_with fail
  refine hf2.mono ?_
  rintro e w3 ⟨A3, c3, rfl, hown3, hb3⟩
  rw [hL] at hown3
  rw [hL]
  have HL := hid hL
  have hs3 := hb3.size
  clear hf1 hf2 hR hL
  have hL0 : ((L : Int) == 0) = false := by simp; omega
  go_wp2_with fail
  refine (sameInts_c _ _ _ _ _ _ _ _ _ _ w3 (hown2.row.below hb3) hown3.row hs3 (Nat.le_refl _)).mono ?_
  rintro e w4 ⟨rfl, hb4⟩
  have hs4 := hb4.size
  have hown4 := (hown2.below hb3 (Nat.le_refl _)).below hb4 (Nat.le_refl _)
  have hrow3 := (hown3.row.below hb4)
  have hb14 := (((hb1.trans (hb2.mono hs1)).trans (hb3.mono (by omega))).trans (hb4.mono (by omega)))
  by_cases hmx : x = 2097151
  · subst hmx
    go_wp2_with fail
    refine (sameInts_c _ _ _ _ _ _ _ _ _ _ w4 hown4.row hrow3 (Nat.le_refl _) hs4).mono ?_
    rintro e w5 ⟨rfl, hb5⟩
    have hfin := hb14.trans (hb5.mono (by omega))
    go_wp2
    go_ret
    exact ⟨rfl, hfin⟩
  have hmb : (x == 2097151) = false := by simp [hmx]
  obtain ⟨r0, r1⟩ := hr
  have hlen2 : L ≤ (varF (x + 1)).length := by
    have a := varF_len (n := x) (by omega)
    have b := varF_len (n := x + 1) (by omega)
    rw [← HR.out, HL.out] at a
    omega
  have h3 : (varF (x + 1)).length ≤ 3 := by have b := varF_len (n := x + 1) (by omega); omega
  have hI : (L : Int) ≤ ((varF (x + 1)).length : Int) := by omega
  go_wp2_with fail
  refine (VarPut_c (x + 1) w4).mono ?_
  rintro e w5 ⟨A5, c5, rfl, hown5, hb5⟩
  have hfin := hb14.trans (hb5.mono (by omega))
  generalize (varF (x + 1)).length = L2 at *
  go_wp2
  go_ret
  exact ⟨rfl, hfin⟩

set_option maxHeartbeats 1600000 in
theorem FnExactVarPut_walk (n : Int) (w : World) : Calls Try.prog 6 #[.int .i64 n] w (PTrue w) := by
  obtain ⟨r, hR⟩ : ∃ r, r = varF n := ⟨_, rfl⟩
  have c2 := fun v => VarPut_s_c n v
  have c1 := fun v => VarPut_c n v
  rw [← hR] at c1 c2
  clear hR
  have C1 := hid c1
  have C2 := hid c2
  clear c1 c2
  have hrr : (r == r) = true := beq_self_eq_true _
  go_enter Try.func6, Try.ntmps6
  go_wp2_with fail
  refine (C2.out w).mono ?_
  rintro e w1 ⟨A1, d1, rfl, O1, b1⟩
  have z1 := b1.size
  go_wp2_with fail
  refine (C1.out w1).mono ?_
  rintro e w2 ⟨A2, d2, rfl, O2, b2⟩
  have z2 := b2.size
  have W1 := O1.row
  go_wp2_with fail
  refine (eqIntS_c _ _ _ _ _ _ _ _ _ _ w2 O2.row (W1.below b2) (Nat.le_refl _) (by omega)).mono ?_
  rintro e w3 ⟨rfl, b3⟩
  have z3 := b3.size
  go_wp2_with fail
  refine (markIntS_c _ _ _ _ _ w3 (O2.below b3 (Nat.le_refl _)) (by omega)).mono ?_
  rintro e w4 ⟨rfl, O4, g4, b4⟩
  have z4 := b4.size
  have b14 := (b2.trans (b3.mono z2)).trans b4
  go_wp2_with fail
  refine (heldIntS_c _ _ _ _ w4 O4.row).mono ?_
  rintro e w' ⟨rfl, rfl⟩
  go_wp2_with fail
  refine (C1.out w4).mono ?_
  rintro e w5 ⟨A5, d5, rfl, O5, b5⟩
  have z5 := b5.size
  have b15 := b14.trans (b5.mono (by omega))
  go_wp2_with fail
  refine (eqIntS_c _ _ _ _ _ _ _ _ _ _ w5 O5.row (W1.below b15) (Nat.le_refl _) (by omega)).mono ?_
  rintro e w6 ⟨rfl, b6⟩
  have z6 := b6.size
  have b46 := b5.trans (b6.mono z5)
  go_wp2_with fail
  refine (heldIntS_c _ _ _ _ w6 (O4.below b46 (Nat.le_refl _)).row).mono ?_
  rintro e w' ⟨rfl, rfl⟩
  have hfin := b1.trans ((b15.trans (b6.mono (by omega))).mono z1)
  go_wp2
  go_ret
  exact ⟨rfl, hfin⟩

end Go.Proofs.Ytaaaiagpbhiphaa
