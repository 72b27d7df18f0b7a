/- The walks of the laws on VarPut and VarGet. No condition. -/
import Derived.Test.YtaaaiagpbhiphaaVarGetL
import Derived.Test.YtaaaiagpbhiphaaDrawV
import Derived.Test.YtaaaiagpbhiphaaMark
import Derived.Deep.RegionWith
namespace Go.Proofs.Ytaaaiagpbhiphaa
open Go.RowKit

set_option maxHeartbeats 3200000 in
theorem FnVarPut_walk (A : Option Addr) (n c : Nat) (w : World) (h : BRow w w.heap.size A n c) : Calls Try.prog 10 #[.slice A n c] w (PTrue w) := by
  by_cases hn : 1048576 < n
  · go_enter Try.func10, Try.ntmps10
    go_wp2
    go_ret
    exact ⟨rfl, Below.refl _ _⟩
  go_enter Try.func10, Try.ntmps10
  go_wp2_with fail
  refine (DrawVarPut_s_c A n c _ w h (Nat.le_refl _)).mono ?_
  rintro e w1 ⟨x, rfl, hx0, hx1, hb1⟩
  have hs1 := hb1.size
  by_cases hr : 0 ≤ x ∧ x ≤ 2097151
  case neg =>
    have e0 := varF_no hr
    have c1 := VarPut_c x w1
    rw [e0] at c1
    go_wp2_with fail
    refine c1.mono ?_
    rintro e w2 ⟨A2, c2, rfl, hown2, hb2⟩
    have hs2 := hb2.size
    have c2' := VarPut_s_c x w2
    rw [e0] at c2'
    go_wp2_with fail
    refine c2'.mono ?_
    rintro e w3 ⟨A3, c3, rfl, hown3, hb3⟩
    have hs3 := hb3.size
    clear c1 c2' e0
    go_wp2_with fail
    refine (sameInts_c _ _ _ _ _ _ _ _ _ _ w3 (hown2.row.below hb3) hown3.row hs3 (Nat.le_refl _)).mono ?_
    rintro e w4 ⟨rfl, hb4⟩
    have hs4 := hb4.size
    go_wp2_with fail
    refine (sameInts_c _ _ _ _ _ _ _ _ _ _ w4 ((hown2.row.below hb3).below (hb4.mono hs3)) (hown3.row.below hb4) (Nat.le_trans hs3 hs4) hs4).mono ?_
    rintro e w5 ⟨rfl, hb5⟩
    have hfin := ((((hb1.trans (hb2.mono hs1)).trans (hb3.mono (by omega))).trans (hb4.mono (by omega))).trans (hb5.mono (by omega)))
    go_wp2
    go_ret
    exact ⟨rfl, hfin⟩
  obtain ⟨r, hR⟩ : ∃ r, r = varF x := ⟨_, rfl⟩
  obtain ⟨L, hL⟩ : ∃ L, r.length = L := ⟨_, rfl⟩
  have hLL : 1 ≤ L ∧ L ≤ 3 := by have := varF_len hr; rw [← hR, hL] at this; omega
  have HR := hid hR
  have hrr : (r == r) = true := beq_self_eq_true _
  have hf1 := VarPut_c x w1
  rw [← hR] at hf1
  go_wp2_with fail
  refine hf1.mono ?_
  rintro e w2 ⟨A2, c2, rfl, hown2, hb2⟩
  have hs2 := hb2.size
  have hf2 := VarPut_s_c x w2
  rw [← hR] at hf2
  rw [hL] at hown2
  rw [hL]
  go_wp2_with fail
  refine hf2.mono ?_
  rintro e w3 ⟨A3, c3, rfl, hown3, hb3⟩
  rw [hL] at hown3
  rw [hL]
  have HL := hid hL
  have hs3 := hb3.size
  clear hf1 hf2 hR hL
  have hL0 : ((L : Int) == 0) = false := by simp; omega
  go_wp2_with fail
  refine (sameInts_c _ _ _ _ _ _ _ _ _ _ w3 (hown2.row.below hb3) hown3.row hs3 (Nat.le_refl _)).mono ?_
  rintro e w4 ⟨rfl, hb4⟩
  have hs4 := hb4.size
  have hown4 := (hown2.below hb3 (Nat.le_refl _)).below hb4 (Nat.le_refl _)
  have hrow3 := (hown3.row.below hb4)
  have hb14 := (((hb1.trans (hb2.mono hs1)).trans (hb3.mono (by omega))).trans (hb4.mono (by omega)))
  obtain ⟨r0, r1⟩ := hr
  have k5 := VarGet_c A2 L c2 _ r 0 w4 hown4.row
  rw [HR.out, vg_put r0 r1, ← HR.out, HL.out] at k5
  have hLL3 : (L : Int) ≤ 3 := by omega
  have hLLb : ((L : Int) == (L : Int)) = true := beq_self_eq_true _
  have hxx : (x == x) = true := beq_self_eq_true _
  go_wp2_with fail
  refine k5.mono ?_
  rintro e w5 ⟨rfl, hb5⟩
  clear k5
  have hfin := hb14.trans (hb5.mono (by omega))
  go_wp2
  go_ret
  exact ⟨rfl, hfin⟩

set_option maxHeartbeats 3200000 in
theorem FnExactVarGet_walk (A : Option Addr) (n c : Nat) (xs : List Int) (a : Int) (w : World) (h : n ≤ 1048576 → Row w w.heap.size A n c xs) : Calls Try.prog 11 #[.slice A n c, .int .i64 a] w (PTrue w) := by
  by_cases hn : n ≤ 1048576
  case neg =>
    go_enter Try.func11, Try.ntmps11
    go_wp2
    go_ret
    exact ⟨rfl, Below.refl _ _⟩
  have hr := h hn
  clear h
  obtain ⟨⟨o, e, ok⟩, hR⟩ : ∃ r, vgF xs a = r := ⟨_, rfl⟩
  have HR := hid hR
  clear hR
  have hoo' : (o != o) = false := by simp
  have hee' : (e != e) = false := by simp
  have hkk' : (ok != ok) = false := by simp
  have hXX : (xs == xs) = true := beq_self_eq_true _
  go_enter Try.func11, Try.ntmps11
  go_wp2_with fail
  refine (toIntS_c A n c _ xs w hr (Nat.le_refl _)).mono ?_
  rintro _ w1 ⟨A1, c1, rfl, O1, b1⟩
  have z1 := b1.size
  have hl : xs.length = n := hr.len
  rw [hl] at O1
  have HL := hid hl
  clear hl
  rw [HL.out]
  have hf := VarGet_s_c A1 n c1 _ xs a w1 O1.row (Nat.le_refl _)
  rw [HR.out] at hf
  go_wp2_with fail
  refine hf.mono ?_
  rintro _ w2 ⟨rfl, b2⟩
  clear hf
  have z2 := b2.size
  have hb2 := b1.trans (b2.mono z1)
  go_wp2_with fail
  refine (toIntS_c A n c _ xs w2 (hr.below hb2) (by omega)).mono ?_
  rintro _ w3 ⟨A3, c3, rfl, O3, b3⟩
  have z3 := b3.size
  rw [HL.out] at O3
  rw [HL.out]
  have hf := VarGet_c A3 n c3 _ xs a w3 O3.row
  rw [HR.out] at hf
  go_wp2_with fail
  refine hf.mono ?_
  rintro _ w4 ⟨rfl, b4⟩
  clear hf
  have z4 := b4.size
  have b24 := b3.trans (b4.mono z3)
  have hb4 := hb2.trans (b24.mono (by omega))
  cases ok
  all_goals
    go_wp2_with fail
    refine (toIntS_c A n c _ xs w4 (hr.below hb4) (by omega)).mono ?_
    rintro _ w5 ⟨A5, c5, rfl, O5, b5⟩
    have z5 := b5.size
    rw [HL.out] at O5
    rw [HL.out]
    have hb5 := hb4.trans (b5.mono (by omega))
    go_wp2_with fail
    refine (eqIntS_c _ _ _ _ _ _ _ _ _ _ w5 (O3.row.below (b4.trans (b5.mono z4))) O5.row (by omega) (Nat.le_refl _)).mono ?_
    rintro _ w6 ⟨rfl, b6⟩
    have hfin := hb5.trans (b6.mono (by omega))
    go_wp2
    go_ret
    exact ⟨rfl, hfin⟩


end Go.Proofs.Ytaaaiagpbhiphaa
