/- The walks of the laws on the scaling of counts. No condition. -/
import Derived.Test.YtflaemmcipbeiaaScale2
import Derived.Test.YtflaemmcipbeiaaScale3
import Derived.Test.YtflaemmcipbeiaaDrawC
import Derived.IntWalk
namespace Go.Proofs.Ytflaemmcipbeiaa
open Go.RowKit
set_option linter.unusedVariables false

set_option maxRecDepth 100000 in
set_option maxHeartbeats 3200000 in
theorem FnScale_walk (A : Option Addr) (n c : Nat) (w : World) (h : BRow w w.heap.size A n c) : Calls Try.prog 3 #[.slice A n c] w (PTrue w) := by
  by_cases hn : 1048576 < n
  · go_enter Try.func3, Try.ntmps3
    go_wp2
    go_ret
    exact ⟨rfl, Below.refl _ _⟩
  go_enter Try.func3, Try.ntmps3
  go_wp2_with fail
  refine (DrawCountsScale_s_c A n c _ w h (Nat.le_refl _)).mono ?_
  rintro _ w1 ⟨A1, n1, c1, xs, rfl, O1, hn1, b1⟩
  have s1 := b1.size
  obtain ⟨⟨r, ok⟩, hR⟩ : ∃ r, r = scF xs := ⟨_, rfl⟩
  have k1 := CountsScale_c A1 n1 c1 _ xs w1 O1.row (Nat.le_refl _)
  rw [← hR] at k1
  have HR := hid hR
  clear hR
  have hrr : (r == r) = true := beq_self_eq_true _
  go_wp2_with fail
  refine k1.mono ?_
  rintro _ w2 ⟨A2, c2, rfl, O2, b2⟩
  clear k1
  have s2 := b2.size
  have k2 := CountsScale_s_c A1 n1 c1 _ xs w2 (O1.row.below b2) s2
  rw [← HR.out] at k2
  go_wp2_with fail
  refine k2.mono ?_
  rintro _ w3 ⟨A3, c3, rfl, O3, b3⟩
  clear k2
  have s3 := b3.size
  have b13 := b1.trans ((b2.trans (b3.mono s2)).mono s1)
  cases ok with
  | false =>
    go_wp2_with fail
    refine (sameInts_c _ _ _ _ _ _ _ _ _ _ w3 (O2.row.below b3) O3.row s3 (Nat.le_refl _)).mono ?_
    rintro _ w4 ⟨rfl, b4⟩
    have s4 := b4.size
    go_wp2_with fail
    first
      | (refine (sameInts_c _ _ _ _ _ _ _ _ _ _ w4 ((O2.row.below b3).below (b4.mono s3)) (O3.row.below b4) (Nat.le_trans s3 s4) s4).mono ?_
         rintro _ w5 ⟨rfl, b5⟩
         have hfin := (b13.trans (b4.mono (by omega))).trans (b5.mono (by omega))
         go_wp2
         go_ret
         exact ⟨rfl, hfin⟩)
      | (go_wp2
         go_ret
         exact ⟨rfl, b13.trans (b4.mono (by omega))⟩)
  | true =>
    have hB : scB xs = true := by
      refine Classical.byContradiction fun hno => ?_
      rw [Bool.not_eq_true] at hno
      have := HR.out
      rw [scF_no hno] at this
      cases this
    obtain rfl : r = scL xs := by have := HR.out; rw [scF_yes hB] at this; exact (Prod.mk.inj this).1
    obtain ⟨hY8, hYr, hYs, hYz, hYn⟩ := scL_is hB
    obtain ⟨h8, hv, hz⟩ := scB_iff.1 hB
    obtain rfl : n1 = 8 := by rw [← O1.len]; exact h8
    obtain ⟨Y, hY⟩ : ∃ Y, scL xs = Y := ⟨_, rfl⟩
    rw [hY] at hY8 hYr hYs hYz hYn hrr
    simp only [hY] at O2 O3
    rw [hY8] at O2 O3
    simp only [hY, hY8]
    have HY := hid hY
    have HY8 := hid hY8
    have H8 := hid h8
    have HYS := hid hYs
    clear hY hY8 h8 hYs
    go_wp2_with fail
    refine (sameInts_c _ _ _ _ _ _ _ _ _ _ w3 (O2.row.below b3) O3.row s3 (Nat.le_refl _)).mono ?_
    rintro _ w4 ⟨rfl, b4⟩
    have s4 := b4.size
    have O4 := (O1.below b2 (Nat.le_refl _)).below (b3.trans (b4.mono s3)) (Nat.le_refl _)
    have R4 := (O2.below b3 (Nat.le_refl _)).below b4 (Nat.le_refl _)
    have b14 := b13.trans (b4.mono (by omega))
    obtain ⟨ga, rfl, -, -⟩ := O4.at_ (by omega)
    obtain ⟨gb, rfl, -, -⟩ := R4.at_ (by omega)
    have hcv : countsV Y = true := countsV_iff.2 ⟨HY8.out, everyB_mono hYr (Int.le_refl 0) (by omega)⟩
    have HK := hid (everyB_mono hYr (Int.le_refl 0) (by omega : (32 : Int) ≤ 1000))
    go_wp2_with fail
    go_loopw [8] (fun i wr => ∃ k j : Nat, k ≤ 8 ∧ i = .int .i64 (k : Int) ∧ wr = w4.drewN j) (fun i _ => 8 - (intOf i).toNat)
    case atStart => exact ⟨0, 0, by omega, rfl, rfl⟩
    case round =>
      obtain ⟨k, j, hk, rfl, rfl⟩ := hrel
      by_cases hlt : k < 8
      · obtain ⟨y, hy⟩ : ∃ y, Y[k]? = some y := ⟨_, List.getElem?_eq_getElem (by rw [HY8.out]; exact hlt)⟩
        obtain ⟨x, hx⟩ : ∃ x, xs[k]? = some x := ⟨_, List.getElem?_eq_getElem (by rw [H8.out]; exact hlt)⟩
        have hcy := R4.cellAt hy
        have hcx := O4.cellAt hx
        obtain ⟨y0, hyx⟩ := hYz k y x hy hx
        have hkI : (k : Int) < 8 := by omega
        have hy1 : ¬ y < 0 := by omega
        clear hy hx hYz hYn
        by_cases hy2 : y = 0
        · obtain rfl : x = 0 := hyx.1 hy2
          subst hy2
          clear hyx
          go_wp2_with fail
          go_quiet (fail)
          go_wp2
          go_roundw
          case rel => exact ⟨k + 1, _, by omega, by go_num, by first | rfl | simp [World.drewN_drewN]⟩
          case measure => simp [intOf]; omega
        · have hx2 : ¬ x = 0 := fun e => hy2 (hyx.2 e)
          have hyb : (y == 0) = false := by simpa using hy2
          have hxb : (x == 0) = false := by simpa using hx2
          clear hyx
          go_wp2_with fail
          go_quiet (fail)
          go_wp2
          go_roundw
          case rel => exact ⟨k + 1, _, by omega, by go_num, by first | rfl | simp [World.drewN_drewN]⟩
          case measure => simp [intOf]; omega
      · have k6' := sumOf_c (some ⟨gb, 0, none⟩) 8 c2 _ Y (w4.drewN j) (R4.row.drewN j) HK.out (by omega)
        rw [HYS.out] at k6'
        have k7' := CountsValid_c (some ⟨gb, 0, none⟩) 8 c2 _ Y (w4.drewN j) (R4.row.drewN j)
        go_wp2_with fail
        refine k6'.mono ?_
        rintro _ w' ⟨rfl, rfl⟩
        go_wp2_with fail
        refine k7'.mono ?_
        rintro _ w' ⟨rfl, rfl⟩
        go_wp2
        go_ret
        exact ⟨rfl, below_drewN b14 j⟩

set_option maxRecDepth 100000 in
set_option maxHeartbeats 3200000 in
theorem FnScaleSame_walk (A : Option Addr) (n c : Nat) (w : World) (h : BRow w w.heap.size A n c) : Calls Try.prog 7 #[.slice A n c] w (PTrue w) := by
  by_cases hn : 1048576 < n
  · go_enter Try.func7, Try.ntmps7
    go_wp2
    go_ret
    exact ⟨rfl, Below.refl _ _⟩
  go_enter Try.func7, Try.ntmps7
  go_wp2_with fail
  refine (DrawCountsScale_s_c A n c _ w h (Nat.le_refl _)).mono ?_
  rintro _ w1 ⟨A1, n1, c1, xs, rfl, O1, hn1, b1⟩
  have s1 := b1.size
  obtain ⟨⟨r, ok⟩, hR⟩ : ∃ r, r = scF xs := ⟨_, rfl⟩
  have k1 := CountsScale_c A1 n1 c1 _ xs w1 O1.row (Nat.le_refl _)
  rw [← hR] at k1
  have HR := hid hR
  clear hR
  have hrr : (r == r) = true := beq_self_eq_true _
  go_wp2_with fail
  refine k1.mono ?_
  rintro _ w2 ⟨A2, c2, rfl, O2, b2⟩
  clear k1
  have s2 := b2.size
  have k2 := CountsScale_s_c A1 n1 c1 _ xs w2 (O1.row.below b2) s2
  rw [← HR.out] at k2
  go_wp2_with fail
  refine k2.mono ?_
  rintro _ w3 ⟨A3, c3, rfl, O3, b3⟩
  clear k2
  have s3 := b3.size
  have b13 := b1.trans ((b2.trans (b3.mono s2)).mono s1)
  cases ok with
  | false =>
    go_wp2_with fail
    refine (sameInts_c _ _ _ _ _ _ _ _ _ _ w3 (O2.row.below b3) O3.row s3 (Nat.le_refl _)).mono ?_
    rintro _ w4 ⟨rfl, b4⟩
    have s4 := b4.size
    go_wp2_with fail
    first
      | (refine (sameInts_c _ _ _ _ _ _ _ _ _ _ w4 ((O2.row.below b3).below (b4.mono s3)) (O3.row.below b4) (Nat.le_trans s3 s4) s4).mono ?_
         rintro _ w5 ⟨rfl, b5⟩
         have hfin := (b13.trans (b4.mono (by omega))).trans (b5.mono (by omega))
         go_wp2
         go_ret
         exact ⟨rfl, hfin⟩)
      | (go_wp2
         go_ret
         exact ⟨rfl, b13.trans (b4.mono (by omega))⟩)
  | true =>
    have hB : scB xs = true := by
      refine Classical.byContradiction fun hno => ?_
      rw [Bool.not_eq_true] at hno
      have := HR.out
      rw [scF_no hno] at this
      cases this
    obtain rfl : r = scL xs := by have := HR.out; rw [scF_yes hB] at this; exact (Prod.mk.inj this).1
    obtain ⟨hY8, hYr, hYs, hYz, hYn⟩ := scL_is hB
    obtain ⟨h8, hv, hz⟩ := scB_iff.1 hB
    obtain rfl : n1 = 8 := by rw [← O1.len]; exact h8
    obtain ⟨Y, hY⟩ : ∃ Y, scL xs = Y := ⟨_, rfl⟩
    rw [hY] at hY8 hYr hYs hYz hYn hrr
    simp only [hY] at O2 O3
    rw [hY8] at O2 O3
    simp only [hY, hY8]
    have HY := hid hY
    have HY8 := hid hY8
    have H8 := hid h8
    have HYS := hid hYs
    clear hY hY8 h8 hYs
    go_wp2_with fail
    refine (sameInts_c _ _ _ _ _ _ _ _ _ _ w3 (O2.row.below b3) O3.row s3 (Nat.le_refl _)).mono ?_
    rintro _ w4 ⟨rfl, b4⟩
    have s4 := b4.size
    have O4 := (O1.below b2 (Nat.le_refl _)).below (b3.trans (b4.mono s3)) (Nat.le_refl _)
    have R4 := (O2.below b3 (Nat.le_refl _)).below b4 (Nat.le_refl _)
    have b14 := b13.trans (b4.mono (by omega))
    obtain ⟨ga, rfl, -, -⟩ := O4.at_ (by omega)
    obtain ⟨gb, rfl, -, -⟩ := R4.at_ (by omega)
    have k6 := CountsScale_c (some ⟨gb, 0, none⟩) 8 c2 _ Y w4 R4.row (Nat.le_refl _)
    rw [scF_same HY8.out hYr HYS.out] at k6
    have hYY : (Y == Y) = true := beq_self_eq_true _
    clear hYz hYn
    go_wp2_with fail
    refine k6.mono ?_
    rintro _ w5 ⟨A5, c5, rfl, O5, b5⟩
    clear k6
    have s5 := b5.size
    simp only [] at O5
    rw [HY8.out] at O5
    simp only [HY8.out]
    go_wp2_with fail
    refine (sameInts_c _ _ _ _ _ _ _ _ _ _ w5 O5.row (R4.row.below b5) (Nat.le_refl _) s5).mono ?_
    rintro _ w6 ⟨rfl, b6⟩
    have hfin := b14.trans ((b5.trans (b6.mono s5)).mono (by omega : w.heap.size ≤ w4.heap.size))
    go_wp2
    go_ret
    exact ⟨rfl, hfin⟩

set_option maxRecDepth 100000 in
set_option maxHeartbeats 3200000 in
theorem FnScaleDoubled_walk (A : Option Addr) (n c : Nat) (w : World) (h : BRow w w.heap.size A n c) : Calls Try.prog 6 #[.slice A n c] w (PTrue w) := by
  by_cases hn : 1048576 < n
  · go_enter Try.func6, Try.ntmps6
    go_wp2
    go_ret
    exact ⟨rfl, Below.refl _ _⟩
  go_enter Try.func6, Try.ntmps6
  go_wp2_with fail
  refine (DrawCountsScale_s_c A n c _ w h (Nat.le_refl _)).mono ?_
  rintro _ w1 ⟨A1, n1, c1, xs, rfl, O1, hn1, b1⟩
  have s1 := b1.size
  obtain ⟨⟨r, ok⟩, hR⟩ : ∃ r, r = scF xs := ⟨_, rfl⟩
  have k1 := CountsScale_c A1 n1 c1 _ xs w1 O1.row (Nat.le_refl _)
  rw [← hR] at k1
  have HR := hid hR
  clear hR
  have hrr : (r == r) = true := beq_self_eq_true _
  go_wp2_with fail
  refine k1.mono ?_
  rintro _ w2 ⟨A2, c2, rfl, O2, b2⟩
  clear k1
  have s2 := b2.size
  have k2 := CountsScale_s_c A1 n1 c1 _ xs w2 (O1.row.below b2) s2
  rw [← HR.out] at k2
  go_wp2_with fail
  refine k2.mono ?_
  rintro _ w3 ⟨A3, c3, rfl, O3, b3⟩
  clear k2
  have s3 := b3.size
  have b13 := b1.trans ((b2.trans (b3.mono s2)).mono s1)
  cases ok with
  | false =>
    go_wp2_with fail
    refine (sameInts_c _ _ _ _ _ _ _ _ _ _ w3 (O2.row.below b3) O3.row s3 (Nat.le_refl _)).mono ?_
    rintro _ w4 ⟨rfl, b4⟩
    have s4 := b4.size
    go_wp2_with fail
    first
      | (refine (sameInts_c _ _ _ _ _ _ _ _ _ _ w4 ((O2.row.below b3).below (b4.mono s3)) (O3.row.below b4) (Nat.le_trans s3 s4) s4).mono ?_
         rintro _ w5 ⟨rfl, b5⟩
         have hfin := (b13.trans (b4.mono (by omega))).trans (b5.mono (by omega))
         go_wp2
         go_ret
         exact ⟨rfl, hfin⟩)
      | (go_wp2
         go_ret
         exact ⟨rfl, b13.trans (b4.mono (by omega))⟩)
  | true =>
    have hB : scB xs = true := by
      refine Classical.byContradiction fun hno => ?_
      rw [Bool.not_eq_true] at hno
      have := HR.out
      rw [scF_no hno] at this
      cases this
    obtain rfl : r = scL xs := by have := HR.out; rw [scF_yes hB] at this; exact (Prod.mk.inj this).1
    obtain ⟨hY8, hYr, hYs, hYz, hYn⟩ := scL_is hB
    obtain ⟨h8, hv, hz⟩ := scB_iff.1 hB
    obtain rfl : n1 = 8 := by rw [← O1.len]; exact h8
    obtain ⟨Y, hY⟩ : ∃ Y, scL xs = Y := ⟨_, rfl⟩
    rw [hY] at hY8 hYr hYs hYz hYn hrr
    simp only [hY] at O2 O3
    rw [hY8] at O2 O3
    simp only [hY, hY8]
    have HY := hid hY
    have HY8 := hid hY8
    have H8 := hid h8
    have HYS := hid hYs
    clear hY hY8 h8 hYs
    go_wp2_with fail
    refine (sameInts_c _ _ _ _ _ _ _ _ _ _ w3 (O2.row.below b3) O3.row s3 (Nat.le_refl _)).mono ?_
    rintro _ w4 ⟨rfl, b4⟩
    have s4 := b4.size
    have O4 := (O1.below b2 (Nat.le_refl _)).below (b3.trans (b4.mono s3)) (Nat.le_refl _)
    have R4 := (O2.below b3 (Nat.le_refl _)).below b4 (Nat.le_refl _)
    have b14 := b13.trans (b4.mono (by omega))
    obtain ⟨ga, rfl, -, -⟩ := O4.at_ (by omega)
    obtain ⟨gb, rfl, -, -⟩ := R4.at_ (by omega)
    have ho0 : Own (w4.alloc (.cells #[] 3)) w4.heap.size (some ⟨w4.heap.size, 0, none⟩) 0 0 [] := Own.lit w4 [] rfl (by omega) (Nat.le_refl _)
    have hb0 : Below w4.heap.size w4 (w4.alloc (.cells #[] 3)) := (Below.refl _ _).alloc (Nat.le_refl _) _
    have hYY : (Y == Y) = true := beq_self_eq_true _
    clear hYz hYn
    go_wp2_with fail
    go_loopw [8, 9] (fun v i wr => ∃ (k : Nat) (D : Option Addr) (d : Nat), k ≤ 8 ∧ v = .slice D k d ∧ i = .int .i64 (k : Int) ∧ Own wr w4.heap.size D k d ((xs.take k).map (2 * ·)) ∧ everyB 0 499 (xs.take k) = true ∧ Below w4.heap.size w4 wr) (fun _ i _ => 8 - (intOf i).toNat)
    case atStart => exact ⟨0, _, 0, by omega, rfl, rfl, ho0, rfl, hb0⟩
    case round =>
      obtain ⟨k, D, d, hk, rfl, rfl, hown, he, hbel⟩ := hrel
      have HE := hid he
      have hsz := hbel.size
      clear he
      by_cases hlt : k < 8
      · obtain ⟨x, hx⟩ : ∃ x, xs[k]? = some x := ⟨_, List.getElem?_eq_getElem (by rw [H8.out]; exact hlt)⟩
        have hcx := (O4.below hbel (Nat.le_refl _)).cellAt hx
        have hxb := everyB_get hv hx
        have hkI : (k : Int) < 8 := by omega
        have HX := hid hx
        clear hx
        by_cases hbig : 499 < x
        · have hfin := b14.trans (hbel.mono (by omega : w.heap.size ≤ w4.heap.size))
          go_wp2
          go_ret
          exact ⟨rfl, hfin⟩
        · go_wp2_with (at_builtin; refine wpList_push rfl _ _ rfl rfl hown rfl (by omega) hsz ?_; intro D2 d2 w2 hown2 hg2 hb2)
          go_roundw
          case rel => exact ⟨k + 1, D2, d2, by omega, rfl, by go_num, by rw [List.take_add_one, HX.out, List.map_append]; exact hown2, by rw [List.take_add_one, HX.out, everyB_append, HE.out]; show (true && everyB 0 499 [x]) = true; rw [Bool.true_and, everyB_cons, everyB_nil, Bool.and_true, inB_iff]; omega, hbel.trans hb2⟩
          case measure => simp [intOf]; omega
      · obtain rfl : k = 8 := by omega
        have e8 : xs.take 8 = xs := List.take_of_length_le (by rw [H8.out]; omega)
        have HV := HE.out
        rw [e8] at hown HV
        have k6 := CountsScale_c D 8 d _ _ wr hown.row (Nat.le_refl _)
        rw [scF_two hB HV, HY.out] at k6
        clear e8 HV HE
        go_wp2_with fail
        refine k6.mono ?_
        rintro _ w5 ⟨A5, c5, rfl, O5, b5⟩
        clear k6
        have s5 := b5.size
        simp only [] at O5
        rw [HY8.out] at O5
        simp only [HY8.out]
        have hbe := hbel.trans (b5.mono hsz)
        go_wp2_with fail
        refine (sameInts_c _ _ _ _ _ _ _ _ _ _ w5 O5.row (R4.row.below hbe) (Nat.le_refl _) hbe.size).mono ?_
        rintro _ w6 ⟨rfl, b6⟩
        have hfin := b14.trans ((hbe.trans (b6.mono hbe.size)).mono (by omega : w.heap.size ≤ w4.heap.size))
        go_wp2
        go_ret
        exact ⟨rfl, hfin⟩

set_option maxRecDepth 100000 in
set_option maxHeartbeats 3200000 in
theorem FnScaleNear_walk (A : Option Addr) (n c : Nat) (w : World) (h : BRow w w.heap.size A n c) : Calls Try.prog 4 #[.slice A n c] w (PTrue w) := by
  by_cases hn : 1048576 < n
  · go_enter Try.func4, Try.ntmps4
    go_wp2
    go_ret
    exact ⟨rfl, Below.refl _ _⟩
  go_enter Try.func4, Try.ntmps4
  go_wp2_with fail
  refine (DrawCountsScale_s_c A n c _ w h (Nat.le_refl _)).mono ?_
  rintro _ w1 ⟨A1, n1, c1, xs, rfl, O1, hn1, b1⟩
  have s1 := b1.size
  obtain ⟨⟨r, ok⟩, hR⟩ : ∃ r, r = scF xs := ⟨_, rfl⟩
  have k1 := CountsScale_c A1 n1 c1 _ xs w1 O1.row (Nat.le_refl _)
  rw [← hR] at k1
  have HR := hid hR
  clear hR
  have hrr : (r == r) = true := beq_self_eq_true _
  go_wp2_with fail
  refine k1.mono ?_
  rintro _ w2 ⟨A2, c2, rfl, O2, b2⟩
  clear k1
  have s2 := b2.size
  have k2 := CountsScale_s_c A1 n1 c1 _ xs w2 (O1.row.below b2) s2
  rw [← HR.out] at k2
  go_wp2_with fail
  refine k2.mono ?_
  rintro _ w3 ⟨A3, c3, rfl, O3, b3⟩
  clear k2
  have s3 := b3.size
  have b13 := b1.trans ((b2.trans (b3.mono s2)).mono s1)
  cases ok with
  | false =>
    go_wp2_with fail
    refine (sameInts_c _ _ _ _ _ _ _ _ _ _ w3 (O2.row.below b3) O3.row s3 (Nat.le_refl _)).mono ?_
    rintro _ w4 ⟨rfl, b4⟩
    have s4 := b4.size
    go_wp2_with fail
    first
      | (refine (sameInts_c _ _ _ _ _ _ _ _ _ _ w4 ((O2.row.below b3).below (b4.mono s3)) (O3.row.below b4) (Nat.le_trans s3 s4) s4).mono ?_
         rintro _ w5 ⟨rfl, b5⟩
         have hfin := (b13.trans (b4.mono (by omega))).trans (b5.mono (by omega))
         go_wp2
         go_ret
         exact ⟨rfl, hfin⟩)
      | (go_wp2
         go_ret
         exact ⟨rfl, b13.trans (b4.mono (by omega))⟩)
  | true =>
    have hB : scB xs = true := by
      refine Classical.byContradiction fun hno => ?_
      rw [Bool.not_eq_true] at hno
      have := HR.out
      rw [scF_no hno] at this
      cases this
    obtain rfl : r = scL xs := by have := HR.out; rw [scF_yes hB] at this; exact (Prod.mk.inj this).1
    obtain ⟨hY8, hYr, hYs, hYz, hYn⟩ := scL_is hB
    obtain ⟨h8, hv, hz⟩ := scB_iff.1 hB
    obtain rfl : n1 = 8 := by rw [← O1.len]; exact h8
    obtain ⟨Y, hY⟩ : ∃ Y, scL xs = Y := ⟨_, rfl⟩
    rw [hY] at hY8 hYr hYs hYz hYn hrr
    simp only [hY] at O2 O3
    rw [hY8] at O2 O3
    simp only [hY, hY8]
    have HY := hid hY
    have HY8 := hid hY8
    have H8 := hid h8
    have HYS := hid hYs
    clear hY hY8 h8 hYs
    go_wp2_with fail
    refine (sameInts_c _ _ _ _ _ _ _ _ _ _ w3 (O2.row.below b3) O3.row s3 (Nat.le_refl _)).mono ?_
    rintro _ w4 ⟨rfl, b4⟩
    have s4 := b4.size
    have O4 := (O1.below b2 (Nat.le_refl _)).below (b3.trans (b4.mono s3)) (Nat.le_refl _)
    have R4 := (O2.below b3 (Nat.le_refl _)).below b4 (Nat.le_refl _)
    have b14 := b13.trans (b4.mono (by omega))
    obtain ⟨ga, rfl, -, -⟩ := O4.at_ (by omega)
    obtain ⟨gb, rfl, -, -⟩ := R4.at_ (by omega)
    have hsr := sumL_range (k := 999) (by omega) hv
    rw [H8.out] at hsr
    obtain ⟨s, hs⟩ : ∃ s, sumL xs = s := ⟨_, rfl⟩
    have k6 := sumOf_c (some ⟨ga, 0, none⟩) 8 c1 _ xs w4 O4.row (everyB_mono hv (Int.le_refl 0) (by omega)) (by omega)
    rw [hs] at k6 hsr hYn
    obtain ⟨x0, hx0⟩ : ∃ x, xs[0]? = some x := ⟨_, List.getElem?_eq_getElem (by rw [H8.out]; omega)⟩
    have hg0 : gr xs = gG 1 0 x0 (xs.drop 1) := by
      cases xs with
      | nil => simp at hx0
      | cons x xs => simp at hx0; subst hx0; rfl
    have HG := hid hg0
    have HX0 := hid hx0
    have HYN := hid hYn
    clear hg0 hx0 hs hYn hYz hz
    go_wp2_with fail
    refine k6.mono ?_
    rintro _ w' ⟨rfl, rfl⟩
    clear k6
    go_wp2_with fail
    go_loopw [9, 10] (fun v i wr => ∃ (k t : Nat) (y : Int) (j : Nat), k ≤ 8 ∧ v = .int .i64 (t : Int) ∧ i = .int .i64 (k : Int) ∧ t < 8 ∧ xs[t]? = some y ∧ gr xs = gG k t y (xs.drop k) ∧ wr = w4.drewN j) (fun _ i _ => 8 - (intOf i).toNat)
    case atStart => exact ⟨1, 0, x0, 0, by omega, rfl, rfl, by omega, HX0.out, HG.out, rfl⟩
    case round =>
      obtain ⟨k, t, y, j, hk, rfl, rfl, ht, hy, he, rfl⟩ := hrel
      have hct := O4.cellAt hy
      have HYY := hid hy
      have HE := hid he
      clear hy he
      have htI : (t : Int) < 8 := by omega
      by_cases hlt : k < 8
      · obtain ⟨x, hx, hd⟩ := drop_cons (xs := xs) (k := k) (by rw [H8.out]; exact hlt)
        have hck := O4.cellAt hx
        have HD := hid hd
        have HX := hid hx
        have hkI : (k : Int) < 8 := by omega
        clear hd hx
        by_cases hxy : y < x
        · go_wp2
          go_quiet (fail)
          go_wp2
          go_roundw
          case rel => exact ⟨k + 1, k, x, _, by omega, rfl, by go_num, by omega, HX.out, by rw [HE.out, HD.out, gG_up hxy], by first | rfl | simp [World.drewN_drewN]⟩
          case measure => simp [intOf]; omega
        · go_wp2
          go_quiet (fail)
          go_wp2
          go_roundw
          case rel => exact ⟨k + 1, t, y, _, by omega, rfl, by go_num, by omega, HYY.out, by rw [HE.out, HD.out, gG_no (by omega)], by first | rfl | simp [World.drewN_drewN]⟩
          case measure => simp [intOf]; omega
      · have hd : xs.drop k = [] := List.drop_eq_nil_of_le (by rw [H8.out]; omega)
        have e : gr xs = t := by rw [HE.out, hd]; rfl
        have HT := hid e
        clear hd e
        go_wp2_with fail
        go_loopw [11] (fun i wr => ∃ k j : Nat, k ≤ 8 ∧ i = .int .i64 (k : Int) ∧ wr = w4.drewN j) (fun i _ => 8 - (intOf i).toNat)
        case atStart => exact ⟨0, j, by omega, rfl, rfl⟩
        case round =>
          obtain ⟨k, j, hk, rfl, rfl⟩ := hrel
          by_cases hlt : k < 8
          · obtain ⟨y, hy⟩ : ∃ y, Y[k]? = some y := ⟨_, List.getElem?_eq_getElem (by rw [HY8.out]; exact hlt)⟩
            obtain ⟨x, hx⟩ : ∃ x, xs[k]? = some x := ⟨_, List.getElem?_eq_getElem (by rw [H8.out]; exact hlt)⟩
            have hcy := R4.cellAt hy
            have hcx := O4.cellAt hx
            have hxb := everyB_get hv hx
            have hyb := everyB_get hYr hy
            have hkI : (k : Int) < 8 := by omega
            by_cases hkt : k = t
            · subst hkt
              have hne : ((k : Int) != (k : Int)) = false := by simp
              clear hy hx
              go_wp2_with fail
              go_quiet (fail)
              go_wp2
              go_roundw
              case rel => exact ⟨k + 1, _, by omega, by go_num, by first | rfl | simp [World.drewN_drewN]⟩
              case measure => simp [intOf]; omega
            have hne : ((k : Int) != (t : Int)) = true := by simp; omega
            by_cases hx0 : 0 < x
            · have hle := HYN.out k y x (fun e => hkt (e.trans HT.out)) hx0 hy hx
              have hlo : -7992 ≤ (y - 1) * s := by
                have h1 : (-1) * s ≤ (y - 1) * s := Int.mul_le_mul_of_nonneg_right (by omega) (by omega)
                omega
              have hgt : ¬ x * 32 < (y - 1) * s := by omega
              have q1 : IntKind.i64.wrap (y - 1) = y - 1 := IntWalk.i64_in _ (by omega)
              have q2 : IntKind.i64.wrap ((y - 1) * s) = (y - 1) * s := IntWalk.i64_in _ (by omega)
              have q3 : IntKind.i64.wrap (x * 32) = x * 32 := IntWalk.i64_in _ (by omega)
              clear hy hx hle hlo
              go_wp2_with fail
              go_quiet (fail)
              clear q1 q2 q3
              go_wp2
              go_roundw
              case rel => exact ⟨k + 1, _, by omega, by go_num, by first | rfl | simp [World.drewN_drewN]⟩
              case measure => simp [intOf]; omega
            · have hxd : decide (0 < x) = false := by simpa using hx0
              clear hy hx
              go_wp2_with fail
              go_quiet (fail)
              go_wp2
              go_roundw
              case rel => exact ⟨k + 1, _, by omega, by go_num, by first | rfl | simp [World.drewN_drewN]⟩
              case measure => simp [intOf]; omega
          · go_wp2
            go_ret
            exact ⟨rfl, below_drewN b14 j⟩
end Go.Proofs.Ytflaemmcipbeiaa
