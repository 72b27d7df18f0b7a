/- The walks of the laws on the moves to the front. No condition. -/
import Derived.Test.YtibccpmooialiaaFront
import Derived.Test.YtibccpmooialiaaFront2
import Derived.Test.YtibccpmooialiaaDrawL
import Derived.IntWalk
import Derived.Deep.RegionWith
namespace Go.Proofs.Ytibccpmooialiaa
open Go.RowKit
set_option linter.unusedVariables false

set_option maxRecDepth 100000 in
set_option maxHeartbeats 3200000 in
theorem FnFrontBack_walk (A : Option Addr) (n c : Nat) (w : World) (h : BRow w w.heap.size A n c) : Calls Try.prog 5 #[.slice A n c] w (PTrue w) := by
  by_cases hn : 1048576 < n
  · go_enter Try.func5, Try.ntmps5
    go_wp2
    go_ret
    exact ⟨rfl, Below.refl _ _⟩
  go_enter Try.func5, Try.ntmps5
  go_wp2_with fail
  refine (DrawFrontBack_s_c A n c _ w h (Nat.le_refl _)).mono ?_
  rintro _ w1 ⟨A1, n1, c1, xs, rfl, O1, hn1, b1⟩
  have s1 := b1.size
  have k1 := FrontBack_c A1 n1 c1 _ xs w1 O1.row (Nat.le_refl _)
  have hnil : (([] : List Int) == []) = true := rfl
  rcases hv : listV xs with _ | _
  · rw [backF_no hv] at k1
    go_wp2_with fail
    refine k1.mono ?_
    rintro _ w2 ⟨A2, c2, rfl, O2, b2⟩
    clear k1
    have s2 := b2.size
    have k2 := FrontBack_s_c A1 n1 c1 _ xs w2 (O1.row.below b2) s2
    rw [backF_no hv] at k2
    go_wp2_with fail
    refine k2.mono ?_
    rintro _ w3 ⟨A3, c3, rfl, O3, b3⟩
    clear k2
    have s3 := b3.size
    have b13 := b1.trans ((b2.trans (b3.mono s2)).mono s1)
    go_wp2_with fail
    refine (sameInts_c _ _ _ _ _ _ _ _ _ _ w3 (O2.row.below b3) O3.row s3 (Nat.le_refl _)).mono ?_
    rintro _ w4 ⟨rfl, b4⟩
    have s4 := b4.size
    have R4 := ((O1.below b2 (Nat.le_refl _)).below (b3.trans (b4.mono s3)) (Nat.le_refl _)).row
    go_wp2_with fail
    refine (ListValid_s_c _ _ _ _ _ w4 R4).mono ?_
    rintro _ w' ⟨rfl, rfl⟩
    go_wp2_with fail
    refine (sameInts_c _ _ _ _ _ _ _ _ _ _ w4 ((O2.row.below b3).below (b4.mono s3)) (O3.row.below b4) (Nat.le_trans s3 s4) s4).mono ?_
    rintro _ w5 ⟨rfl, b5⟩
    have hfin := (b13.trans (b4.mono (by omega))).trans (b5.mono (by omega))
    go_wp2
    go_ret
    exact ⟨rfl, hfin⟩
  obtain ⟨h40, hev⟩ := listV_iff.1 hv
  have hlx := O1.len
  rw [backF_yes hv] at k1
  have k2 := fun w2 h1 h2 => FrontBack_s_c A1 n1 c1 w1.heap.size xs w2 h1 h2
  rw [backF_yes hv] at k2
  have hYv : listV (backL ord8 xs) = true := listV_back hv
  have hlY : (backL ord8 xs).length = n1 := by rw [backL_len, hlx]
  obtain ⟨Y, hY⟩ : ∃ Y, backL ord8 xs = Y := ⟨_, rfl⟩
  rw [hY] at k1 k2 hYv hlY
  have hrr : (Y == Y) = true := beq_self_eq_true _
  have HY := hid hY
  have HLY := hid hlY
  have HLX := hid hlx
  rw [hlx] at h40
  clear hY hlY hlx
  go_wp2_with fail
  refine k1.mono ?_
  rintro _ w2 ⟨A2, c2, rfl, O2, b2⟩
  clear k1
  have s2 := b2.size
  have k2' := k2 w2 (O1.row.below b2) s2
  clear k2
  rw [HLY.out] at O2
  rw [HLY.out]
  go_wp2_with fail
  refine k2'.mono ?_
  rintro _ w3 ⟨A3, c3, rfl, O3, b3⟩
  clear k2'
  have s3 := b3.size
  have b13 := b1.trans ((b2.trans (b3.mono s2)).mono s1)
  rw [HLY.out] at O3
  rw [HLY.out]
  go_wp2_with fail
  refine (sameInts_c _ _ _ _ _ _ _ _ _ _ w3 (O2.row.below b3) O3.row s3 (Nat.le_refl _)).mono ?_
  rintro _ w4 ⟨rfl, b4⟩
  have s4 := b4.size
  have O4 := (O1.below b2 (Nat.le_refl _)).below (b3.trans (b4.mono s3)) (Nat.le_refl _)
  have R4 := (O2.below b3 (Nat.le_refl _)).below b4 (Nat.le_refl _)
  have b14 := b13.trans (b4.mono (by omega))
  go_wp2_with fail
  refine (ListValid_s_c _ _ _ _ _ w4 O4.row).mono ?_
  rintro _ w' ⟨rfl, rfl⟩
  have k5 := FrontOf_c A2 n1 c2 _ Y w4 R4.row (Nat.le_refl _)
  rw [frontF_yes hYv, ← HY.out, front_back xs ord8 ord8_ord hev] at k5
  have hXX : (xs == xs) = true := beq_self_eq_true _
  go_wp2_with fail
  refine k5.mono ?_
  rintro _ w5 ⟨A5, c5, rfl, O5, b5⟩
  clear k5
  have s5 := b5.size
  rw [HLX.out] at O5
  rw [HLX.out]
  go_wp2_with fail
  refine (sameInts_c _ _ _ _ _ _ _ _ _ _ w5 O5.row (O4.row.below b5) (Nat.le_refl _) s5).mono ?_
  rintro _ w6 ⟨rfl, b6⟩
  have hfin := b14.trans ((b5.trans (b6.mono s5)).mono (by omega : w.heap.size ≤ w4.heap.size))
  go_wp2
  go_ret
  exact ⟨rfl, hfin⟩

set_option maxRecDepth 100000 in
set_option maxHeartbeats 3200000 in
theorem FnFront_walk (A : Option Addr) (n c : Nat) (w : World) (h : BRow w w.heap.size A n c) : Calls Try.prog 8 #[.slice A n c] w (PTrue w) := by
  by_cases hn : 1048576 < n
  · go_enter Try.func8, Try.ntmps8
    go_wp2
    go_ret
    exact ⟨rfl, Below.refl _ _⟩
  go_enter Try.func8, Try.ntmps8
  go_wp2_with fail
  refine (DrawFrontOf_s_c A n c _ w h (Nat.le_refl _)).mono ?_
  rintro _ w1 ⟨A1, n1, c1, xs, rfl, O1, hn1, b1⟩
  have s1 := b1.size
  have k1 := FrontOf_c A1 n1 c1 _ xs w1 O1.row (Nat.le_refl _)
  have hnil : (([] : List Int) == []) = true := rfl
  rcases hv : listV xs with _ | _
  · rw [frontF_no hv] at k1
    go_wp2_with fail
    refine k1.mono ?_
    rintro _ w2 ⟨A2, c2, rfl, O2, b2⟩
    clear k1
    have s2 := b2.size
    have k2 := FrontOf_s_c A1 n1 c1 _ xs w2 (O1.row.below b2) s2
    rw [frontF_no hv] at k2
    go_wp2_with fail
    refine k2.mono ?_
    rintro _ w3 ⟨A3, c3, rfl, O3, b3⟩
    clear k2
    have s3 := b3.size
    have b13 := b1.trans ((b2.trans (b3.mono s2)).mono s1)
    go_wp2_with fail
    refine (sameInts_c _ _ _ _ _ _ _ _ _ _ w3 (O2.row.below b3) O3.row s3 (Nat.le_refl _)).mono ?_
    rintro _ w4 ⟨rfl, b4⟩
    have s4 := b4.size
    have R4 := ((O1.below b2 (Nat.le_refl _)).below (b3.trans (b4.mono s3)) (Nat.le_refl _)).row
    go_wp2_with fail
    refine (ListValid_s_c _ _ _ _ _ w4 R4).mono ?_
    rintro _ w' ⟨rfl, rfl⟩
    go_wp2_with fail
    refine (sameInts_c _ _ _ _ _ _ _ _ _ _ w4 ((O2.row.below b3).below (b4.mono s3)) (O3.row.below b4) (Nat.le_trans s3 s4) s4).mono ?_
    rintro _ w5 ⟨rfl, b5⟩
    have hfin := (b13.trans (b4.mono (by omega))).trans (b5.mono (by omega))
    go_wp2
    go_ret
    exact ⟨rfl, hfin⟩
  obtain ⟨h40, hev⟩ := listV_iff.1 hv
  have hlx := O1.len
  rw [frontF_yes hv] at k1
  have k2 := fun w2 h1 h2 => FrontOf_s_c A1 n1 c1 w1.heap.size xs w2 h1 h2
  rw [frontF_yes hv] at k2
  have hYv : listV (frontL ord8 xs) = true := listV_front hv
  have hlY : (frontL ord8 xs).length = n1 := by rw [frontL_len, hlx]
  obtain ⟨Y, hY⟩ : ∃ Y, frontL ord8 xs = Y := ⟨_, rfl⟩
  rw [hY] at k1 k2 hYv hlY
  have hrr : (Y == Y) = true := beq_self_eq_true _
  have HY := hid hY
  have HLY := hid hlY
  have HLX := hid hlx
  rw [hlx] at h40
  clear hY hlY hlx
  go_wp2_with fail
  refine k1.mono ?_
  rintro _ w2 ⟨A2, c2, rfl, O2, b2⟩
  clear k1
  have s2 := b2.size
  have k2' := k2 w2 (O1.row.below b2) s2
  clear k2
  rw [HLY.out] at O2
  rw [HLY.out]
  go_wp2_with fail
  refine k2'.mono ?_
  rintro _ w3 ⟨A3, c3, rfl, O3, b3⟩
  clear k2'
  have s3 := b3.size
  have b13 := b1.trans ((b2.trans (b3.mono s2)).mono s1)
  rw [HLY.out] at O3
  rw [HLY.out]
  go_wp2_with fail
  refine (sameInts_c _ _ _ _ _ _ _ _ _ _ w3 (O2.row.below b3) O3.row s3 (Nat.le_refl _)).mono ?_
  rintro _ w4 ⟨rfl, b4⟩
  have s4 := b4.size
  have O4 := (O1.below b2 (Nat.le_refl _)).below (b3.trans (b4.mono s3)) (Nat.le_refl _)
  have R4 := (O2.below b3 (Nat.le_refl _)).below b4 (Nat.le_refl _)
  have b14 := b13.trans (b4.mono (by omega))
  go_wp2_with fail
  refine (ListValid_s_c _ _ _ _ _ w4 O4.row).mono ?_
  rintro _ w' ⟨rfl, rfl⟩
  have k5 := FrontBack_c A2 n1 c2 _ Y w4 R4.row (Nat.le_refl _)
  rw [backF_yes hYv, ← HY.out, back_front xs ord8 ord8_ord hev] at k5
  have hXX : (xs == xs) = true := beq_self_eq_true _
  go_wp2_with fail
  refine k5.mono ?_
  rintro _ w5 ⟨A5, c5, rfl, O5, b5⟩
  clear k5
  have s5 := b5.size
  rw [HLX.out] at O5
  rw [HLX.out]
  go_wp2_with fail
  refine (sameInts_c _ _ _ _ _ _ _ _ _ _ w5 O5.row (O4.row.below b5) (Nat.le_refl _) s5).mono ?_
  rintro _ w6 ⟨rfl, b6⟩
  have hfin := b14.trans ((b5.trans (b6.mono s5)).mono (by omega : w.heap.size ≤ w4.heap.size))
  have R6 := (R4.below b5 (Nat.le_refl _)).below b6 (by omega)
  have hnn : ((n1 : Int) == (n1 : Int)) = true := beq_self_eq_true _
  go_wp2_with fail
  refine (ListValid_c _ _ _ _ _ w6 R6.row).mono ?_
  rintro _ w' ⟨rfl, rfl⟩
  go_wp2
  go_ret
  exact ⟨rfl, hfin⟩

set_option maxRecDepth 100000 in
set_option maxHeartbeats 3200000 in
theorem FnFrontAgain_walk (A : Option Addr) (n c : Nat) (w : World) (h : BRow w w.heap.size A n c) : Calls Try.prog 6 #[.slice A n c] w (PTrue w) := by
  by_cases hn : 1048576 < n
  · go_enter Try.func6, Try.ntmps6
    go_wp2
    go_ret
    exact ⟨rfl, Below.refl _ _⟩
  go_enter Try.func6, Try.ntmps6
  go_wp2_with fail
  refine (DrawFrontOf_s_c A n c _ w h (Nat.le_refl _)).mono ?_
  rintro _ w1 ⟨A1, n1, c1, xs, rfl, O1, hn1, b1⟩
  have s1 := b1.size
  have k1 := FrontOf_c A1 n1 c1 _ xs w1 O1.row (Nat.le_refl _)
  have hnil : (([] : List Int) == []) = true := rfl
  rcases hv : listV xs with _ | _
  · rw [frontF_no hv] at k1
    go_wp2_with fail
    refine k1.mono ?_
    rintro _ w2 ⟨A2, c2, rfl, O2, b2⟩
    clear k1
    have s2 := b2.size
    have k2 := FrontOf_s_c A1 n1 c1 _ xs w2 (O1.row.below b2) s2
    rw [frontF_no hv] at k2
    go_wp2_with fail
    refine k2.mono ?_
    rintro _ w3 ⟨A3, c3, rfl, O3, b3⟩
    clear k2
    have s3 := b3.size
    have b13 := b1.trans ((b2.trans (b3.mono s2)).mono s1)
    go_wp2_with fail
    refine (sameInts_c _ _ _ _ _ _ _ _ _ _ w3 (O2.row.below b3) O3.row s3 (Nat.le_refl _)).mono ?_
    rintro _ w4 ⟨rfl, b4⟩
    have s4 := b4.size
    have R4 := ((O1.below b2 (Nat.le_refl _)).below (b3.trans (b4.mono s3)) (Nat.le_refl _)).row
    go_wp2_with fail
    refine (ListValid_s_c _ _ _ _ _ w4 R4).mono ?_
    rintro _ w' ⟨rfl, rfl⟩
    go_wp2_with fail
    refine (sameInts_c _ _ _ _ _ _ _ _ _ _ w4 ((O2.row.below b3).below (b4.mono s3)) (O3.row.below b4) (Nat.le_trans s3 s4) s4).mono ?_
    rintro _ w5 ⟨rfl, b5⟩
    have hfin := (b13.trans (b4.mono (by omega))).trans (b5.mono (by omega))
    go_wp2
    go_ret
    exact ⟨rfl, hfin⟩
  obtain ⟨h40, hev⟩ := listV_iff.1 hv
  have hlx := O1.len
  rw [frontF_yes hv] at k1
  have k2 := fun w2 h1 h2 => FrontOf_s_c A1 n1 c1 w1.heap.size xs w2 h1 h2
  rw [frontF_yes hv] at k2
  have hYv : listV (frontL ord8 xs) = true := listV_front hv
  have hlY : (frontL ord8 xs).length = n1 := by rw [frontL_len, hlx]
  obtain ⟨Y, hY⟩ : ∃ Y, frontL ord8 xs = Y := ⟨_, rfl⟩
  rw [hY] at k1 k2 hYv hlY
  have hrr : (Y == Y) = true := beq_self_eq_true _
  have HY := hid hY
  have HLY := hid hlY
  have HLX := hid hlx
  rw [hlx] at h40
  clear hY hlY hlx
  go_wp2_with fail
  refine k1.mono ?_
  rintro _ w2 ⟨A2, c2, rfl, O2, b2⟩
  clear k1
  have s2 := b2.size
  have k2' := k2 w2 (O1.row.below b2) s2
  clear k2
  rw [HLY.out] at O2
  rw [HLY.out]
  go_wp2_with fail
  refine k2'.mono ?_
  rintro _ w3 ⟨A3, c3, rfl, O3, b3⟩
  clear k2'
  have s3 := b3.size
  have b13 := b1.trans ((b2.trans (b3.mono s2)).mono s1)
  rw [HLY.out] at O3
  rw [HLY.out]
  go_wp2_with fail
  refine (sameInts_c _ _ _ _ _ _ _ _ _ _ w3 (O2.row.below b3) O3.row s3 (Nat.le_refl _)).mono ?_
  rintro _ w4 ⟨rfl, b4⟩
  have s4 := b4.size
  have O4 := (O1.below b2 (Nat.le_refl _)).below (b3.trans (b4.mono s3)) (Nat.le_refl _)
  have R4 := (O2.below b3 (Nat.le_refl _)).below b4 (Nat.le_refl _)
  have b14 := b13.trans (b4.mono (by omega))
  go_wp2_with fail
  refine (ListValid_s_c _ _ _ _ _ w4 O4.row).mono ?_
  rintro _ w' ⟨rfl, rfl⟩
  have HAG := hid (frontL_again xs ord8 0 ord8_ord hev rfl)
  have hcap2 := R4.caps
  have hcap1 := O4.caps
  go_wp2_with fail
  go_loopw [6] (fun i wr => ∃ k j : Nat, k ≤ n1 ∧ i = .int .i64 (k : Int) ∧ wr = w4.drewN j) (fun i _ => n1 - (intOf i).toNat)
  case atStart => exact ⟨0, 0, by omega, rfl, rfl⟩
  case round =>
    obtain ⟨k, j, hk, rfl, rfl⟩ := hrel
    by_cases hlt : k < n1
    · obtain ⟨u, hu⟩ : ∃ u, Y[k]? = some u := ⟨_, List.getElem?_eq_getElem (by rw [HLY.out]; exact hlt)⟩
      obtain ⟨x, hx⟩ : ∃ x, xs[k]? = some x := ⟨_, List.getElem?_eq_getElem (by rw [HLX.out]; exact hlt)⟩
      obtain ⟨ga, rfl, -, -⟩ := O4.at_ (by omega)
      obtain ⟨gb, rfl, -, -⟩ := R4.at_ (by omega)
      have hcu := R4.cellAt hu
      have hcx := O4.cellAt hx
      have hkI : (k : Int) < (n1 : Int) := by omega
      have hk40 : (n1 : Int) ≤ 40 := by omega
      by_cases hk0 : k = 0
      · subst hk0
        have hl := HAG.out 0 u x 0 (by rw [HY.out]; exact hu) hx (by rw [if_pos rfl])
        clear hu hx
        by_cases hx0 : x = 0
        · obtain rfl : u = 0 := hl.2 hx0
          subst hx0
          clear hl
          go_wp2
          go_quiet (fail)
          go_wp2
          go_roundw
          case rel => exact ⟨1, _, by omega, by go_num, by first | rfl | simp [World.drewN_drewN]⟩
          case measure => simp [intOf]; omega
        · have hub : (u == 0) = false := by have : ¬ u = 0 := fun e => hx0 (hl.1 e); simpa using this
          have hxb : (x == 0) = false := by simpa using hx0
          clear hl
          go_wp2
          go_quiet (fail)
          go_wp2
          go_roundw
          case rel => exact ⟨1, _, by omega, by go_num, by first | rfl | simp [World.drewN_drewN]⟩
          case measure => simp [intOf]; omega
      · obtain ⟨k, rfl⟩ : ∃ q, k = q + 1 := ⟨k - 1, by omega⟩
        obtain ⟨l, hl⟩ : ∃ l, xs[k]? = some l := ⟨_, List.getElem?_eq_getElem (by rw [HLX.out]; omega)⟩
        have hlw := HAG.out (k + 1) u x l (by rw [HY.out]; exact hu) hx (by rw [if_neg (by omega)]; exact hl)
        have hcl := O4.cellAt hl
        have hcu' : (w4).cell? ⟨gb, k + 1, none⟩ = some (.int .i64 u) := hcu
        have e1 : ((k + 1 : Nat) : Int) - 1 = (k : Int) := by omega
        have hkk : (0 : Int) < (k : Int) + 1 := by omega
        have hk1 : (k : Int) + 1 < (n1 : Int) := by omega
        clear hu hx hl
        by_cases hx0 : x = l
        · obtain rfl : u = 0 := hlw.2 hx0
          subst hx0
          have hxx : (x == x) = true := beq_self_eq_true _
          clear hlw
          go_wp2
          go_quiet (fail)
          go_wp2
          go_roundw
          case rel => exact ⟨k + 1 + 1, _, by omega, by go_num, by first | rfl | simp [World.drewN_drewN]⟩
          case measure => simp [intOf]; omega
        · have hub : (u == 0) = false := by have : ¬ u = 0 := fun e => hx0 (hlw.1 e); simpa using this
          have hxb : (x == l) = false := by simpa using hx0
          clear hlw
          go_wp2
          go_quiet (fail)
          go_wp2
          go_roundw
          case rel => exact ⟨k + 1 + 1, _, by omega, by go_num, by first | rfl | simp [World.drewN_drewN]⟩
          case measure => simp [intOf]; omega
    · go_wp2
      go_ret
      exact ⟨rfl, below_drewN b14 j⟩

set_option maxRecDepth 100000 in
set_option maxHeartbeats 3200000 in
theorem FnFrontBegin_walk (A : Option Addr) (n c : Nat) (D : Option Addr) (m d : Nat) (w : World) (h : BRow w w.heap.size A n c) (_ : BRow w w.heap.size D m d) : Calls Try.prog 7 #[.slice A n c, .slice D m d] w (PTrue w) := by
  by_cases hn : 1048576 < n
  · go_enter Try.func7, Try.ntmps7
    go_wp2
    go_ret
    exact ⟨rfl, Below.refl _ _⟩
  by_cases hm : 1048576 < m
  · go_enter Try.func7, Try.ntmps7
    go_wp2
    go_ret
    exact ⟨rfl, Below.refl _ _⟩
  go_enter Try.func7, Try.ntmps7
  go_wp2_with fail
  refine (DrawFrontOf_s_c A n c _ w h (Nat.le_refl _)).mono ?_
  rintro _ w1 ⟨A1, n1, c1, xs, rfl, O1, hn1, b1⟩
  have s1 := b1.size
  have k1 := FrontOf_c A1 n1 c1 _ xs w1 O1.row (Nat.le_refl _)
  have hnil : (([] : List Int) == []) = true := rfl
  rcases hv : listV xs with _ | _
  · rw [frontF_no hv] at k1
    go_wp2_with fail
    refine k1.mono ?_
    rintro _ w2 ⟨A2, c2, rfl, O2, b2⟩
    clear k1
    have s2 := b2.size
    have k2 := FrontOf_s_c A1 n1 c1 _ xs w2 (O1.row.below b2) s2
    rw [frontF_no hv] at k2
    go_wp2_with fail
    refine k2.mono ?_
    rintro _ w3 ⟨A3, c3, rfl, O3, b3⟩
    clear k2
    have s3 := b3.size
    have b13 := b1.trans ((b2.trans (b3.mono s2)).mono s1)
    go_wp2_with fail
    refine (sameInts_c _ _ _ _ _ _ _ _ _ _ w3 (O2.row.below b3) O3.row s3 (Nat.le_refl _)).mono ?_
    rintro _ w4 ⟨rfl, b4⟩
    have s4 := b4.size
    have R4 := ((O1.below b2 (Nat.le_refl _)).below (b3.trans (b4.mono s3)) (Nat.le_refl _)).row
    go_wp2_with fail
    refine (ListValid_s_c _ _ _ _ _ w4 R4).mono ?_
    rintro _ w' ⟨rfl, rfl⟩
    go_wp2_with fail
    refine (sameInts_c _ _ _ _ _ _ _ _ _ _ w4 ((O2.row.below b3).below (b4.mono s3)) (O3.row.below b4) (Nat.le_trans s3 s4) s4).mono ?_
    rintro _ w5 ⟨rfl, b5⟩
    have hfin := (b13.trans (b4.mono (by omega))).trans (b5.mono (by omega))
    go_wp2
    go_ret
    exact ⟨rfl, hfin⟩
  obtain ⟨h40, hev⟩ := listV_iff.1 hv
  have hlx := O1.len
  rw [frontF_yes hv] at k1
  have k2 := fun w2 h1 h2 => FrontOf_s_c A1 n1 c1 w1.heap.size xs w2 h1 h2
  rw [frontF_yes hv] at k2
  have hYv : listV (frontL ord8 xs) = true := listV_front hv
  have hlY : (frontL ord8 xs).length = n1 := by rw [frontL_len, hlx]
  obtain ⟨Y, hY⟩ : ∃ Y, frontL ord8 xs = Y := ⟨_, rfl⟩
  rw [hY] at k1 k2 hYv hlY
  have hrr : (Y == Y) = true := beq_self_eq_true _
  have HY := hid hY
  have HLY := hid hlY
  have HLX := hid hlx
  rw [hlx] at h40
  clear hY hlY hlx
  go_wp2_with fail
  refine k1.mono ?_
  rintro _ w2 ⟨A2, c2, rfl, O2, b2⟩
  clear k1
  have s2 := b2.size
  have k2' := k2 w2 (O1.row.below b2) s2
  clear k2
  rw [HLY.out] at O2
  rw [HLY.out]
  go_wp2_with fail
  refine k2'.mono ?_
  rintro _ w3 ⟨A3, c3, rfl, O3, b3⟩
  clear k2'
  have s3 := b3.size
  have b13 := b1.trans ((b2.trans (b3.mono s2)).mono s1)
  rw [HLY.out] at O3
  rw [HLY.out]
  go_wp2_with fail
  refine (sameInts_c _ _ _ _ _ _ _ _ _ _ w3 (O2.row.below b3) O3.row s3 (Nat.le_refl _)).mono ?_
  rintro _ w4 ⟨rfl, b4⟩
  have s4 := b4.size
  have O4 := (O1.below b2 (Nat.le_refl _)).below (b3.trans (b4.mono s3)) (Nat.le_refl _)
  have R4 := (O2.below b3 (Nat.le_refl _)).below b4 (Nat.le_refl _)
  have b14 := b13.trans (b4.mono (by omega))
  go_wp2_with fail
  refine (ListValid_s_c _ _ _ _ _ w4 O4.row).mono ?_
  rintro _ w' ⟨rfl, rfl⟩
  obtain ⟨k, hkE, hk⟩ := mod_at m n1
  have hcap1 := O4.caps
  have hcap2 := R4.caps
  have hcm1 := hcap1.2
  have hcm2 := hcap2.2
  unfold maxLen at hcm1 hcm2
  have hI1 : (k : Int) ≤ (c1 : Int) := by omega
  have hI2 : (k : Int) ≤ (c2 : Int) := by omega
  have hI0 : (0 : Int) ≤ (k : Int) := by omega
  have k5 := fun w5 h1 h2 => FrontOf_c A1 k c1 w4.heap.size (xs.take k) w5 h1 h2
  rw [frontF_yes (listV_take hv k), frontL_take, HY.out] at k5
  have hp1 := O4.row.pre (k := k) hk
  have hp2 := R4.row.pre (k := k) hk
  obtain ⟨Z, hZ⟩ : ∃ Z, Y.take k = Z := ⟨_, rfl⟩
  rw [hZ] at k5 hp2
  have hZl : Z.length = k := by rw [← hZ, List.length_take, HLY.out]; omega
  have HZL := hid hZl
  have hZZ : (Z == Z) = true := beq_self_eq_true _
  clear hZ hZl
  go_wp2_with fail
  go_region_with (first | (go_at_call 16; refine (k5 _ hp1.drew (Nat.le_refl _)).mono ?_; rintro _ w5 ⟨A5, c5, rfl, O5, b5⟩) | (go_at_call 18; refine (sameInts_c _ _ _ _ _ _ _ _ _ _ _ O5.row (hp2.drew.below b5) (Nat.le_refl _) b5.size).mono ?_; rintro _ w6 ⟨rfl, b6⟩))
  all_goals
    have hfin := b14.trans (((below_drewN (Below.refl w4.heap.size w4) 1).trans (b5.trans (b6.mono b5.size))).mono (by omega : w.heap.size ≤ w4.heap.size))
    go_wp2
    go_ret
    exact ⟨rfl, hfin⟩
end Go.Proofs.Ytibccpmooialiaa
