/- The walks of the laws on counts and starts. No condition. -/
import Derived.Test.YtnngacajoemdeaaCounts2
import Derived.Test.YtnngacajoemdeaaDrawC
import Derived.Test.YtnngacajoemdeaaDrawL
namespace Go.Proofs.Ytnngacajoemdeaa
open Go.RowKit

set_option maxHeartbeats 3200000 in
theorem FnCounts_walk (A : Option Addr) (n c : Nat) (w : World) (h : BRow w w.heap.size A n c) : Calls Try.prog 13 #[.slice A n c] w (PTrue w) := by
  by_cases hn : 1048576 < n
  · go_enter Try.func13, Try.ntmps13
    go_wp2
    go_ret
    exact ⟨rfl, Below.refl _ _⟩
  go_enter Try.func13, Try.ntmps13
  go_wp2_with fail
  refine (DrawCountsOf_s_c A n c _ w h (Nat.le_refl _)).mono ?_
  rintro e w1 ⟨A1, n1, c1, xs, rfl, hown, hn1, hb1⟩
  have hrow := hown.row
  have hs1 := hb1.size
  rcases hv : listV xs with _ | _
  · have e0 := countsF_no hv
    have hf := CountsOf_c A1 _ c1 _ xs w1 hrow (Nat.le_refl _)
    rw [e0] at hf
    go_wp2_with fail
    refine hf.mono ?_
    rintro e w2 ⟨A2, c2, rfl, hown2, hb2⟩
    have hs2 := hb2.size
    have hf := CountsOf_s_c A1 _ c1 _ xs w2 (hrow.below hb2) hs2
    rw [e0] at hf
    go_wp2_with fail
    refine hf.mono ?_
    rintro e w3 ⟨A3, c3, rfl, hown3, hb3⟩
    have hs3 := hb3.size
    go_wp2_with fail
    refine (sameInts_c _ _ _ _ _ _ _ _ _ _ w3 (hown2.row.below hb3) hown3.row hs3 (Nat.le_refl _)).mono ?_
    rintro e w4 ⟨rfl, hb4⟩
    have hs4 := hb4.size
    go_wp2_with fail
    refine (sameInts_c _ _ _ _ _ _ _ _ _ _ w4 ((hown2.row.below hb3).below (hb4.mono hs3)) (hown3.row.below hb4) (Nat.le_trans hs3 hs4) hs4).mono ?_
    rintro e w5 ⟨rfl, hb5⟩
    have hfin := ((((hb1.trans (hb2.mono hs1)).trans (hb3.mono (by omega))).trans (hb4.mono (by omega))).trans (hb5.mono (by omega)))
    go_wp2
    go_ret
    exact ⟨rfl, hfin⟩
  obtain ⟨-, hl8, hcv, hev, hsum⟩ := countsF_yes hv
  rw [hown.len] at hsum
  obtain ⟨r, hR⟩ : ∃ r, r = countsF xs := ⟨_, rfl⟩
  have HR := hid hR
  have hlen : r.length = 8 := by rw [hR]; exact hl8
  clear hR
  have hrr : (r == r) = true := beq_self_eq_true _
  have hf := CountsOf_c A1 _ c1 _ xs w1 hrow (Nat.le_refl _)
  rw [← HR.out] at hf
  go_wp2_with fail
  refine hf.mono ?_
  rintro e w2 ⟨A2, c2, rfl, hown2, hb2⟩
  rw [hlen] at hown2
  rw [hlen]
  have hs2 := hb2.size
  have hf := CountsOf_s_c A1 _ c1 _ xs w2 (hrow.below hb2) hs2
  rw [← HR.out] at hf
  go_wp2_with fail
  refine hf.mono ?_
  rintro e w3 ⟨A3, c3, rfl, hown3, hb3⟩
  rw [hlen] at hown3
  rw [hlen]
  clear hf
  have hs3 := hb3.size
  go_wp2_with fail
  refine (sameInts_c _ _ _ _ _ _ _ _ _ _ w3 (hown2.row.below hb3) hown3.row hs3 (Nat.le_refl _)).mono ?_
  rintro e w4 ⟨rfl, hb4⟩
  have hs4 := hb4.size
  have hrow4 := ((hrow.below hb2).below (hb3.mono hs2)).below (hb4.mono (by omega))
  have hown4 := (hown2.below hb3 (Nat.le_refl _)).below hb4 (Nat.le_refl _)
  have hb14 := (((hb1.trans (hb2.mono hs1)).trans (hb3.mono (by omega))).trans (hb4.mono (by omega)))
  rw [← HR.out] at hcv hev hsum
  have hcc := CountsValid_c A2 8 c2 _ r w4 hown4.row
  have hss := sumOf_c A2 8 c2 _ r w4 hown4.row hev (by omega)
  rw [hcv] at hcc
  rw [hsum] at hss
  clear hcv hev hsum
  go_wp2_with fail
  refine hcc.mono ?_
  rintro e w' ⟨rfl, rfl⟩
  go_wp2_with fail
  refine hss.mono ?_
  rintro e w' ⟨rfl, rfl⟩
  clear hcc hss
  go_wp2
  go_ret
  exact ⟨rfl, hb14⟩

set_option maxHeartbeats 3200000 in
theorem FnStarts_walk (A : Option Addr) (n c : Nat) (w : World) (h : BRow w w.heap.size A n c) : Calls Try.prog 10 #[.slice A n c] w (PTrue w) := by
  by_cases hn : 1048576 < n
  · go_enter Try.func10, Try.ntmps10
    go_wp2
    go_ret
    exact ⟨rfl, Below.refl _ _⟩
  go_enter Try.func10, Try.ntmps10
  go_wp2_with fail
  refine (DrawCountsStarts_s_c A n c _ w h (Nat.le_refl _)).mono ?_
  rintro e w1 ⟨A1, n1, c1, xs, rfl, hown, hn1, hb1⟩
  have hrow := hown.row
  have hs1 := hb1.size
  rcases hv : countsV xs with _ | _
  · have e0 := startsF_no hv
    have hf := CountsStarts_c A1 _ c1 _ xs w1 hrow (Nat.le_refl _)
    rw [e0] at hf
    go_wp2_with fail
    refine hf.mono ?_
    rintro e w2 ⟨A2, c2, rfl, hown2, hb2⟩
    have hs2 := hb2.size
    have hf := CountsStarts_s_c A1 _ c1 _ xs w2 (hrow.below hb2) hs2
    rw [e0] at hf
    go_wp2_with fail
    refine hf.mono ?_
    rintro e w3 ⟨A3, c3, rfl, hown3, hb3⟩
    have hs3 := hb3.size
    go_wp2_with fail
    refine (sameInts_c _ _ _ _ _ _ _ _ _ _ w3 (hown2.row.below hb3) hown3.row hs3 (Nat.le_refl _)).mono ?_
    rintro e w4 ⟨rfl, hb4⟩
    have hs4 := hb4.size
    go_wp2_with fail
    refine (sameInts_c _ _ _ _ _ _ _ _ _ _ w4 ((hown2.row.below hb3).below (hb4.mono hs3)) (hown3.row.below hb4) (Nat.le_trans hs3 hs4) hs4).mono ?_
    rintro e w5 ⟨rfl, hb5⟩
    have hfin := ((((hb1.trans (hb2.mono hs1)).trans (hb3.mono (by omega))).trans (hb4.mono (by omega))).trans (hb5.mono (by omega)))
    go_wp2
    go_ret
    exact ⟨rfl, hfin⟩
  obtain ⟨hst, hl8⟩ := startsF_yes hv
  have HV := hid (countsV_iff.1 hv)
  obtain rfl : n1 = 8 := by rw [← hown.len]; exact HV.out.1
  have HG := hid (show ∀ i, i < 8 → (startsF xs)[i]? = some (0 + sumL (xs.take i)) from fun i hi => by rw [hst]; exact startsL_get xs 0 i (by rw [HV.out.1]; exact hi))
  clear hst
  obtain ⟨r, hR⟩ : ∃ r, r = startsF xs := ⟨_, rfl⟩
  have HR := hid hR
  have hlen : r.length = 8 := by rw [hR]; exact hl8
  clear hR
  have hrr : (r == r) = true := beq_self_eq_true _
  have hf := CountsStarts_c A1 _ c1 _ xs w1 hrow (Nat.le_refl _)
  rw [← HR.out] at hf
  go_wp2_with fail
  refine hf.mono ?_
  rintro e w2 ⟨A2, c2, rfl, hown2, hb2⟩
  rw [hlen] at hown2
  rw [hlen]
  have hs2 := hb2.size
  have hf := CountsStarts_s_c A1 _ c1 _ xs w2 (hrow.below hb2) hs2
  rw [← HR.out] at hf
  go_wp2_with fail
  refine hf.mono ?_
  rintro e w3 ⟨A3, c3, rfl, hown3, hb3⟩
  rw [hlen] at hown3
  rw [hlen]
  clear hf
  have hs3 := hb3.size
  go_wp2_with fail
  refine (sameInts_c _ _ _ _ _ _ _ _ _ _ w3 (hown2.row.below hb3) hown3.row hs3 (Nat.le_refl _)).mono ?_
  rintro e w4 ⟨rfl, hb4⟩
  have hs4 := hb4.size
  have hrow4 := ((hrow.below hb2).below (hb3.mono hs2)).below (hb4.mono (by omega))
  have hown4 := (hown2.below hb3 (Nat.le_refl _)).below hb4 (Nat.le_refl _)
  have hb14 := (((hb1.trans (hb2.mono hs1)).trans (hb3.mono (by omega))).trans (hb4.mono (by omega)))
  clear hv
  go_wp2_with fail
  go_loopw [6] (fun i wr => ∃ k : Nat, 1 ≤ k ∧ k ≤ 8 ∧ i = .int .i64 k ∧ Below w4.heap.size w4 wr) (fun i _ => 8 - (intOf i).toNat)
  case atStart => exact ⟨1, by omega, by omega, rfl, Below.refl _ _⟩
  case round =>
    obtain ⟨k, hk1, hk, rfl, hbel⟩ := hrel
    obtain ⟨g1, off1, hA1, hg1, hcell1⟩ := (hrow4.below (hbel.mono (by omega))).at_ (by omega)
    obtain ⟨g2, off2, hA2, hg2, hcell2⟩ := (hown4.row.below hbel).at_ (by omega)
    subst hA1; subst hA2
    by_cases hlt : k < 8
    · obtain ⟨j, rfl⟩ : ∃ j, k = j + 1 := ⟨k - 1, by omega⟩
      obtain ⟨x, hx, -⟩ := drop_cons (xs := xs) (k := j) (by rw [HV.out.1]; omega)
      have ha := hcell2 _ _ (show r[j]? = some (0 + sumL (xs.take j)) by rw [HR.out]; exact HG.out j (by omega))
      have hb := hcell2 _ _ (show r[j + 1]? = some (0 + sumL (xs.take (j + 1))) by rw [HR.out]; exact HG.out (j + 1) (by omega))
      have hc := hcell1 _ _ hx
      have hxb := everyB_get HV.out.2 hx
      have hsr := sumL_range (k := 999) (by omega) (everyB_take HV.out.2 j)
      have hlj : ((xs.take j).length : Int) ≤ 8 := by rw [List.length_take, HV.out.1]; omega
      rw [sumL_take_succ hx] at hb
      generalize sumL (xs.take j) = S at *
      have hs0 : 0 ≤ S ∧ S ≤ 8000 := by omega
      rw [Int.zero_add] at ha hb
      clear hsr hlj hcell1 hcell2 hx
      have hne : (S + x != S + x) = false := by simp
      have hj0 : (0 : Int) ≤ (j : Int) := by omega
      have hj8 : (j : Int) + 1 < 8 := by omega
      have hj7 : (j : Int) < 8 := by omega
      go_wp2
      go_quiet (fail)
      go_wp2
      go_roundw
      case rel => exact ⟨j + 1 + 1, by omega, by omega, by go_num, below_drewN hbel _⟩
      case measure => simp [intOf]; omega
    · obtain rfl : k = 8 := by omega
      have ha := hcell2 0 _ (show r[0]? = some (0 + sumL (xs.take 0)) by rw [HR.out]; exact HG.out 0 (by omega))
      have ha' : wr.cell? ⟨g2, off2, none⟩ = some (.int .i64 0) := ha
      clear hcell1 hcell2 ha
      go_wp2
      go_ret
      exact ⟨rfl, hb14.trans (hbel.mono (by omega))⟩

set_option maxHeartbeats 3200000 in
theorem FnStartsEnd_walk (A : Option Addr) (n c : Nat) (w : World) (h : BRow w w.heap.size A n c) : Calls Try.prog 11 #[.slice A n c] w (PTrue w) := by
  by_cases hn : 1048576 < n
  · go_enter Try.func11, Try.ntmps11
    go_wp2
    go_ret
    exact ⟨rfl, Below.refl _ _⟩
  go_enter Try.func11, Try.ntmps11
  go_wp2_with fail
  refine (DrawCountsStarts_s_c A n c _ w h (Nat.le_refl _)).mono ?_
  rintro e w1 ⟨A1, n1, c1, xs, rfl, hown, hn1, hb1⟩
  have hrow := hown.row
  have hs1 := hb1.size
  rcases hv : countsV xs with _ | _
  · have e0 := startsF_no hv
    have hf := CountsStarts_c A1 _ c1 _ xs w1 hrow (Nat.le_refl _)
    rw [e0] at hf
    go_wp2_with fail
    refine hf.mono ?_
    rintro e w2 ⟨A2, c2, rfl, hown2, hb2⟩
    have hs2 := hb2.size
    have hf := CountsStarts_s_c A1 _ c1 _ xs w2 (hrow.below hb2) hs2
    rw [e0] at hf
    go_wp2_with fail
    refine hf.mono ?_
    rintro e w3 ⟨A3, c3, rfl, hown3, hb3⟩
    have hs3 := hb3.size
    go_wp2_with fail
    refine (sameInts_c _ _ _ _ _ _ _ _ _ _ w3 (hown2.row.below hb3) hown3.row hs3 (Nat.le_refl _)).mono ?_
    rintro e w4 ⟨rfl, hb4⟩
    have hs4 := hb4.size
    go_wp2_with fail
    refine (sameInts_c _ _ _ _ _ _ _ _ _ _ w4 ((hown2.row.below hb3).below (hb4.mono hs3)) (hown3.row.below hb4) (Nat.le_trans hs3 hs4) hs4).mono ?_
    rintro e w5 ⟨rfl, hb5⟩
    have hfin := ((((hb1.trans (hb2.mono hs1)).trans (hb3.mono (by omega))).trans (hb4.mono (by omega))).trans (hb5.mono (by omega)))
    go_wp2
    go_ret
    exact ⟨rfl, hfin⟩
  obtain ⟨hst, hl8⟩ := startsF_yes hv
  have HV := hid (countsV_iff.1 hv)
  obtain rfl : n1 = 8 := by rw [← hown.len]; exact HV.out.1
  have HG := hid (show (startsF xs)[7]? = some (0 + sumL (xs.take 7)) by rw [hst]; exact startsL_get xs 0 7 (by rw [HV.out.1]; omega))
  clear hst
  obtain ⟨r, hR⟩ : ∃ r, r = startsF xs := ⟨_, rfl⟩
  have HR := hid hR
  have hlen : r.length = 8 := by rw [hR]; exact hl8
  clear hR
  have hrr : (r == r) = true := beq_self_eq_true _
  have hf := CountsStarts_c A1 _ c1 _ xs w1 hrow (Nat.le_refl _)
  rw [← HR.out] at hf
  go_wp2_with fail
  refine hf.mono ?_
  rintro e w2 ⟨A2, c2, rfl, hown2, hb2⟩
  rw [hlen] at hown2
  rw [hlen]
  have hs2 := hb2.size
  have hf := CountsStarts_s_c A1 _ c1 _ xs w2 (hrow.below hb2) hs2
  rw [← HR.out] at hf
  go_wp2_with fail
  refine hf.mono ?_
  rintro e w3 ⟨A3, c3, rfl, hown3, hb3⟩
  rw [hlen] at hown3
  rw [hlen]
  clear hf
  have hs3 := hb3.size
  go_wp2_with fail
  refine (sameInts_c _ _ _ _ _ _ _ _ _ _ w3 (hown2.row.below hb3) hown3.row hs3 (Nat.le_refl _)).mono ?_
  rintro e w4 ⟨rfl, hb4⟩
  have hs4 := hb4.size
  have hrow4 := ((hrow.below hb2).below (hb3.mono hs2)).below (hb4.mono (by omega))
  have hown4 := (hown2.below hb3 (Nat.le_refl _)).below hb4 (Nat.le_refl _)
  have hb14 := (((hb1.trans (hb2.mono hs1)).trans (hb3.mono (by omega))).trans (hb4.mono (by omega)))
  clear hv
  obtain ⟨g1, off1, hA1, hg1, hcell1⟩ := hrow4.at_ (by omega)
  obtain ⟨g2, off2, hA2, hg2, hcell2⟩ := hown4.row.at_ (by omega)
  subst hA1; subst hA2
  obtain ⟨x, hx, -⟩ := drop_cons (xs := xs) (k := 7) (by rw [HV.out.1]; omega)
  have ha := hcell2 7 _ (show r[7]? = some (0 + sumL (xs.take 7)) by rw [HR.out]; exact HG.out)
  have hc := hcell1 7 _ hx
  have hxb := everyB_get HV.out.2 hx
  have hsr := sumL_range (k := 999) (by omega) (everyB_take HV.out.2 7)
  have hlj : ((xs.take 7).length : Int) ≤ 8 := by rw [List.length_take, HV.out.1]; omega
  have hss := fun q => (sumOf_c _ 8 c1 _ xs (w4.drewN q) (hrow4.drewN q) (everyB_mono HV.out.2 (by omega) (by omega)) (by omega)).mono fun e w' ⟨a, b⟩ => (⟨a, b.symm⟩ : e = Ending.returned (.int .i64 (sumL xs)) ∧ w' = w4.drewN q)
  have e8 : sumL xs = sumL (xs.take 7) + x := by
    have := sumL_take_succ hx
    rwa [List.take_of_length_le (by rw [HV.out.1]; omega)] at this
  simp only [e8] at hss
  generalize sumL (xs.take 7) = S at *
  have hs0 : 0 ≤ S ∧ S ≤ 8000 := by omega
  rw [Int.zero_add] at ha
  clear hsr hlj hcell1 hcell2 hx e8
  have hee : (S + x == S + x) = true := beq_self_eq_true _
  have hwr : IntKind.i64.wrap (S + x) = S + x := IntWalk.i64_in _ (by omega)
  go_wp2
  go_quiet ((go_at_call 30; exact Calls.quiet_of_same (hss _)))
  go_wp2
  go_ret
  exact ⟨rfl, below_drewN hb14 _⟩

set_option maxHeartbeats 3200000 in
theorem FnCountsJoin_walk (A : Option Addr) (n c : Nat) (D : Option Addr) (m d : Nat) (w : World) (h : BRow w w.heap.size A n c) (_ : BRow w w.heap.size D m d) : Calls Try.prog 12 #[.slice A n c, .slice D m d] w (PTrue w) := by
  by_cases hn : 1048576 < n
  · go_enter Try.func12, Try.ntmps12
    go_wp2
    go_ret
    exact ⟨rfl, Below.refl _ _⟩
  by_cases hm : 1048576 < m
  · go_enter Try.func12, Try.ntmps12
    go_wp2
    go_ret
    exact ⟨rfl, Below.refl _ _⟩
  go_enter Try.func12, Try.ntmps12
  go_wp2_with fail
  refine (DrawCountsOf_s_c A n c _ w h (Nat.le_refl _)).mono ?_
  rintro e w1 ⟨A1, n1, c1, xs, rfl, hown, hn1, hb1⟩
  have hrow := hown.row
  have hs1 := hb1.size
  rcases hv : listV xs with _ | _
  · have e0 := countsF_no hv
    have hf := CountsOf_c A1 _ c1 _ xs w1 hrow (Nat.le_refl _)
    rw [e0] at hf
    go_wp2_with fail
    refine hf.mono ?_
    rintro e w2 ⟨A2, c2, rfl, hown2, hb2⟩
    have hs2 := hb2.size
    have hf := CountsOf_s_c A1 _ c1 _ xs w2 (hrow.below hb2) hs2
    rw [e0] at hf
    go_wp2_with fail
    refine hf.mono ?_
    rintro e w3 ⟨A3, c3, rfl, hown3, hb3⟩
    have hs3 := hb3.size
    go_wp2_with fail
    refine (sameInts_c _ _ _ _ _ _ _ _ _ _ w3 (hown2.row.below hb3) hown3.row hs3 (Nat.le_refl _)).mono ?_
    rintro e w4 ⟨rfl, hb4⟩
    have hs4 := hb4.size
    go_wp2_with fail
    refine (sameInts_c _ _ _ _ _ _ _ _ _ _ w4 ((hown2.row.below hb3).below (hb4.mono hs3)) (hown3.row.below hb4) (Nat.le_trans hs3 hs4) hs4).mono ?_
    rintro e w5 ⟨rfl, hb5⟩
    have hfin := ((((hb1.trans (hb2.mono hs1)).trans (hb3.mono (by omega))).trans (hb4.mono (by omega))).trans (hb5.mono (by omega)))
    go_wp2
    go_ret
    exact ⟨rfl, hfin⟩
  obtain ⟨-, hl8, -⟩ := countsF_yes hv
  obtain ⟨r, hR⟩ : ∃ r, r = countsF xs := ⟨_, rfl⟩
  have HR := hid hR
  have hlen : r.length = 8 := by rw [hR]; exact hl8
  clear hR
  have hrr : (r == r) = true := beq_self_eq_true _
  have hf := CountsOf_c A1 _ c1 _ xs w1 hrow (Nat.le_refl _)
  rw [← HR.out] at hf
  go_wp2_with fail
  refine hf.mono ?_
  rintro e w2 ⟨A2, c2, rfl, hown2, hb2⟩
  rw [hlen] at hown2
  rw [hlen]
  have hs2 := hb2.size
  have hf := CountsOf_s_c A1 _ c1 _ xs w2 (hrow.below hb2) hs2
  rw [← HR.out] at hf
  go_wp2_with fail
  refine hf.mono ?_
  rintro e w3 ⟨A3, c3, rfl, hown3, hb3⟩
  rw [hlen] at hown3
  rw [hlen]
  clear hf
  have hs3 := hb3.size
  go_wp2_with fail
  refine (sameInts_c _ _ _ _ _ _ _ _ _ _ w3 (hown2.row.below hb3) hown3.row hs3 (Nat.le_refl _)).mono ?_
  rintro e w4 ⟨rfl, hb4⟩
  have hs4 := hb4.size
  have hrow4 := ((hrow.below hb2).below (hb3.mono hs2)).below (hb4.mono (by omega))
  have hown4 := (hown2.below hb3 (Nat.le_refl _)).below hb4 (Nat.le_refl _)
  have hb14 := (((hb1.trans (hb2.mono hs1)).trans (hb3.mono (by omega))).trans (hb4.mono (by omega)))
  have hcp := hrow.cap
  have hcm := hrow.capm
  unfold maxLen at hcm
  obtain ⟨k, hkE, hk⟩ := mod_at m n1
  have hvt := listV_take hv k
  have hvd := listV_drop hv k
  have hlt8 := (countsF_yes hvt).2.1
  have hld8 := (countsF_yes hvd).2.1
  have hp1 := CountsOf_c A1 k c1 _ _ w4 (hrow4.pre hk) (by omega)
  go_wp2_with fail
  refine hp1.mono ?_
  rintro e w5 ⟨A5, c5, rfl, hown5, hb5⟩
  rw [hlt8] at hown5
  rw [hlt8]
  have hs5 := hb5.size
  obtain ⟨D2, hE, hrow2⟩ := (hrow4.below (hb5.mono (by omega))).suf_at hk
  have hp2 := CountsOf_c D2 _ _ _ _ w5 hrow2 (by omega)
  go_wp2_with fail
  refine hp2.mono ?_
  rintro e w6 ⟨A6, c6, rfl, hown6, hb6⟩
  rw [hld8] at hown6
  rw [hld8]
  have hs6 := hb6.size
  have hownX := hown5.below hb6 (Nat.le_refl _)
  have hownO := (hown4.below hb5 (Nat.le_refl _)).below hb6 (Nat.le_refl _)
  have hb16 := (hb14.trans (hb5.mono (by omega))).trans (hb6.mono (by omega))
  have HV := hid hv
  have HT := hid hvt
  have HD := hid hvd
  clear hp1 hp2 hkE hE hlt8 hld8 hl8 hvt hvd hv hlen
  obtain ⟨gx, rfl, -⟩ := hownX.at_ (by omega)
  obtain ⟨gy, rfl, -⟩ := hown6.at_ (by omega)
  obtain ⟨go, rfl, -⟩ := hownO.at_ (by omega)
  go_wp2_with fail
  go_loopw [11] (fun i wr => ∃ j : Nat, j ≤ 8 ∧ i = .int .i64 j ∧ Below w6.heap.size w6 wr) (fun i _ => 8 - (intOf i).toNat)
  case atStart => exact ⟨0, by omega, rfl, Below.refl _ _⟩
  case round =>
    obtain ⟨j, hj, rfl, hbel⟩ := hrel
    by_cases hlt : j < 8
    · have ha := (hownO.below hbel (Nat.le_refl _)).cellAt (show r[j]? = some (cnt1 j xs) by rw [HR.out]; exact countsF_get HV.out hlt)
      have hb := (hownX.below hbel (Nat.le_refl _)).cellAt (countsF_get HT.out hlt)
      have hc := (hown6.below hbel (Nat.le_refl _)).cellAt (countsF_get HD.out hlt)
      have hsp : cnt1 j xs = cnt1 j (xs.take k) + cnt1 j (xs.drop k) := by rw [← cnt1_append, List.take_append_drop]
      rw [hsp] at ha
      have hb1' := cnt1_range j (xs.take k)
      have hb2' := cnt1_range j (xs.drop k)
      have hl1 : (xs.take k).length ≤ 1000 := by rw [List.length_take, hown.len]; omega
      have hl2 : (xs.drop k).length ≤ 1000 := by rw [List.length_drop, hown.len]; omega
      generalize cnt1 j (xs.take k) = X at *
      generalize cnt1 j (xs.drop k) = Y at *
      have hX : 0 ≤ X ∧ X ≤ 1000 := by omega
      have hY : 0 ≤ Y ∧ Y ≤ 1000 := by omega
      have hne : (X + Y != X + Y) = false := by simp
      have hj0 : (0 : Int) ≤ (j : Int) := by omega
      have hj8 : (j : Int) < 8 := by omega
      clear hsp hb1' hb2' hl1 hl2
      go_wp2
      go_quiet (fail)
      go_wp2
      go_roundw
      case rel => exact ⟨j + 1, by omega, by go_num, below_drewN hbel _⟩
      case measure => simp [intOf]; omega
    · obtain rfl : j = 8 := by omega
      go_wp2
      go_ret
      exact ⟨rfl, hb16.trans (hbel.mono (by omega))⟩

set_option maxHeartbeats 3200000 in
theorem FnCountsPart_walk (A : Option Addr) (n c : Nat) (D : Option Addr) (m d : Nat) (w : World) (h : BRow w w.heap.size A n c) (_ : BRow w w.heap.size D m d) : Calls Try.prog 6 #[.slice A n c, .slice D m d] w (PTrue w) := by
  by_cases hn : 1048576 < n
  · go_enter Try.func6, Try.ntmps6
    go_wp2
    go_ret
    exact ⟨rfl, Below.refl _ _⟩
  by_cases hm : 1048576 < m
  · go_enter Try.func6, Try.ntmps6
    go_wp2
    go_ret
    exact ⟨rfl, Below.refl _ _⟩
  go_enter Try.func6, Try.ntmps6
  go_wp2_with fail
  refine (DrawCountsValid_s_c A n c _ w h (Nat.le_refl _)).mono ?_
  rintro e w1 ⟨A1, n1, c1, xs, rfl, hown, hn1, hb1⟩
  have hrow := hown.row
  have hs1 := hb1.size
  rcases hv : countsV xs with _ | _
  · go_wp2_with fail
    refine (CountsValid_c A1 _ c1 _ xs w1 hrow).mono ?_
    rintro e w' ⟨rfl, rfl⟩
    go_wp2_with fail
    refine (CountsValid_s_c A1 _ c1 _ xs w1 hrow).mono ?_
    rintro e w' ⟨rfl, rfl⟩
    go_wp2
    go_ret
    exact ⟨rfl, hb1⟩
  go_wp2_with fail
  refine (CountsValid_c A1 _ c1 _ xs w1 hrow).mono ?_
  rintro e w' ⟨rfl, rfl⟩
  go_wp2_with fail
  refine (CountsValid_s_c A1 _ c1 _ xs w1 hrow).mono ?_
  rintro e w' ⟨rfl, rfl⟩
  have HV := hid (countsV_iff.1 hv)
  obtain rfl : n1 = 8 := by rw [← hown.len]; exact HV.out.1
  obtain ⟨k, hkE', hk⟩ := mod_lt m 8 (by omega)
  have hkE : (m : Int) % 8 = (k : Int) := hkE'
  have hcp := hrow.cap
  have hcm := hrow.capm
  unfold maxLen at hcm
  have hcI : (7 : Int) ≤ (c1 : Int) := by omega
  obtain ⟨g1, rfl, hg1b, hg1l⟩ := hown.at_ (by omega)
  have hlit : Own (w1.alloc (.cells #[] 3)) w1.heap.size (some ⟨w1.heap.size, 0, none⟩) 0 0 [] := Own.lit w1 [] rfl (by omega) (Nat.le_refl _)
  have hrow' := hrow.alloc (Nat.le_refl _) (.cells #[] 3)
  obtain ⟨x, hx, -⟩ := drop_cons (xs := xs) (k := k) (by rw [HV.out.1]; exact hk)
  have HX := hid hx
  have HC1 := hid (show countsV (xs.take 7) = false by rw [← Bool.not_eq_true, countsV_iff, List.length_take, HV.out.1]; omega)
  have HC2 := hid (show countsV (xs.set k (-1)) = false by
    rw [← Bool.not_eq_true, countsV_iff]
    rintro ⟨-, h2⟩
    have := everyB_get h2 (List.getElem?_set_self (by rw [HV.out.1]; exact hk))
    omega)
  clear hx hkE'
  go_wp2_with (at_builtin; refine wpList_join rfl _ _ rfl rfl hlit rfl hrow' (by omega) (by simp) ?_; intro A2 c2 w2 hown2 hg2 hb2; simp only [Nat.zero_add, List.nil_append] at hown2; obtain ⟨g, rfl, hgb, hgl⟩ := hown2.at_ (by omega); have hc2 := hown2.cellAt HX.out; have hf2 := hown2.frozenAt k)
  have hown3 := hown2.stored k (-1)
  have hb13 := ((Below.refl w1.heap.size w1).alloc (Nat.le_refl _) (.cells #[] 3)).trans (hb2.setCell (p := ⟨g, k, none⟩) hgb (.int .i64 (-1)))
  have hp1 := CountsValid_c _ 7 c1 _ _ _ ((hrow.below hb13).pre (k := 7) (by omega))
  rw [HC1.out] at hp1
  have hp2 := CountsValid_c _ 8 c2 _ _ _ hown3.row
  rw [HC2.out] at hp2
  refine hp1.mono ?_
  rintro e w' ⟨rfl, rfl⟩
  go_wp2_with fail
  refine hp2.mono ?_
  rintro e w' ⟨rfl, rfl⟩
  clear hp1 hp2
  have hfin := hb1.trans (hb13.mono hs1)
  go_wp2
  go_ret
  exact ⟨rfl, hfin⟩

end Go.Proofs.Ytnngacajoemdeaa
