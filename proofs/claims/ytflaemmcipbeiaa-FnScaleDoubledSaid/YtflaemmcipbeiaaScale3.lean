/- The contract of the reference's CountsScale. No condition. -/
import Derived.Test.YtflaemmcipbeiaaScale
import Derived.Deep.LoopGhost
import Derived.Deep.RegionWith
import Derived.IntWalk
namespace Go.Proofs.Ytflaemmcipbeiaa
open Go.RowKit
set_option linter.unusedVariables false

set_option maxHeartbeats 3200000 in
theorem CountsScale_s_c (A : Option Addr) (n c B : Nat) (xs : List Int) (w : World) (h : Row w B A n c xs) (hB : B ≤ w.heap.size) : Calls Try.prog 10 #[.slice A n c] w (PSlB w (scF xs)) := by
  have hsm := h.small
  by_cases hc : countsV xs = true
  case neg =>
    rw [Bool.not_eq_true] at hc
    rw [scF_no (by rw [scB, hc]; rfl)]
    go_enter Try.func10, Try.ntmps10
    go_wp2_with fail
    refine (CountsValid_s_c _ _ _ _ _ _ h).mono ?_
    rintro e w' ⟨rfl, rfl⟩
    go_wp2
    go_ret2
    exact PSlB.mk rfl (Own.lit w [] (m := 0) rfl (by omega) (Nat.le_refl _)) ((Below.refl _ _).alloc (Nat.le_refl _) _)
  obtain ⟨h8, hv⟩ := countsV_iff.1 hc
  obtain rfl : n = 8 := by rw [← h.len]; exact h8
  have hvm := everyB_mono hv (Int.le_refl 0) (by omega : (999 : Int) ≤ 1000)
  have ht := l3Sum_c A 8 c B xs w h hvm (by omega)
  have hsr := sumL_range (k := 999) (by omega) hv
  rw [h8] at hsr
  by_cases hz : sumL xs = 0
  · rw [scF_no (by rw [scB, hc, hz]; rfl)]
    rw [hz] at ht
    clear hz hsr h8
    go_enter Try.func10, Try.ntmps10
    go_wp2_with fail
    refine (CountsValid_s_c _ _ _ _ _ _ h).mono ?_
    rintro e w' ⟨rfl, rfl⟩
    go_wp2_with fail
    refine ht.mono ?_
    rintro e w' ⟨rfl, rfl⟩
    go_wp2
    go_ret2
    exact PSlB.mk rfl (Own.lit w [] (m := 0) rfl (by omega) (Nat.le_refl _)) ((Below.refl _ _).alloc (Nat.le_refl _) _)
  have hsB : scB xs = true := scB_iff.2 ⟨h8, hv, hz⟩
  have hpos : 0 < sumL xs := by omega
  obtain ⟨S, hS⟩ : ∃ S, scale1 (sumL xs) xs = S := ⟨_, rfl⟩
  have hS8 : S.length = 8 := by rw [← hS, scale1_len, h8]
  have hSF : Fits S S := by rw [← hS]; exact scale1_fits hpos hv
  have hSr : everyB 0 32 S = true := by rw [← hS]; exact scale1_range hsB
  have hout : scF xs = ((shrF S).set (gr xs) ((shrF S).getD (gr xs) 0 + (32 - sumL (shrF S))), true) := by rw [scF_yes hsB, scL, hS]
  obtain ⟨hg, hg8, -⟩ := gr_pos (L := xs) h8
  have hgl := gr_lt (xs := xs) (by omega)
  rw [h8] at hgl
  obtain ⟨s, hs⟩ : ∃ s, sumL xs = s := ⟨_, rfl⟩
  rw [hs] at ht hpos hS hsr
  have HS := hid hS
  have HO := hid hout
  have HS8 := hid hS8
  have HSr := hid hSr
  have hsb : (s == 0) = false := by simp; omega
  clear hz hs hout hS8 hSr h8 hS hsB hg8 hg
  go_enter Try.func10, Try.ntmps10
  go_wp2_with fail
  refine (CountsValid_s_c _ _ _ _ _ _ h).mono ?_
  rintro e w' ⟨rfl, rfl⟩
  go_wp2_with fail
  refine ht.mono ?_
  rintro e w' ⟨rfl, rfl⟩
  go_wp2_with fail
  refine ht.mono ?_
  rintro e w' ⟨rfl, rfl⟩
  clear ht
  obtain ⟨i0, hi, hz0, hz1, hz2⟩ := info_parts int_info
  go_wp2_with (at_make; refine wpList_make_full _ rfl _ _ 23 rfl w.heap.size 3 i0 (.int .i64 0) 1 Try.underlying23 hi hz0 hz1 .i64 .i64 _ _ 8 rfl rfl rfl rfl (by rw [hz2]; omega) (by unfold maxLen; omega) (Nat.le_refl _) ?_; intro w0 hown0 hgrow0)
  have ho0 := Own.made hown0 (by omega)
  clear hown0 hz2 hz1 hz0 hi
  have hb0 : Below w.heap.size w w0 := (Below.refl _ _).grown hgrow0 (Nat.le_refl _) (fun k hk => by cases hk)
  clear hgrow0
  go_loopw [6] (fun i wr => ∃ k : Nat, k ≤ 8 ∧ i = .int .i64 (k : Int) ∧ Own wr w.heap.size (some ⟨w.heap.size, 0, none⟩) 8 8 (S.take k ++ List.replicate (8 - k) 0) ∧ Below w.heap.size w wr) (fun i _ => 8 - (intOf i).toNat)
  case atStart => exact ⟨0, by omega, rfl, ho0, hb0⟩
  case round =>
    obtain ⟨k, hk, rfl, hown, hbel⟩ := hrel
    have hsz := hbel.size
    by_cases hlt : k < 8
    · obtain ⟨b, off, x, rfl, hb, hcx, hx, hd⟩ := (h.below (hbel.mono hB)).step hlt
      have hxb := everyB_get hv hx
      have hq0 : 0 ≤ x * 32 / s := Int.ediv_nonneg (by omega) (by omega)
      have hq1 : x * 32 / s ≤ 32000 := Int.le_trans (Int.ediv_le_self _ (by omega)) (by omega)
      have hSx : S[k]? = some (if 0 < x then max (x * 32 / s) 1 else x * 32 / s) := by rw [← HS.out]; exact scale1_get hx
      have hcl := hown.cellAt (fill_at HS8.out hlt)
      have hfl := hown.frozenAt k
      have hkI : (k : Int) < 8 := by omega
      have hne : ¬ b = w.heap.size := by omega
      clear hd hx
      by_cases hm : 0 < x ∧ x * 32 / s = 0
      · obtain ⟨hx0, hm0⟩ := hm
        rw [show (if 0 < x then max (x * 32 / s) 1 else x * 32 / s) = 1 by rw [if_pos hx0]; omega] at hSx
        have h2 := (hown.stored k 0).stored k 1
        rw [List.set_set, fill_set HS8.out hlt hSx] at h2
        have H2 := hid h2
        clear hSx h2
        go_wp2
        go_roundw
        case rel => exact ⟨k + 1, by omega, by go_num, H2.out, (hbel.setCell (p := ⟨w.heap.size, k, none⟩) (Nat.le_refl _) _).setCell (p := ⟨w.heap.size, k, none⟩) (Nat.le_refl _) _⟩
        case measure => simp [intOf]; omega
      · rw [show (if 0 < x then max (x * 32 / s) 1 else x * 32 / s) = x * 32 / s by split <;> omega] at hSx
        have h2 := hown.stored k (x * 32 / s)
        rw [fill_set HS8.out hlt hSx] at h2
        have H2 := hid h2
        clear hSx h2
        by_cases hx0 : 0 < x
        · have hmb : (x * 32 / s == 0) = false := by simp; omega
          go_wp2
          go_roundw
          case rel => exact ⟨k + 1, by omega, by go_num, H2.out, hbel.setCell (p := ⟨w.heap.size, k, none⟩) (Nat.le_refl _) _⟩
          case measure => simp [intOf]; omega
        · go_wp2
          go_roundw
          case rel => exact ⟨k + 1, by omega, by go_num, H2.out, hbel.setCell (p := ⟨w.heap.size, k, none⟩) (Nat.le_refl _) _⟩
          case measure => simp [intOf]; omega
    · obtain rfl : k = 8 := by omega
      rw [fill_end HS8.out] at hown
      go_wp2_with fail
      go_loopg [] (sumL S - 32).toNat (fun j wx => ∃ L, j = (sumL L - 32).toNat ∧ Own wx w.heap.size (some ⟨w.heap.size, 0, none⟩) 8 8 L ∧ Fits S L ∧ shrF S = shrF L ∧ Below w.heap.size w wx)
      case atStart => exact ⟨S, rfl, hown, hSF, rfl, hbel⟩
      case round =>
        obtain ⟨L, rfl, hownL, hF, hE, hbL⟩ := hrel
        have HE := hid hE
        clear hE
        have hL8 : L.length = 8 := hF.1.trans HS8.out
        have hLr := fits_range hF HSr.out
        have hLm := everyB_mono hLr (Int.le_refl 0) (by omega : (32 : Int) ≤ 1000)
        have hsL := sumL_range (k := 32) (by omega) hLr
        rw [hL8] at hsL
        have hown0 := hownL
        have htot := l3Sum_c (some ⟨w.heap.size, 0, none⟩) 8 8 _ L _ hownL.row hLm (by omega)
        have hgr := l3Most_c (some ⟨w.heap.size, 0, none⟩) 8 8 _ L _ hownL.row (by omega)
        by_cases h32 : 32 < sumL L
        · obtain ⟨u, hu, hg8, hD⟩ := gr_pos hL8
          have hub := everyB_get hLr hu
          have hcu := hownL.cellAt hu
          have hfu := hownL.frozenAt (gr L)
          have hg8I : ((gr L : Nat) : Int) < 8 := by omega
          have HN := hid (show Fits S (decG L) ∧ shrF S = shrF (decG L) ∧ (sumL (decG L) - 32).toNat < (sumL L - 32).toNat from
            ⟨hF.dec HS8.out h32, by rw [HE.out]; exact shrF_up h32 (by omega), by rw [decG_sum (by omega)]; omega⟩)
          have hst := hownL.stored (gr L) (u - 1)
          rw [← hD] at hst
          have HST := hid hst
          clear hst hD hu hF hL8
          go_wp2_with fail
          refine htot.mono ?_
          rintro e w' ⟨rfl, rfl⟩
          go_wp2_with fail
          refine hgr.mono ?_
          rintro e w' ⟨rfl, q, rfl⟩
          clear htot hgr
          go_wp2
          go_roundg (sumL (decG L) - 32).toNat
          case rel => exact ⟨decG L, rfl, HST.out.drewN q, HN.out.1, HN.out.2.1, below_drewN (hbL.setCell (p := ⟨w.heap.size, gr L, none⟩) (Nat.le_refl _) _) q⟩
          case measure => exact HN.out.2.2
        · obtain ⟨u, hu⟩ : ∃ u, L[gr xs]? = some u := ⟨_, List.getElem?_eq_getElem (by omega)⟩
          have hub := everyB_get hLr hu
          have hcu := hownL.cellAt hu
          have hfu := hownL.frozenAt (gr xs)
          have hgI : ((gr xs : Nat) : Int) < 8 := by omega
          have HF := hid (show scF xs = (L.set (gr xs) (u + (32 - sumL L)), true) by
            rw [HO.out, show shrF S = L by rw [HE.out, shrF_no h32]]; simp [List.getD, hu])
          have hst := hownL.stored (gr xs) (u + (32 - sumL L))
          have HST := hid hst
          have hrx := h.below (hbL.mono hB)
          have htL := hownL.row
          have hL8' : (L.set (gr xs) (u + (32 - sumL L))).length = 8 := by rw [List.length_set, hL8]
          have HL8 := hid hL8'
          have HW := hid (show u + (32 - sumL L) = u + 32 - sumL L by omega)
          rw [HW.out] at hst
          rw [HW.out] at hL8'
          have HST := hid hst
          have HL8 := hid hL8'
          clear hst hu hF hL8 hL8' hgr
          go_wp2_with fail
          refine htot.mono ?_
          rintro e w' ⟨rfl, rfl⟩
          clear htot
          go_wp2_with fail
          refine (l3Most_c A 8 c _ xs _ hrx (by omega)).mono ?_
          rintro e w' ⟨rfl, q, rfl⟩
          go_wp2_with fail
          have w1 : IntKind.i64.wrap (u + 32) = u + 32 := IntWalk.i64_in _ (by omega)
          have w2 : IntKind.i64.wrap (u + 32 - sumL L) = u + 32 - sumL L := IntWalk.i64_in _ (by omega)
          go_region_with (go_at_call 23; refine (l3Sum_c (some ⟨w.heap.size, 0, none⟩) 8 8 _ L _ (htL.drewN _) hLm (by omega)).mono ?_; rintro e w' ⟨rfl, rfl⟩)
          all_goals
            clear w1 w2
            go_wp2
            go_ret2
            rw [HF.out, HW.out]
            exact PSlB.mk HL8.out (HST.out.drewN (q + 1)) (below_drewN (hbL.setCell (p := ⟨w.heap.size, gr xs, none⟩) (Nat.le_refl _) _) (q + 1))
end Go.Proofs.Ytflaemmcipbeiaa
