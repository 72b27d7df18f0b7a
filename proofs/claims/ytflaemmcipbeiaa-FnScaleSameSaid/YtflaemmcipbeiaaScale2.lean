/- The contract of the program's CountsScale. No condition. -/
import Derived.Test.YtflaemmcipbeiaaScale
import Derived.Deep.LoopGhost
import Derived.Deep.RegionWith
import Derived.IntWalk
namespace Go.Proofs.Ytflaemmcipbeiaa
open Go.RowKit
set_option linter.unusedVariables false

set_option maxHeartbeats 3200000 in
theorem CountsScale_c (A : Option Addr) (n c B : Nat) (xs : List Int) (w : World) (h : Row w B A n c xs) (hB : B ≤ w.heap.size) : Calls Try.prog 9 #[.slice A n c] w (PSlB w (scF xs)) := by
  have hsm := h.small
  by_cases hc : countsV xs = true
  case neg =>
    rw [Bool.not_eq_true] at hc
    rw [scF_no (by rw [scB, hc]; rfl)]
    go_enter Try.func9, Try.ntmps9
    go_wp2_with fail
    refine (CountsValid_c _ _ _ _ _ _ h).mono ?_
    rintro e w' ⟨rfl, rfl⟩
    go_wp2
    go_ret2
    exact PSlB.mk rfl (Own.lit w [] (m := 0) rfl (by omega) (Nat.le_refl _)) ((Below.refl _ _).alloc (Nat.le_refl _) _)
  obtain ⟨h8, hv⟩ := countsV_iff.1 hc
  obtain rfl : n = 8 := by rw [← h.len]; exact h8
  have hvm := everyB_mono hv (Int.le_refl 0) (by omega : (999 : Int) ≤ 1000)
  have ht := total_c A 8 c B xs w h hvm (by omega)
  have hsr := sumL_range (k := 999) (by omega) hv
  rw [h8] at hsr
  by_cases hz : sumL xs = 0
  · rw [scF_no (by rw [scB, hc, hz]; rfl)]
    rw [hz] at ht
    clear hz hsr h8
    go_enter Try.func9, Try.ntmps9
    go_wp2_with fail
    refine (CountsValid_c _ _ _ _ _ _ h).mono ?_
    rintro e w' ⟨rfl, rfl⟩
    go_wp2_with fail
    refine ht.mono ?_
    rintro e w' ⟨rfl, rfl⟩
    go_wp2
    go_ret2
    exact PSlB.mk rfl (Own.lit w [] (m := 0) rfl (by omega) (Nat.le_refl _)) ((Below.refl _ _).alloc (Nat.le_refl _) _)
  have hsB : scB xs = true := scB_iff.2 ⟨h8, hv, hz⟩
  have hpos : 0 < sumL xs := by omega
  obtain ⟨S, hS⟩ : ∃ S, scale1 (sumL xs) xs = S := ⟨_, rfl⟩
  have hS8 : S.length = 8 := by rw [← hS, scale1_len, h8]
  have hSF : Fits S S := by rw [← hS]; exact scale1_fits hpos hv
  have hSr : everyB 0 32 S = true := by rw [← hS]; exact scale1_range hsB
  have hout : scF xs = ((shrF S).set (gr xs) ((shrF S).getD (gr xs) 0 + (32 - sumL (shrF S))), true) := by rw [scF_yes hsB, scL, hS]
  obtain ⟨hg, hg8, -⟩ := gr_pos (L := xs) h8
  have hgl := gr_lt (xs := xs) (by omega)
  rw [h8] at hgl
  obtain ⟨s, hs⟩ : ∃ s, sumL xs = s := ⟨_, rfl⟩
  rw [hs] at ht hpos hS hsr
  have HS := hid hS
  have HO := hid hout
  have HS8 := hid hS8
  have HSr := hid hSr
  have hsb : (s == 0) = false := by simp; omega
  clear hz hs hout hS8 hSr h8 hS hsB hg8 hg
  go_enter Try.func9, Try.ntmps9
  go_wp2_with fail
  refine (CountsValid_c _ _ _ _ _ _ h).mono ?_
  rintro e w' ⟨rfl, rfl⟩
  go_wp2_with fail
  refine ht.mono ?_
  rintro e w' ⟨rfl, rfl⟩
  go_wp2_with fail
  refine ht.mono ?_
  rintro e w' ⟨rfl, rfl⟩
  clear ht
  have ho0 : Own (w.alloc (.cells #[] 3)) w.heap.size (some ⟨w.heap.size, 0, none⟩) 0 0 [] := Own.lit w [] rfl (by omega) (Nat.le_refl _)
  have hb0 : Below w.heap.size w (w.alloc (.cells #[] 3)) := (Below.refl _ _).alloc (Nat.le_refl _) _
  go_wp2_with fail
  go_loopw [5, 23] (fun v i wr => ∃ (k : Nat) (D : Option Addr) (d : Nat) (ys : List Int), k ≤ 8 ∧ v = .slice D k d ∧ i = .int .i64 (k : Int) ∧ Own wr w.heap.size D k d ys ∧ S = ys ++ scale1 s (xs.drop k) ∧ Below w.heap.size w wr) (fun _ i _ => 8 - (intOf i).toNat)
  case atStart => exact ⟨0, _, 0, [], by omega, rfl, rfl, ho0, HS.out.symm, hb0⟩
  case round =>
    obtain ⟨k, D, d, ys, hk, rfl, rfl, hown, he, hbel⟩ := hrel
    have HE := hid he
    have hsz := hbel.size
    clear he
    by_cases hlt : k < 8
    · obtain ⟨b, off, x, rfl, hb, hcx, hx, hd⟩ := (h.below (hbel.mono hB)).step hlt
      have hxb := everyB_get hv hx
      have HD := hid hd
      have hq0 : 0 ≤ x * 32 / s := Int.ediv_nonneg (by omega) (by omega)
      have hq1 : x * 32 / s ≤ 32000 := Int.le_trans (Int.ediv_le_self _ (by omega)) (by omega)
      clear hd hx
      by_cases hx0 : 0 < x
      · by_cases hm : ¬ x * 32 / s < 1
        · have HM := hid (show (if 0 < x then max (x * 32 / s) 1 else x * 32 / s) = x * 32 / s by rw [if_pos hx0]; omega)
          go_wp2_with (at_builtin; refine wpList_push rfl _ _ rfl rfl hown rfl (by omega) hsz ?_; intro D2 d2 w2 hown2 hg2 hb2)
          all_goals
            go_roundw
            case rel => exact ⟨k + 1, D2, d2, _, by omega, rfl, by go_num, hown2, by rw [HE.out, HD.out, scale1_cons, HM.out, List.append_assoc]; rfl, hbel.trans hb2⟩
            case measure => simp [intOf]; omega
        · have HM := hid (show (if 0 < x then max (x * 32 / s) 1 else x * 32 / s) = 1 by rw [if_pos hx0]; omega)
          go_wp2_with (at_builtin; refine wpList_push rfl _ _ rfl rfl hown rfl (by omega) hsz ?_; intro D2 d2 w2 hown2 hg2 hb2)
          all_goals
            go_roundw
            case rel => exact ⟨k + 1, D2, d2, _, by omega, rfl, by go_num, hown2, by rw [HE.out, HD.out, scale1_cons, HM.out, List.append_assoc]; rfl, hbel.trans hb2⟩
            case measure => simp [intOf]; omega
      · have HM := hid (show (if 0 < x then max (x * 32 / s) 1 else x * 32 / s) = x * 32 / s by rw [if_neg hx0])
        go_wp2_with (at_builtin; refine wpList_push rfl _ _ rfl rfl hown rfl (by omega) hsz ?_; intro D2 d2 w2 hown2 hg2 hb2)
        go_roundw
        case rel => exact ⟨k + 1, D2, d2, _, by omega, rfl, by go_num, hown2, by rw [HE.out, HD.out, scale1_cons, HM.out, List.append_assoc]; rfl, hbel.trans hb2⟩
        case measure => simp [intOf]; omega
    · obtain rfl : k = 8 := by omega
      have e : S = ys := by rw [HE.out, h.full (k := 8) (Nat.le_refl _)]; exact List.append_nil _
      subst e
      obtain ⟨g, rfl, hgb, hgw⟩ := hown.at_ (by omega)
      clear hlt HE
      go_wp2_with fail
      go_loopg [] (sumL S - 32).toNat (fun j wx => ∃ L, j = (sumL L - 32).toNat ∧ Own wx w.heap.size (some ⟨g, 0, none⟩) 8 d L ∧ Fits S L ∧ shrF S = shrF L ∧ Below w.heap.size w wx)
      case atStart => exact ⟨S, rfl, hown, hSF, rfl, hbel⟩
      case round =>
        obtain ⟨L, rfl, hownL, hF, hE, hbL⟩ := hrel
        have HE := hid hE
        clear hE
        have hL8 : L.length = 8 := hF.1.trans HS8.out
        have hLr := fits_range hF HSr.out
        have hLm := everyB_mono hLr (Int.le_refl 0) (by omega : (32 : Int) ≤ 1000)
        have hsL := sumL_range (k := 32) (by omega) hLr
        rw [hL8] at hsL
        have hown0 := hownL
        have htot := total_c (some ⟨g, 0, none⟩) 8 d _ L _ hownL.row hLm (by omega)
        have hgr := greatest_c (some ⟨g, 0, none⟩) 8 d _ L _ hownL.row (by omega)
        by_cases h32 : 32 < sumL L
        · obtain ⟨u, hu, hg8, hD⟩ := gr_pos hL8
          have hub := everyB_get hLr hu
          have hcu := hownL.cellAt hu
          have hfu := hownL.frozenAt (gr L)
          have hg8I : ((gr L : Nat) : Int) < 8 := by omega
          have HN := hid (show Fits S (decG L) ∧ shrF S = shrF (decG L) ∧ (sumL (decG L) - 32).toNat < (sumL L - 32).toNat from
            ⟨hF.dec HS8.out h32, by rw [HE.out]; exact shrF_up h32 (by omega), by rw [decG_sum (by omega)]; omega⟩)
          have hst := hownL.stored (gr L) (u - 1)
          rw [← hD] at hst
          have HST := hid hst
          clear hst hD hu hF hL8
          go_wp2_with fail
          refine htot.mono ?_
          rintro e w' ⟨rfl, rfl⟩
          go_wp2_with fail
          refine hgr.mono ?_
          rintro e w' ⟨rfl, q, rfl⟩
          clear htot hgr
          go_wp2
          go_roundg (sumL (decG L) - 32).toNat
          case rel => exact ⟨decG L, rfl, HST.out.drewN q, HN.out.1, HN.out.2.1, below_drewN (hbL.setCell (p := ⟨g, gr L, none⟩) hgb _) q⟩
          case measure => exact HN.out.2.2
        · obtain ⟨u, hu⟩ : ∃ u, L[gr xs]? = some u := ⟨_, List.getElem?_eq_getElem (by omega)⟩
          have hub := everyB_get hLr hu
          have hcu := hownL.cellAt hu
          have hfu := hownL.frozenAt (gr xs)
          have hgI : ((gr xs : Nat) : Int) < 8 := by omega
          have HF := hid (show scF xs = (L.set (gr xs) (u + (32 - sumL L)), true) by
            rw [HO.out, show shrF S = L by rw [HE.out, shrF_no h32]]; simp [List.getD, hu])
          have hst := hownL.stored (gr xs) (u + (32 - sumL L))
          have HST := hid hst
          have hrx := h.below (hbL.mono hB)
          have htL := hownL.row
          have hL8' : (L.set (gr xs) (u + (32 - sumL L))).length = 8 := by rw [List.length_set, hL8]
          have HL8 := hid hL8'
          clear hst hu hF hL8 hL8' hgr
          go_wp2_with fail
          refine htot.mono ?_
          rintro e w' ⟨rfl, rfl⟩
          clear htot
          go_wp2_with fail
          have w1 : IntKind.i64.wrap (32 - sumL L) = 32 - sumL L := IntWalk.i64_in _ (by omega)
          have w2 : IntKind.i64.wrap (u + (32 - sumL L)) = u + (32 - sumL L) := IntWalk.i64_in _ (by omega)
          go_region_with (first | (go_at_call 21; refine (greatest_c A 8 c _ xs _ hrx.drew (by omega)).mono ?_; rintro e w' ⟨rfl, q, rfl⟩) | (go_at_call 20; refine (total_c (some ⟨g, 0, none⟩) 8 d _ L _ (htL.drewN _) hLm (by omega)).mono ?_; rintro e w' ⟨rfl, rfl⟩))
          all_goals
            clear w1 w2
            go_wp2
            go_ret2
            rw [HF.out]
            exact PSlB.mk HL8.out (HST.out.drewN (1 + q)) (below_drewN (hbL.setCell (p := ⟨g, gr xs, none⟩) hgb _) (1 + q))
end Go.Proofs.Ytflaemmcipbeiaa
