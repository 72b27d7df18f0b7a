/- Contracts of the draws of bits. No condition. -/
import Derived.Test.YtfpieikheofbgaaDraw
namespace Go.Proofs.Ytfpieikheofbgaa
open Go.RowKit

set_option maxHeartbeats 1600000 in
theorem l91Bits_c (g p m : Nat) (w : World) (h : Rd w g p) (hp : p ≤ 900000) (hm : m ≤ 100) : Calls Try.prog 45 #[.pointer (some ⟨g, 0, none⟩), .int .i64 (m : Int)] w (PDraw w g p 800) := by
  have hgl := h.lt
  obtain ⟨i0, hi, hz0, hz1, hz2⟩ := info_parts int_info
  go_enter Try.func45, Try.ntmps45
  go_wp2
  go_loopw [5, 6] (fun v i wr => ∃ (k : Nat) (A : Option Addr) (c : Nat) (xs : List Int), k ≤ m ∧ i = .int .i64 k ∧ v = .slice A k c ∧ Own wr w.heap.size A k c xs ∧ Rd wr g (p + k) ∧ w.grownBy wr (some g)) (fun _ i _ => m - (intOf i).toNat)
  case atStart =>
    refine ⟨0, some ⟨w.heap.size, 0, none⟩, 0, [], Nat.zero_le _, rfl, rfl, ?_, ?_, ?_⟩
    · exact Own.lit w [] (m := 0) rfl (by omega) (Nat.le_refl _)
    · exact h.alloc _
    · exact grown_alloc (World.grownBy.refl _ _) _
  case round =>
    obtain ⟨k, A, c, xs, hk, rfl, rfl, hown, hrd, hgr⟩ := hrel
    have hsz := hgr.size
    by_cases hlt : k < m
    · go_wp2_with fail
      refine (pick_c g (p + k) 2 _ hrd (by omega)).mono ?_
      rintro e w1 ⟨x, rfl, hx, hrd1, hg1⟩
      have hown1 := hown.grown hg1 hgl
      have hgr1 := grown_trans hgr hg1
      have hsz1 := hgr1.size
      go_wp2_with (at_builtin; refine wpList_push rfl _ _ rfl rfl hown1 rfl (by omega) hsz1 ?_; intro A' c' w2 hown2 hg2 hb2)
      go_roundw
      case rel => exact ⟨k + 1, A', c', _, by omega, by go_num, rfl, hown2, by rw [← Nat.add_assoc]; exact hrd1.below hb2 hgl, grown_below hgr1 hb2 (Nat.le_refl _)⟩
      case measure => simp [intOf]; omega
    · obtain rfl : k = m := by omega
      go_wp2_with fail
      refine (pick_c g (p + k) 40 _ hrd (by omega)).mono ?_
      rintro e w1 ⟨x, rfl, hx, hrd1, hg1⟩
      have hown1 := hown.grown hg1 hgl
      have hgr1 := grown_trans hgr hg1
      by_cases hx0 : x = 0
      · subst hx0
        have hlit := Own.lit (base := 0) w1 [-1, 2] (m := 2) rfl (by omega) (Nat.zero_le _)
        have hown3 := hown1.alloc (.cells #[.int .i64 (-1), .int .i64 2] 3)
        have hrd3 := hrd1.alloc (.cells #[.int .i64 (-1), .int .i64 2] 3)
        go_wp2_with fail
        refine (pick_c g _ 2 _ hrd3 (by omega)).mono ?_
        rintro e w4 ⟨z, rfl, hz, hrd4, hg4⟩
        have hown4 := hown3.grown hg4 hgl
        have hlit4 := hlit.kept hg4 (.inr (by have := hrd1.lt; simp; omega))
        obtain ⟨u, hu⟩ : ∃ u, ([-1, 2] : List Int)[z]? = some u := ⟨_, List.getElem?_eq_getElem (by simp; omega)⟩
        have hcu := hlit4.cellAt hu
        have hgr4 := grown_trans (grown_alloc hgr1 _) hg4
        have hz2' : z < 2 := by omega
        clear hu
        go_wp2_with (at_builtin; refine wpList_push rfl _ _ rfl rfl hown4 rfl (by omega) hgr4.size ?_; intro A' c' w5 hown5 hg5 hb5)
        go_ret
        exact PDraw.mk hown5 (by omega) (hrd4.below hb5 hgl) (by omega) (grown_below hgr4 hb5 (Nat.le_refl _))
      have hxb : (((x : Nat) : Int) == 0) = false := by simp; omega
      by_cases hx1 : x = 1
      · subst hx1
        go_wp2_with fail
        refine (pick_c g _ 12 _ hrd1 (by omega)).mono ?_
        rintro e w4 ⟨z, rfl, hz, hrd4, hg4⟩
        have hown4 := hown1.grown hg4 hgl
        have hgr4 := grown_trans hgr1 hg4
        have hs4 := hgr4.size
        go_wp2_with (first | (at_make; refine wpList_make_full _ rfl _ _ 22 rfl w.heap.size 3 i0 (.int .i64 0) 1 Try.underlying22 hi hz0 hz1 .i64 .i64 _ _ (590 + z) rfl rfl (by omega) (by omega) (by rw [hz2]; omega) (by unfold maxLen; omega) hs4 ?_; intro w5 hown5' hgrow5; have hown5 := Own.made hown5' (by omega); have hg5 := hgrow5; have hb5 : Below w4.heap.size w4 w5 := (Below.refl _ _).grown hgrow5 (Nat.le_refl _) (fun k hk => by cases hk)) | (at_builtin; refine wpList_join rfl _ _ rfl rfl hown5 rfl ((hown4.below hb5 (Nat.le_refl _)).row) (by omega) (by have := hb5.size; omega) ?_; intro A' c' w6 hown6 hg6 hb6))
        go_ret
        exact PDraw.mk hown6 (by omega) ((hrd4.below hb5 (by omega)).below hb6 hgl) (by omega) (grown_below (grown_below hgr4 hb5 (by omega)) hb6 (Nat.le_refl _))
      have hxb1 : (((x : Nat) : Int) == 1) = false := by simp; omega
      go_wp2
      go_ret
      exact PDraw.mk hown1 (by omega) hrd1 (by omega) hgr1

set_option maxHeartbeats 800000 in
theorem DrawBitsBytes_s_c (A : Option Addr) (n c B : Nat) (w : World) (h : BRow w B A n c) (hB : B ≤ w.heap.size) : Calls Try.prog 31 #[.slice A n c] w (PList w 1000) := by
  go_enter Try.func31, Try.ntmps31
  go_wp2_with fail
  refine (l6Open_c A n c B w h hB).mono ?_
  rintro e w1 ⟨g, rfl, hrd1, hg, hb1⟩
  go_wp2_with fail
  refine (pick_c g 0 40 _ hrd1 (by omega)).mono ?_
  rintro e w2 ⟨x, rfl, hx, hrd2, hg2⟩
  have hb2 := hb1.trans (below_grown hg2 hb1.size hg)
  go_wp2_with fail
  refine (l91Bits_c g _ x _ hrd2 (by omega) (by omega)).mono ?_
  rintro e w4 ⟨A4, n4, c4, xs, p4, rfl, hown4, hn4, hrd4, hp4, hg4⟩
  go_wp2
  go_ret
  exact ⟨_, _, _, _, rfl, hown4.mono hb2.size, by omega, hb2.trans (below_grown hg4 hb2.size hg)⟩
end Go.Proofs.Ytfpieikheofbgaa
