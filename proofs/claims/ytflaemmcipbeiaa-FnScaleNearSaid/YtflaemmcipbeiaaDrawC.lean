/- Contracts of the draws of counts. No condition. -/
import Derived.Test.YtflaemmcipbeiaaDraw
namespace Go.Proofs.Ytflaemmcipbeiaa
open Go.RowKit

/-- A number out of a list of numbers that the call has just laid. -/
theorem lit_cell {w w' : World} {us : List Int} {m g z : Nat} (hm : us.length = m) (hs : m ≤ 1048576) (hgr : (w.alloc (.cells (us.map (Value.int .i64)).toArray 3)).grownBy w' (some g)) (hg : g < w.heap.size) (hz : z < m) :
    ∃ u, us[z]? = some u ∧ w'.cell? ⟨w.heap.size, z, none⟩ = some (.int .i64 u) := by
  have h := (Own.lit (base := 0) w us hm hs (Nat.zero_le _)).kept hgr (.inr (by simp; omega))
  obtain ⟨u, hu⟩ : ∃ u, us[z]? = some u := ⟨_, List.getElem?_eq_getElem (by omega)⟩
  exact ⟨u, hu, h.cellAt hu⟩

set_option maxHeartbeats 1600000 in
theorem l91Counts_c (g p : Nat) (w : World) (h : Rd w g p) (hp : p ≤ 900000) : Calls Try.prog 18 #[.pointer (some ⟨g, 0, none⟩)] w (PDraw w g p 8) := by
  obtain ⟨i0, hi, hz0, hz1, hz2⟩ := info_parts int_info
  have hgl := h.lt
  go_enter Try.func18, Try.ntmps18
  go_wp2
  go_loopw [3, 4] (fun v i wr => ∃ (k : Nat) (A : Option Addr) (c : Nat) (xs : List Int), k ≤ 8 ∧ i = .int .i64 k ∧ v = .slice A k c ∧ Own wr w.heap.size A k c xs ∧ Rd wr g (p + 4 * k) ∧ w.grownBy wr (some g)) (fun _ i _ => 8 - (intOf i).toNat)
  case atStart =>
    refine ⟨0, some ⟨w.heap.size, 0, none⟩, 0, [], Nat.zero_le _, rfl, rfl, ?_, ?_, ?_⟩
    · exact Own.lit w [] (m := 0) rfl (by omega) (Nat.le_refl _)
    · exact h.alloc _
    · exact grown_alloc (World.grownBy.refl _ _) _
  case round =>
    obtain ⟨k, A, c, xs, hk, rfl, rfl, hown, hrd, hgr⟩ := hrel
    have hsz := hgr.size
    by_cases hlt : k < 8
    · go_wp2_with fail
      refine (pick_c g _ 4 _ hrd (by omega)).mono ?_
      rintro e w1 ⟨x1, rfl, hx1, hrd1, hg1⟩
      go_wp2_with fail
      refine (pick_c g _ 20 _ hrd1 (by omega)).mono ?_
      rintro e w2 ⟨x2, rfl, hx2, hrd2, hg2⟩
      go_wp2_with fail
      refine (pick_c g _ 200 _ hrd2 (by omega)).mono ?_
      rintro e w3 ⟨x3, rfl, hx3, hrd3, hg3⟩
      have hgr3 := grown_trans (grown_trans (grown_trans hgr hg1) hg2) hg3
      have hown3 := ((hown.grown hg1 hgl).grown hg2 hgl).grown hg3 hgl
      have hown4 := hown3.alloc (.cells #[.int .i64 0, .int .i64 (x1 : Int), .int .i64 (x2 : Int), .int .i64 (x3 : Int)] 3)
      have hrd4 := hrd3.alloc (.cells #[.int .i64 0, .int .i64 (x1 : Int), .int .i64 (x2 : Int), .int .i64 (x3 : Int)] 3)
      have hgr4 := grown_alloc hgr3 (.cells #[.int .i64 0, .int .i64 (x1 : Int), .int .i64 (x2 : Int), .int .i64 (x3 : Int)] 3)
      go_wp2_with fail
      refine (pick_c g _ 4 _ hrd4 (by omega)).mono ?_
      rintro e w5 ⟨x4, rfl, hx4, hrd5, hg5⟩
      have hgr5 := grown_trans hgr4 hg5
      have hown5 := hown4.grown hg5 hgl
      have hsz5 := hgr5.size
      obtain ⟨u, -, hcu⟩ := lit_cell (us := [0, (x1 : Int), (x2 : Int), (x3 : Int)]) (m := 4) (z := x4) rfl (by omega) hg5 hrd3.lt (by omega)
      have hx44 : x4 < 4 := by omega
      go_wp2_with (at_builtin; refine wpList_push rfl (.tmp 10) (.tmp 22) rfl rfl hown5 rfl (by omega) hsz5 ?_; intro A' c' w6 hown6 hg6 hb6)
      go_roundw
      case rel => exact ⟨k + 1, A', c', _, by omega, by go_num, rfl, hown6, by rw [show p + 4 * (k + 1) = p + 4 * k + 1 + 1 + 1 + 1 by omega]; exact hrd5.below hb6 hgl, grown_below hgr5 hb6 (Nat.le_refl _)⟩
      case measure => simp [intOf]; omega
    · obtain rfl : k = 8 := by omega
      go_wp2_with fail
      refine (pick_c g _ 40 _ hrd (by omega)).mono ?_
      rintro e w1 ⟨x, rfl, hx, hrd1, hg1⟩
      have hown1 := hown.grown hg1 hgl
      have hgr1 := grown_trans hgr hg1
      have hsz1 := hgr1.size
      by_cases hx0 : x = 0
      · subst hx0
        go_wp2_with (at_make; refine wpList_make_full _ rfl _ _ 23 rfl w.heap.size 3 i0 (.int .i64 0) 1 Try.underlying23 hi hz0 hz1 .i64 .i64 _ _ 8 rfl rfl rfl rfl (by rw [hz2]; omega) (by unfold maxLen; omega) hsz1 ?_; intro w2 hown2 hgrow2)
        have hb2 : Below w1.heap.size w1 w2 := (Below.refl _ _).grown hgrow2 (Nat.le_refl _) (fun k hk => by cases hk)
        go_ret
        exact PDraw.mk (Own.made hown2 (by omega)) (by omega) (hrd1.below hb2 hrd1.lt) (by omega) (grown_below hgr1 hb2 hsz1)
      have hxb0 : (((x : Nat) : Int) == 0) = false := by simp; omega
      by_cases hx1 : x = 1
      · subst hx1
        have hcaps := hown1.caps
        obtain ⟨g1, rfl, -⟩ := hown1.at_ (by omega)
        have hcI : (8 : Int) ≤ (c : Int) := by omega
        have hc0 : ¬ c = 0 := by omega
        go_wp2
        go_ret
        exact PDraw.mk (hown1.pre (k := 7) (by omega)) (by omega) hrd1 (by omega) hgr1
      have hxb1 : (((x : Nat) : Int) == 1) = false := by simp; omega
      by_cases hx2 : x = 2
      · subst hx2
        go_wp2_with fail
        refine (pick_c g _ 8 _ hrd1 (by omega)).mono ?_
        rintro e w2 ⟨y, rfl, hy, hrd2, hg2⟩
        have hown2 := hown1.grown hg2 hgl
        have hgr2 := grown_trans hgr1 hg2
        have hown3 := hown2.alloc (.cells #[.int .i64 (-1), .int .i64 999, .int .i64 1000] 3)
        have hrd3 := hrd2.alloc (.cells #[.int .i64 (-1), .int .i64 999, .int .i64 1000] 3)
        go_wp2_with fail
        refine (pick_c g _ 3 _ hrd3 (by omega)).mono ?_
        rintro e w4 ⟨z, rfl, hz, hrd4, hg4⟩
        have hown4 := hown3.grown hg4 hgl
        have hgr4 := grown_trans (grown_alloc hgr2 _) hg4
        obtain ⟨u, -, hcu⟩ := lit_cell (us := [-1, 999, 1000]) (m := 3) (z := z) rfl (by omega) hg4 hrd2.lt (by omega)
        obtain ⟨g2, rfl, hg2b, hg2l⟩ := hown4.at_ (by omega)
        obtain ⟨t, ht⟩ : ∃ t, xs[y]? = some t := ⟨_, List.getElem?_eq_getElem (by rw [hown.len]; omega)⟩
        have hct := hown4.cellAt ht
        have hft := hown4.frozenAt y
        have hz3 : z < 3 := by omega
        have hy8 : y < 8 := by omega
        clear ht
        go_wp2
        go_ret
        refine PDraw.mk (hown4.stored y u) (by omega) (hrd4.below ((Below.refl _ _).setCell (Nat.le_refl _) _) (by show g < g2; omega)) (by omega) ?_
        exact grown_below hgr4 ((Below.refl _ _).setCell (p := ⟨g2, y, none⟩) (Nat.le_refl _) _) (by show w.heap.size ≤ g2; omega)
      have hxb2 : (((x : Nat) : Int) == 2) = false := by simp; omega
      go_wp2
      go_ret
      exact PDraw.mk hown1 (by omega) hrd1 (by omega) hgr1

theorem DrawCountsScale_s_c (A : Option Addr) (n c B : Nat) (w : World) (h : BRow w B A n c) (hB : B ≤ w.heap.size) : Calls Try.prog 8 #[.slice A n c] w (PList w 8) := by
  go_enter Try.func8, Try.ntmps8
  go_wp2_with fail
  refine (l6Open_c A n c B w h hB).mono ?_
  rintro e w1 ⟨g, rfl, hrd1, hg, hb1⟩
  go_wp2_with fail
  refine (l91Counts_c g 0 _ hrd1 (by omega)).mono ?_
  rintro e w2 ⟨A2, n2, c2, xs, p2, rfl, hown2, hn2, hrd2, hp2, hg2⟩
  go_wp2
  go_ret
  exact ⟨_, _, _, _, rfl, hown2.mono hb1.size, hn2, hb1.trans (below_grown hg2 hb1.size hg)⟩
end Go.Proofs.Ytflaemmcipbeiaa
