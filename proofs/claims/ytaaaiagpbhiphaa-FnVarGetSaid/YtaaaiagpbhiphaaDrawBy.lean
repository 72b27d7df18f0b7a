/- Contracts of draws of bytes. No condition. -/
import Derived.Test.YtaaaiagpbhiphaaDraw
namespace Go.Proofs.Ytaaaiagpbhiphaa
open Go.RowKit

set_option maxHeartbeats 800000 in
theorem l91Bytes_c (g p m : Nat) (w : World) (h : Rd w g p) (hp : p ≤ 900000) (hm : m ≤ 500) : Calls Try.prog 39 #[.pointer (some ⟨g, 0, none⟩), .int .i64 (m : Int)] w (PDraw w g p m) := by
  have hgl := h.lt
  go_enter Try.func39, Try.ntmps39
  go_wp2
  go_loopw [5, 6] (fun v i wr => ∃ (k : Nat) (A : Option Addr) (c : Nat) (xs : List Int), k ≤ m ∧ i = .int .i64 k ∧ v = .slice A k c ∧ Own wr w.heap.size A k c xs ∧ Rd wr g (p + k) ∧ w.grownBy wr (some g)) (fun _ i _ => m - (intOf i).toNat)
  case atStart =>
    refine ⟨0, some ⟨w.heap.size, 0, none⟩, 0, [], Nat.zero_le _, rfl, rfl, ?_, ?_, ?_⟩
    · exact Own.lit w [] (m := 0) rfl (by omega) (Nat.le_refl _)
    · exact h.alloc _
    · exact grown_alloc (World.grownBy.refl _ _) _
  case round =>
    obtain ⟨k, A, c, xs, hk, rfl, rfl, hown, hrd, hgr⟩ := hrel
    have hsz := hgr.size
    by_cases hlt : k < m
    · go_wp2_with fail
      refine (pick_c g (p + k) 256 _ hrd (by omega)).mono ?_
      rintro e w1 ⟨x, rfl, hx, hrd1, hg1⟩
      have hown1 := hown.grown hg1 hgl
      have hgr1 := grown_trans hgr hg1
      have hsz1 := hgr1.size
      go_wp2_with (at_builtin; refine wpList_push rfl (.tmp 13) (.tmp 16) rfl rfl hown1 rfl (by omega) hsz1 ?_; intro A' c' w2 hown2 hg2 hb2)
      go_roundw
      case rel => exact ⟨k + 1, A', c', _, by omega, by go_num, rfl, hown2, by rw [← Nat.add_assoc]; exact hrd1.below hb2 hgl, grown_below hgr1 hb2 (Nat.le_refl _)⟩
      case measure => simp [intOf]; omega
    · obtain rfl : k = m := by omega
      by_cases hm0 : 0 < k
      · have hpos : (0 : Int) < (k : Int) := by omega
        go_wp2_with fail
        refine (pick_c g (p + k) 30 _ hrd (by omega)).mono ?_
        rintro e w1 ⟨x, rfl, hx, hrd1, hg1⟩
        have hown1 := hown.grown hg1 hgl
        have hgr1 := grown_trans hgr hg1
        by_cases hx0 : x = 0
        · subst hx0
          go_wp2_with fail
          refine (pick_c g (p + k + 1) k _ hrd1 (by omega)).mono ?_
          rintro e w2 ⟨y, rfl, hy, hrd2, hg2⟩
          have hown2 := hown1.grown hg2 hgl
          have hgr2 := grown_trans hgr1 hg2
          have hlit := Own.lit (base := 0) w2 [-1, 256] (m := 2) rfl (by omega) (Nat.zero_le _)
          have hown3 := hown2.alloc (.cells #[.int .i64 (-1), .int .i64 256] 3)
          have hrd3 := hrd2.alloc (.cells #[.int .i64 (-1), .int .i64 256] 3)
          go_wp2_with fail
          refine (pick_c g (p + k + 1 + 1) 2 _ hrd3 (by omega)).mono ?_
          rintro e w4 ⟨z, rfl, hz, hrd4, hg4⟩
          have hown4 := hown3.grown hg4 hgl
          have hlit4 := hlit.kept hg4 (.inr (by have := hrd2.lt; simp; omega))
          obtain ⟨u, hu⟩ : ∃ u, ([-1, 256] : List Int)[z]? = some u := ⟨_, List.getElem?_eq_getElem (by simp; omega)⟩
          have hcu := hlit4.cellAt hu
          have hgr4 := grown_trans (grown_alloc hgr2 _) hg4
          obtain ⟨g2, rfl, hg2b, hg2l⟩ := hown4.at_ (by omega)
          obtain ⟨t, ht⟩ : ∃ t, xs[y]? = some t := ⟨_, List.getElem?_eq_getElem (by rw [hown.len]; omega)⟩
          have hct := hown4.cellAt ht
          have hft := hown4.frozenAt y
          have HU := hid hu
          have HT := hid ht
          clear hu ht
          go_wp2
          go_ret
          refine PDraw.mk (hown4.stored y u) (Nat.le_refl _) (hrd4.below ((Below.refl _ _).setCell (Nat.le_refl _) _) (by show g < g2; omega)) (by omega) ?_
          exact grown_below hgr4 ((Below.refl _ _).setCell (p := ⟨g2, y, none⟩) (Nat.le_refl _) _) (by show w.heap.size ≤ g2; omega)
        · have hxb : (((x : Nat) : Int) == 0) = false := by simp; omega
          go_wp2
          go_ret
          exact PDraw.mk hown1 (Nat.le_refl _) hrd1 (by omega) hgr1
      · have hpos : ¬ (0 : Int) < (k : Int) := by omega
        have hdec : decide ((0 : Int) < (k : Int)) = false := by simpa using hpos
        go_wp2
        go_ret
        exact PDraw.mk hown (Nat.le_refl _) hrd (by omega) hgr

end Go.Proofs.Ytaaaiagpbhiphaa
