/- The walks of the laws on sums. No condition. -/
import Derived.Test.YtfobmhhikmaggaaSums
import Derived.Test.YtfobmhhikmaggaaDrawBy
namespace Go.Proofs.Ytfobmhhikmaggaa
open Go.RowKit

set_option maxHeartbeats 400000 in
theorem FnExactPairJoin_walk (a b c d m : Int) (w : World) : Calls Try.prog 3 #[.int .i64 a, .int .i64 b, .int .i64 c, .int .i64 d, .int .i64 m] w (PTrue w) := by
  go_enter Try.func3, Try.ntmps3
  go_wp2_with fail
  refine (PairJoin_s_c a b c d m w).mono ?_
  rintro e w' ⟨rfl, rfl⟩
  go_wp2_with fail
  refine (PairJoin_c a b c d m w).mono ?_
  rintro e w' ⟨rfl, hb⟩
  go_wp2
  go_ret
  exact ⟨rfl, hb⟩

set_option maxHeartbeats 800000 in
theorem FnExactPairOf_walk (A : Option Addr) (n c : Nat) (xs : List Int) (w : World) (h : n ≤ 1048576 → Row w w.heap.size A n c xs) : Calls Try.prog 4 #[.slice A n c] w (PTrue w) := by
  by_cases hn : n ≤ 1048576
  · have hr := h hn
    go_enter Try.func4, Try.ntmps4
    go_wp2_with fail
    refine (toIntS_c A n c _ xs w hr (Nat.le_refl _)).mono ?_
    rintro e w1 ⟨A1, c1, rfl, hown1, hb1⟩
    go_wp2_with fail
    refine (PairOf_s_c _ _ _ _ _ _ hown1.row).mono ?_
    rintro e w' ⟨rfl, rfl⟩
    go_wp2_with fail
    refine (toIntS_c A n c _ xs w1 (hr.below hb1) hb1.size).mono ?_
    rintro e w2 ⟨A2, c2, rfl, hown2, hb2⟩
    go_wp2_with fail
    refine (PairOf_c _ _ _ _ _ _ hown2.row).mono ?_
    rintro e w' ⟨rfl, rfl⟩
    go_wp2_with fail
    refine (toIntS_c A n c _ xs w2 ((hr.below hb1).below (hb2.mono hb1.size)) (Nat.le_trans hb1.size hb2.size)).mono ?_
    rintro e w3 ⟨A3, c3, rfl, hown3, hb3⟩
    go_wp2_with fail
    refine (eqIntS_c _ _ _ _ _ _ _ _ _ _ _ (hown2.row.below hb3) hown3.row hb3.size (Nat.le_refl _)).mono ?_
    rintro e w4 ⟨rfl, hb4⟩
    have hbb : Below w.heap.size w w4 := ((hb1.trans (hb2.mono hb1.size)).trans (hb3.mono (Nat.le_trans hb1.size hb2.size))).trans (hb4.mono (Nat.le_trans (Nat.le_trans hb1.size hb2.size) hb3.size))
    have hxx : (xs == xs) = true := beq_self_eq_true xs
    go_wp2
    go_ret
    exact ⟨rfl, hbb⟩
  · go_enter Try.func4, Try.ntmps4
    go_wp2
    go_ret
    exact ⟨rfl, Below.refl _ _⟩

set_option maxHeartbeats 800000 in
theorem FnPair_walk (A : Option Addr) (n c : Nat) (D : Option Addr) (m d : Nat) (w : World) (h : BRow w w.heap.size A n c) (h' : BRow w w.heap.size D m d) : Calls Try.prog 9 #[.slice A n c, .slice D m d] w (PTrue w) := by
  by_cases hn : 1048576 < n
  · go_enter Try.func9, Try.ntmps9
    go_wp2
    go_ret
    exact ⟨rfl, Below.refl _ _⟩
  by_cases hm : 1048576 < m
  · go_enter Try.func9, Try.ntmps9
    go_wp2
    go_ret
    exact ⟨rfl, Below.refl _ _⟩
  go_enter Try.func9, Try.ntmps9
  go_wp2_with fail
  refine (DrawPairOf_c A n c _ w h (Nat.le_refl _)).mono ?_
  rintro e w1 ⟨A1, n1, c1, xs, rfl, hown, hn1, hb1⟩
  have hrow := hown.row
  have c1' := PairOf_c A1 n1 c1 _ xs w1 hrow
  have c2' := PairOf_s_c A1 n1 c1 _ xs w1 hrow
  by_cases hv : everyB 0 255 xs = true ∧ xs.length ≤ 400
  · obtain ⟨hv, hl⟩ := hv
    rw [pairF_yes hv hl] at c1' c2'
    rw [hown.len] at hl
    go_wp2_with fail
    refine c1'.mono ?_
    rintro e w' ⟨rfl, rfl⟩
    go_wp2_with fail
    refine c2'.mono ?_
    rintro e w' ⟨rfl, rfl⟩
    clear c1' c2'
    obtain ⟨k, hkE, hk⟩ := mod_at m n1
    have hcp := hrow.cap
    have hcm := hrow.capm
    unfold maxLen at hcm
    have hp1 := PairOf_c A1 k c1 _ _ w1 (hrow.pre hk)
    rw [pairF_yes (everyB_take hv _) (by rw [List.length_take, hown.len]; omega)] at hp1
    go_wp2_with fail
    refine hp1.mono ?_
    rintro e w' ⟨rfl, rfl⟩
    clear hp1
    obtain ⟨A2, hE, hrow2⟩ := hrow.suf_at hk
    have hp2 := PairOf_c A2 _ _ _ _ w1 hrow2
    rw [pairF_yes (everyB_drop hv _) (by rw [List.length_drop, hown.len]; omega)] at hp2
    have hj := pair_join (xs := xs) (by rw [hown.len]; exact hl) k (by rw [hown.len]; exact hk)
    rw [hown.len] at hj
    have hsub : ((n1 - k : Nat) : Int) = (n1 : Int) - (k : Int) := by omega
    have hp3 := PairJoin_c (pairL 1 0 (xs.take k)).1 (pairL 1 0 (xs.take k)).2 (pairL 1 0 (xs.drop k)).1 (pairL 1 0 (xs.drop k)).2 ((n1 - k : Nat) : Int) w1
    rw [hj, hsub] at hp3
    clear hj hsub
    go_wp2_with fail
    refine hp2.mono ?_
    rintro e w' ⟨rfl, rfl⟩
    clear hp2 hE
    go_wp2_with fail
    refine hp3.mono ?_
    rintro e w2 ⟨rfl, hb2⟩
    have hbb := hb1.trans (hb2.mono hb1.size)
    go_wp2
    go_ret
    exact ⟨rfl, hbb⟩
  · rw [pairF_no (fun a b => hv ⟨a, b⟩)] at c1' c2'
    go_wp2_with fail
    refine c1'.mono ?_
    rintro e w' ⟨rfl, rfl⟩
    go_wp2_with fail
    refine c2'.mono ?_
    rintro e w' ⟨rfl, rfl⟩
    clear c1' c2'
    go_wp2
    go_ret
    exact ⟨rfl, hb1⟩

set_option maxHeartbeats 1600000 in
theorem FnPairZeros_walk (A : Option Addr) (n c : Nat) (D : Option Addr) (m d : Nat) (w : World) (h : BRow w w.heap.size A n c) (h' : BRow w w.heap.size D m d) : Calls Try.prog 7 #[.slice A n c, .slice D m d] w (PTrue w) := by
  by_cases hn : 1048576 < n
  · go_enter Try.func7, Try.ntmps7
    go_wp2
    go_ret
    exact ⟨rfl, Below.refl _ _⟩
  by_cases hm : 1048576 < m
  · go_enter Try.func7, Try.ntmps7
    go_wp2
    go_ret
    exact ⟨rfl, Below.refl _ _⟩
  obtain ⟨i0, hi, hz0, hz1, hz2⟩ := info_parts int_info
  go_enter Try.func7, Try.ntmps7
  go_wp2_with fail
  refine (DrawPairOf_c A n c _ w h (Nat.le_refl _)).mono ?_
  rintro e w1 ⟨A1, n1, c1, xs, rfl, hown, hn1, hb1⟩
  have hrow := hown.row
  have c1' := PairOf_c A1 n1 c1 _ xs w1 hrow
  have c2' := PairOf_s_c A1 n1 c1 _ xs w1 hrow
  by_cases hv : everyB 0 255 xs = true ∧ xs.length ≤ 400
  case neg =>
    rw [pairF_no (fun a b => hv ⟨a, b⟩)] at c1' c2'
    go_wp2_with fail
    refine c1'.mono ?_
    rintro e w' ⟨rfl, rfl⟩
    go_wp2_with fail
    refine c2'.mono ?_
    rintro e w' ⟨rfl, rfl⟩
    clear c1' c2'
    go_wp2
    go_ret
    exact ⟨rfl, hb1⟩
  obtain ⟨hv, hl⟩ := hv
  rw [pairF_yes hv hl] at c1' c2'
  rw [hown.len] at hl
  go_wp2_with fail
  refine c1'.mono ?_
  rintro e w' ⟨rfl, rfl⟩
  go_wp2_with fail
  refine c2'.mono ?_
  rintro e w' ⟨rfl, rfl⟩
  clear c1' c2'
  have hs1 := hb1.size

  go_wp2_with (at_make; refine wpList_make_full _ rfl _ _ 25 rfl w.heap.size 3 i0 (.int .i64 0) 1 Try.underlying25 hi hz0 hz1 .i64 .i64 _ _ m rfl rfl rfl rfl (by rw [hz2]; omega) (by unfold maxLen; omega) hs1 ?_; intro w2 hown2 hgrow2)
  have ho2 := Own.made hown2 (by omega)
  have hb2 := hb1.grown hgrow2 hs1 (fun k hk => by cases hk)
  clear hown2 hgrow2
  have hp2 := PairOf_c _ _ _ _ _ _ ho2.row
  by_cases hm4 : m ≤ 400
  · rw [pairF_yes (everyB_zeros (by omega) m) (by rw [List.length_replicate]; exact hm4), pair_zeros] at hp2
    go_wp2_with fail
    refine hp2.mono ?_
    rintro e w' ⟨rfl, rfl⟩
    go_wp2
    go_ret
    exact ⟨rfl, hb2⟩
  · rw [pairF_no (fun _ => by rw [List.length_replicate]; exact hm4)] at hp2
    go_wp2_with fail
    refine hp2.mono ?_
    rintro e w' ⟨rfl, rfl⟩
    go_wp2
    go_ret
    exact ⟨rfl, hb2⟩

set_option maxHeartbeats 1600000 in
theorem FnPairChange_walk (A : Option Addr) (n c : Nat) (D : Option Addr) (m d : Nat) (w : World) (h : BRow w w.heap.size A n c) (h' : BRow w w.heap.size D m d) : Calls Try.prog 5 #[.slice A n c, .slice D m d] w (PTrue w) := by
  by_cases hn : 1048576 < n
  · go_enter Try.func5, Try.ntmps5
    go_wp2
    go_ret
    exact ⟨rfl, Below.refl _ _⟩
  by_cases hm : 1048576 < m
  · go_enter Try.func5, Try.ntmps5
    go_wp2
    go_ret
    exact ⟨rfl, Below.refl _ _⟩
  obtain ⟨i0, hi, hz0, hz1, hz2⟩ := info_parts int_info
  go_enter Try.func5, Try.ntmps5
  go_wp2_with fail
  refine (DrawPairOf_c A n c _ w h (Nat.le_refl _)).mono ?_
  rintro e w1 ⟨A1, n1, c1, xs, rfl, hown, hn1, hb1⟩
  have hrow := hown.row
  have c1' := PairOf_c A1 n1 c1 _ xs w1 hrow
  have c2' := PairOf_s_c A1 n1 c1 _ xs w1 hrow
  by_cases hv : everyB 0 255 xs = true ∧ xs.length ≤ 400
  case neg =>
    rw [pairF_no (fun a b => hv ⟨a, b⟩)] at c1' c2'
    go_wp2_with fail
    refine c1'.mono ?_
    rintro e w' ⟨rfl, rfl⟩
    go_wp2_with fail
    refine c2'.mono ?_
    rintro e w' ⟨rfl, rfl⟩
    clear c1' c2'
    go_wp2
    go_ret
    exact ⟨rfl, hb1⟩
  obtain ⟨hv, hl⟩ := hv
  rw [pairF_yes hv hl] at c1' c2'
  rw [hown.len] at hl
  go_wp2_with fail
  refine c1'.mono ?_
  rintro e w' ⟨rfl, rfl⟩
  go_wp2_with fail
  refine c2'.mono ?_
  rintro e w' ⟨rfl, rfl⟩
  clear c1' c2'
  have hs1 := hb1.size

  by_cases hz : n1 = 0
  · subst hz
    go_wp2
    go_ret
    exact ⟨rfl, hb1⟩
  have hzb : ((n1 : Int) == 0) = false := by simp; omega
  obtain ⟨k, hkE, hk⟩ := mod_lt m n1 (by omega)
  have hlit : Own (w1.alloc (.cells #[] 3)) w.heap.size (some ⟨w1.heap.size, 0, none⟩) 0 0 [] := Own.lit w1 [] rfl (by omega) hs1
  have hrow' := hrow.alloc (Nat.le_refl _) (.cells #[] 3)
  obtain ⟨x, hx, -⟩ := drop_cons (xs := xs) (k := k) (by rw [hown.len]; exact hk)
  have hxb := everyB_get hv hx
  have HX := hid hx
  clear hx
  have hlen3 : ∀ y, (xs.set k y).length ≤ 400 := fun y => by rw [List.length_set, hown.len]; exact hl
  have HL := hid hlen3
  clear hlen3
  by_cases hx5 : x = 255
  · subst hx5
    have hch := pair_change (xs := xs) (y := 254) HX.out (by decide)
    have hne : ((pairL 1 0 (xs.set k 254)).1 != (pairL 1 0 xs).1) = true := by rw [bne_iff_ne]; exact hch
    clear hch
    go_wp2_with (at_builtin; refine wpList_join rfl _ _ rfl rfl hlit rfl hrow' (by omega) (by simp; omega) ?_; intro A2 c2 w2 hown2 hg2 hb2; simp only [Nat.zero_add, List.nil_append] at hown2; obtain ⟨g, rfl, hgb, hgl⟩ := hown2.at_ (by omega); have hc2 := hown2.cellAt HX.out; have hf2 := hown2.frozenAt k; have hown3 := hown2.stored k 254; have hb3 := ((hb1.alloc hs1 _).trans hb2).setCell (p := ⟨g, k, none⟩) hgb (.int .i64 254))
    have hp2 := PairOf_c _ _ _ _ _ _ hown3.row
    rw [pairF_yes (everyB_set hv (by omega)) (HL.out _)] at hp2
    refine hp2.mono ?_
    rintro e w' ⟨rfl, rfl⟩
    clear hp2
    go_wp2
    go_ret
    exact ⟨rfl, hb3⟩
  · have hx5b : (x == 255) = false := by simp [hx5]
    have hch := pair_change (xs := xs) (y := (x + 1)) HX.out (by omega)
    have hne : ((pairL 1 0 (xs.set k (x + 1))).1 != (pairL 1 0 xs).1) = true := by rw [bne_iff_ne]; exact hch
    clear hch
    go_wp2_with (at_builtin; refine wpList_join rfl _ _ rfl rfl hlit rfl hrow' (by omega) (by simp; omega) ?_; intro A2 c2 w2 hown2 hg2 hb2; simp only [Nat.zero_add, List.nil_append] at hown2; obtain ⟨g, rfl, hgb, hgl⟩ := hown2.at_ (by omega); have hc2 := hown2.cellAt HX.out; have hf2 := hown2.frozenAt k; have hown3 := hown2.stored k (x + 1); have hb3 := ((hb1.alloc hs1 _).trans hb2).setCell (p := ⟨g, k, none⟩) hgb (.int .i64 (x + 1)))
    have hp2 := PairOf_c _ _ _ _ _ _ hown3.row
    rw [pairF_yes (everyB_set hv (by omega)) (HL.out _)] at hp2
    refine hp2.mono ?_
    rintro e w' ⟨rfl, rfl⟩
    clear hp2
    go_wp2
    go_ret
    exact ⟨rfl, hb3⟩
end Go.Proofs.Ytfobmhhikmaggaa
