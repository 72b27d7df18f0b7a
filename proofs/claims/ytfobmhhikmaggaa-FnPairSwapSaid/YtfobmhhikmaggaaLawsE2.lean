/- The walks of the laws on sums, the rest. No condition. -/
import Derived.Test.YtfobmhhikmaggaaSums
import Derived.Test.YtfobmhhikmaggaaCrc
import Derived.Test.YtfobmhhikmaggaaDrawBy
namespace Go.Proofs.Ytfobmhhikmaggaa
open Go.RowKit

set_option maxHeartbeats 800000 in
theorem FnExactCrcOf_walk (A : Option Addr) (n c : Nat) (xs : List Int) (w : World) (h : n ≤ 1048576 → Row w w.heap.size A n c xs) : Calls Try.prog 10 #[.slice A n c] w (PTrue w) := by
  by_cases hn : n ≤ 1048576
  · have hr := h hn
    go_enter Try.func10, Try.ntmps10
    go_wp2_with fail
    refine (toIntS_c A n c _ xs w hr (Nat.le_refl _)).mono ?_
    rintro e w1 ⟨A1, c1, rfl, hown1, hb1⟩
    go_wp2_with fail
    refine (CrcOf_s_c _ _ _ _ _ _ hown1.row (Nat.le_refl _)).mono ?_
    rintro e w1' ⟨rfl, hb1'⟩
    have hbb1 := hb1.trans (hb1'.mono hb1.size)
    go_wp2_with fail
    refine (toIntS_c A n c _ xs w1' (hr.below hbb1) hbb1.size).mono ?_
    rintro e w2 ⟨A2, c2, rfl, hown2, hb2⟩
    have hbb2 := hbb1.trans (hb2.mono hbb1.size)
    go_wp2_with fail
    refine (CrcOf_c _ _ _ _ _ _ hown2.row).mono ?_
    rintro e w' ⟨rfl, rfl⟩
    go_wp2_with fail
    refine (toIntS_c A n c _ xs w2 (hr.below hbb2) hbb2.size).mono ?_
    rintro e w3 ⟨A3, c3, rfl, hown3, hb3⟩
    go_wp2_with fail
    refine (eqIntS_c _ _ _ _ _ _ _ _ _ _ _ (hown2.row.below hb3) hown3.row hb3.size (Nat.le_refl _)).mono ?_
    rintro e w4 ⟨rfl, hb4⟩
    have hbb : Below w.heap.size w w4 := (hbb2.trans (hb3.mono hbb2.size)).trans (hb4.mono (Nat.le_trans hbb2.size hb3.size))
    have hxx : (xs == xs) = true := beq_self_eq_true xs
    go_wp2
    go_ret
    exact ⟨rfl, hbb⟩
  · go_enter Try.func10, Try.ntmps10
    go_wp2
    go_ret
    exact ⟨rfl, Below.refl _ _⟩

set_option maxHeartbeats 1600000 in
theorem FnPairSwap_walk (A : Option Addr) (n c : Nat) (D : Option Addr) (m d : Nat) (w : World) (h : BRow w w.heap.size A n c) (_ : BRow w w.heap.size D m d) : Calls Try.prog 6 #[.slice A n c, .slice D m d] w (PTrue w) := by
  by_cases hn : 1048576 < n
  · go_enter Try.func6, Try.ntmps6
    go_wp2
    go_ret
    exact ⟨rfl, Below.refl _ _⟩
  by_cases hm : 1048576 < m
  · go_enter Try.func6, Try.ntmps6
    go_wp2
    go_ret
    exact ⟨rfl, Below.refl _ _⟩
  obtain ⟨i0, hi, hz0, hz1, hz2⟩ := info_parts int_info
  go_enter Try.func6, Try.ntmps6
  go_wp2_with fail
  refine (DrawPairOf_c A n c _ w h (Nat.le_refl _)).mono ?_
  rintro e w1 ⟨A1, n1, c1, xs, rfl, hown, hn1, hb1⟩
  have hrow := hown.row
  have c1' := PairOf_c A1 n1 c1 _ xs w1 hrow
  have c2' := PairOf_s_c A1 n1 c1 _ xs w1 hrow
  by_cases hv : everyB 0 255 xs = true ∧ xs.length ≤ 400
  case neg =>
    rw [pairF_no (fun a b => hv ⟨a, b⟩)] at c1' c2'
    go_wp2_with fail
    refine c1'.mono ?_
    rintro e w' ⟨rfl, rfl⟩
    go_wp2_with fail
    refine c2'.mono ?_
    rintro e w' ⟨rfl, rfl⟩
    clear c1' c2'
    go_wp2
    go_ret
    exact ⟨rfl, hb1⟩
  obtain ⟨hv, hl⟩ := hv
  rw [pairF_yes hv hl] at c1' c2'
  rw [hown.len] at hl
  go_wp2_with fail
  refine c1'.mono ?_
  rintro e w' ⟨rfl, rfl⟩
  go_wp2_with fail
  refine c2'.mono ?_
  rintro e w' ⟨rfl, rfl⟩
  clear c1' c2'
  have hs1 := hb1.size

  by_cases hz : n1 < 2
  · go_wp2
    go_ret
    exact ⟨rfl, hb1⟩
  obtain ⟨m1, rfl⟩ : ∃ m1, n1 = m1 + 1 := ⟨n1 - 1, by omega⟩
  obtain ⟨k, hkE, hk⟩ := mod_lt m m1 (by omega)
  obtain ⟨g1, rfl, hg1b, hg1l⟩ := hown.at_ (by omega)
  have hlit : Own (w1.alloc (.cells #[] 3)) w1.heap.size (some ⟨w1.heap.size, 0, none⟩) 0 0 [] := Own.lit w1 [] rfl (by omega) (Nat.le_refl _)
  have hrow' := hrow.alloc (Nat.le_refl _) (.cells #[] 3)
  obtain ⟨x, hx, -⟩ := drop_cons (xs := xs) (k := k) (by rw [hown.len]; omega)
  obtain ⟨y, hy, -⟩ := drop_cons (xs := xs) (k := k + 1) (by rw [hown.len]; omega)
  have hxb := everyB_get hv hx
  have hyb := everyB_get hv hy
  have hcx := hown.cellAt hx
  have hcy := hown.cellAt hy
  have HX := hid hx
  have HY := hid hy
  obtain ⟨hs1', hs2'⟩ := pair_swap hx hy
  have HL := hid (show ((xs.set k y).set (k + 1) x).length ≤ 400 by rw [List.length_set, List.length_set, hown.len]; exact hl)
  have HE := hid (show everyB 0 255 ((xs.set k y).set (k + 1) x) = true from everyB_set (everyB_set hv hyb) hxb)
  clear hx hy
  have hA : ((pairL 1 0 ((xs.set k y).set (k + 1) x)).1 == (pairL 1 0 xs).1) = true := by simp [hs1']
  clear hs1'
  have hB : ((pairL 1 0 ((xs.set k y).set (k + 1) x)).2 == (pairL 1 0 xs).2) = ((x - y).tmod 251 == 0) := by
    rw [Bool.eq_iff_iff, beq_iff_eq, beq_iff_eq, hs2']
    exact ⟨fun h => Int.tmod_eq_zero_of_dvd (Int.dvd_of_emod_eq_zero h), fun h => Int.emod_eq_zero_of_dvd (Int.dvd_of_tmod_eq_zero h)⟩
  clear hs2'
  have hC : (((x - y).tmod 251 == 0) == ((x - y).tmod 251 == 0)) = true := beq_self_eq_true _
  go_wp2_with (at_builtin; refine wpList_join rfl _ _ rfl rfl hlit rfl hrow' (by omega) (by simp) ?_; intro A2 c2 w2 hown2 hg2 hb2; simp only [Nat.zero_add, List.nil_append] at hown2; obtain ⟨g, rfl, hgb, hgl⟩ := hown2.at_ (by omega); have hgg : ¬ g = g1 := (by omega); have hgg' : ¬ g1 = g := (by omega); have hb1w := ((Below.refl w1.heap.size w1).alloc (Nat.le_refl _) (.cells #[] 3)).trans hb2; have hcx2 := (hb1w.cell (p := ⟨g1, k, none⟩) hg1l).trans hcx; have hcy2 := (hb1w.cell (p := ⟨g1, k + 1, none⟩) hg1l).trans hcy; have hdx2 := hown2.cellAt HX.out; have hdy2 := hown2.cellAt HY.out; have hf2 := hown2.frozenAt k; have hf3 := hown2.frozenAt (k + 1))
  have hown3 := (hown2.stored k y).stored (k + 1) x
  have hb3 := (((hb1.alloc hs1 _).trans (hb2.mono hs1)).setCell (p := ⟨g, k, none⟩) (Nat.le_trans hs1 hgb) (.int .i64 y)).setCell (p := ⟨g, k + 1, none⟩) (Nat.le_trans hs1 hgb) (.int .i64 x)
  have hp2 := PairOf_c _ _ _ _ _ _ hown3.row
  rw [pairF_yes HE.out HL.out] at hp2
  refine hp2.mono ?_
  rintro e w' ⟨rfl, rfl⟩
  clear hp2
  have hk0 : (0 : Int) ≤ (k : Int) := by omega
  have hk1 : (k : Int) < (m1 : Int) + 1 := by omega
  have hk2 : (k : Int) + 1 < (m1 : Int) + 1 := by omega
  go_wp2
  go_quiet (fail)
  go_wp2
  go_ret
  exact ⟨rfl, below_drewN hb3 _⟩
end Go.Proofs.Ytfobmhhikmaggaa
