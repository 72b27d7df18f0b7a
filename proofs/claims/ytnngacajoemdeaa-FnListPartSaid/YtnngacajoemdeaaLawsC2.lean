/- The walk of the law on parts of lists. No condition. -/
import Derived.Test.YtnngacajoemdeaaCounts2
import Derived.Test.YtnngacajoemdeaaDrawL
import Derived.Deep.RegionLaw
namespace Go.Proofs.Ytnngacajoemdeaa
open Go.RowKit

set_option maxHeartbeats 3200000 in
theorem FnListPart_walk (A : Option Addr) (n c : Nat) (D : Option Addr) (m d : Nat) (w : World) (h : BRow w w.heap.size A n c) (_ : BRow w w.heap.size D m d) : Calls Try.prog 7 #[.slice A n c, .slice D m d] w (PTrue w) := by
  by_cases hn : 1048576 < n
  · go_enter Try.func7, Try.ntmps7
    go_wp2
    go_ret
    exact ⟨rfl, Below.refl _ _⟩
  by_cases hm : 1048576 < m
  · go_enter Try.func7, Try.ntmps7
    go_wp2
    go_ret
    exact ⟨rfl, Below.refl _ _⟩
  go_enter Try.func7, Try.ntmps7
  go_wp2_with fail
  refine (DrawListValid_s_c A n c _ w h (Nat.le_refl _)).mono ?_
  rintro e w1 ⟨A1, n1, c1, xs, rfl, hown, hn1, hb1⟩
  have hrow := hown.row
  have hs1 := hb1.size
  rcases hv : listV xs with _ | _
  · go_wp2_with fail
    refine (ListValid_c A1 _ c1 _ xs w1 hrow).mono ?_
    rintro e w' ⟨rfl, rfl⟩
    go_wp2_with fail
    refine (ListValid_s_c A1 _ c1 _ xs w1 hrow).mono ?_
    rintro e w' ⟨rfl, rfl⟩
    go_wp2
    go_ret
    exact ⟨rfl, hb1⟩
  go_wp2_with fail
  refine (ListValid_c A1 _ c1 _ xs w1 hrow).mono ?_
  rintro e w' ⟨rfl, rfl⟩
  go_wp2_with fail
  refine (ListValid_s_c A1 _ c1 _ xs w1 hrow).mono ?_
  rintro e w' ⟨rfl, rfl⟩
  by_cases hz : n1 = 0
  · subst hz
    go_wp2
    go_ret
    exact ⟨rfl, hb1⟩
  have hzb : ((n1 : Int) == 0) = false := by simp; omega
  have HV := hid (listV_iff.1 hv)
  obtain ⟨k, hkE, hk⟩ := mod_lt m n1 (by omega)
  have hcp := hrow.cap
  have hcm := hrow.capm
  unfold maxLen at hcm
  obtain ⟨g1, rfl, hg1b, hg1l⟩ := hown.at_ (by omega)
  have hlit : Own (w1.alloc (.cells #[] 3)) w1.heap.size (some ⟨w1.heap.size, 0, none⟩) 0 0 [] := Own.lit w1 [] rfl (by omega) (Nat.le_refl _)
  have hrow' := hrow.alloc (Nat.le_refl _) (.cells #[] 3)
  have hk0 : (0 : Int) ≤ (k : Int) := by omega
  have hk1 : (k : Int) + 1 ≤ (n1 : Int) := by omega
  have hk2 : (k : Int) ≤ (c1 : Int) := by omega
  have hc0 : ¬ c1 = 0 := by omega
  have hlitd : Own (w1.alloc (.cells #[] 3)).drew w1.heap.size (some ⟨w1.heap.size, 0, none⟩) 0 0 [] := hlit.drewN 1
  have hrowd := hrow'.drew
  obtain ⟨x, hx, -⟩ := drop_cons (xs := xs) (k := k) (by rw [hown.len]; exact hk)
  have HX := hid hx
  have hl40 : n1 ≤ 40 := by rw [← hown.len]; exact HV.out.1
  have HC2 := hid (show listV (xs.set k 8) = false by
    rw [← Bool.not_eq_true, listV_iff]
    rintro ⟨-, h2⟩
    have := everyB_get h2 (List.getElem?_set_self (by rw [hown.len]; exact hk))
    omega)
  have HC1 := hid (show listV (xs.take k ++ (xs.take n1).drop (k + 1)) = true by
    rw [listV_iff]
    refine ⟨?_, ?_⟩
    · rw [List.length_append, List.length_take, List.length_drop, List.length_take]; have := hown.len; omega
    · rw [everyB_append, everyB_take HV.out.2, everyB_drop (everyB_take HV.out.2 _)]; rfl)
  clear hx
  have hwk : IntKind.i64.wrap ((k : Int) + 1) = (k : Int) + 1 := IntWalk.i64_in _ (by omega)
  have hkk : (k : Int) ≤ (k : Int) + 1 := by omega
  have hk3 : (0 : Int) ≤ (k : Int) + 1 := by omega
  have htn : ((k : Int) + 1).toNat = k + 1 := by omega
  go_wp2_with fail
  rw [hkE]
  by_cases hck : c1 = k + 1
  · obtain ⟨n2, rfl⟩ : ∃ n2, n1 = n2 + 1 := ⟨n1 - 1, by omega⟩
    obtain rfl : n2 = k := by omega
    subst hck
    have hrow9 : ∀ wz, Row wz w1.heap.size (some ⟨g1, 0, none⟩) 0 0 ((xs.take (n2 + 1)).drop (n2 + 1)) := fun wz => by
      rw [List.drop_eq_nil_of_le (by rw [List.length_take]; omega)]
      exact Row.none_ rfl (Nat.zero_le _) (fun e => by cases e)
    go_region_law (first
      | (refine step_join (by rfl) _ _ (by rfl) (by rfl) hlitd (by rfl) (hrowd.pre (k := n2) (by omega)) (by omega) (by simp) ?_; intro A2 c2 w2 hown2 hg2 hb2; simp only [Nat.zero_add, List.nil_append] at hown2)
      | (refine step_join (by rfl) _ _ (by rfl) (by rfl) hown2 (by rfl) (hrow9 _) (by omega) (by have := hb2.size; simp at this; omega) ?_; intro A3 c3 w3 hown3 hg3 hb3))
    have hown3' := hown3
    have hb13 : Below w1.heap.size w1 w3 := (((Below.refl _ w1).alloc (Nat.le_refl _) _).drew.trans hb2).trans hb3
    have hs3 := hb13.size
    have hrow3 := hrow.below hb13
    have hlit3 : Own (w3.alloc (.cells #[] 3)) w3.heap.size (some ⟨w3.heap.size, 0, none⟩) 0 0 [] := Own.lit w3 [] rfl (by omega) (Nat.le_refl _)
    have hrow3' := hrow3.alloc hs3 (.cells #[] 3)
    have hownx := (hown3.alloc (.cells #[] 3))
    go_wp2_with (at_builtin; refine wpList_join rfl _ _ rfl rfl hlit3 rfl hrow3' (by omega) (by simp) ?_; intro A4 c4 w4 hown4 hg4 hb4; simp only [Nat.zero_add, List.nil_append] at hown4; obtain ⟨g, rfl, hgb, hgl⟩ := hown4.at_ (by omega); have hc4 := hown4.cellAt HX.out; have hf4 := hown4.frozenAt n2)
    have hown5 := hown4.stored n2 8
    have hb35 := ((Below.refl w3.heap.size w3).alloc (Nat.le_refl _) (.cells #[] 3)).trans (hb4.setCell (p := ⟨g, n2, none⟩) hgb (.int .i64 8))
    have hownx5 := hown3'.below hb35 (Nat.le_refl _)
    have hp1 := ListValid_c _ _ _ _ _ _ hownx5.row
    rw [HC1.out] at hp1
    have hp2 := ListValid_c _ _ _ _ _ _ hown5.row
    rw [HC2.out] at hp2
    refine hp1.mono ?_
    rintro e w' ⟨rfl, rfl⟩
    go_wp2_with fail
    refine hp2.mono ?_
    rintro e w' ⟨rfl, rfl⟩
    clear hp1 hp2
    have hfin := hb1.trans ((hb13.trans (hb35.mono hs3)).mono hs1)
    go_wp2
    go_ret
    exact ⟨rfl, hfin⟩
  · have hrow9 : ∀ wz, Below w1.heap.size w1 wz → Row wz w1.heap.size (some ⟨g1, k + 1, none⟩) (n1 - (k + 1)) (c1 - (k + 1)) ((xs.take n1).drop (k + 1)) := fun wz hz => (hrow.below hz).mid (by omega) (Nat.le_refl _) rfl
    go_region_law (first
      | (refine step_join (by rfl) _ _ (by rfl) (by rfl) hlitd (by rfl) (hrowd.pre (k := k) (by omega)) (by omega) (by simp) ?_; intro A2 c2 w2 hown2 hg2 hb2; simp only [Nat.zero_add, List.nil_append] at hown2)
      | (refine step_join (by rfl) _ _ (by rfl) (by rfl) hown2 (by rfl) (hrow9 _ (by exact (((Below.refl _ w1).alloc (Nat.le_refl _) _).drew.trans hb2))) (by omega) (by have := hb2.size; simp at this; omega) ?_; intro A3 c3 w3 hown3 hg3 hb3))
    have hown3' := hown3
    have hb13 : Below w1.heap.size w1 w3 := (((Below.refl _ w1).alloc (Nat.le_refl _) _).drew.trans hb2).trans hb3
    have hs3 := hb13.size
    have hrow3 := hrow.below hb13
    have hlit3 : Own (w3.alloc (.cells #[] 3)) w3.heap.size (some ⟨w3.heap.size, 0, none⟩) 0 0 [] := Own.lit w3 [] rfl (by omega) (Nat.le_refl _)
    have hrow3' := hrow3.alloc hs3 (.cells #[] 3)
    have hownx := (hown3.alloc (.cells #[] 3))
    go_wp2_with (at_builtin; refine wpList_join rfl _ _ rfl rfl hlit3 rfl hrow3' (by omega) (by simp) ?_; intro A4 c4 w4 hown4 hg4 hb4; simp only [Nat.zero_add, List.nil_append] at hown4; obtain ⟨g, rfl, hgb, hgl⟩ := hown4.at_ (by omega); have hc4 := hown4.cellAt HX.out; have hf4 := hown4.frozenAt k)
    have hown5 := hown4.stored k 8
    have hb35 := ((Below.refl w3.heap.size w3).alloc (Nat.le_refl _) (.cells #[] 3)).trans (hb4.setCell (p := ⟨g, k, none⟩) hgb (.int .i64 8))
    have hownx5 := hown3'.below hb35 (Nat.le_refl _)
    have hp1 := ListValid_c _ _ _ _ _ _ hownx5.row
    rw [HC1.out] at hp1
    have hp2 := ListValid_c _ _ _ _ _ _ hown5.row
    rw [HC2.out] at hp2
    refine hp1.mono ?_
    rintro e w' ⟨rfl, rfl⟩
    go_wp2_with fail
    refine hp2.mono ?_
    rintro e w' ⟨rfl, rfl⟩
    clear hp1 hp2
    have hfin := hb1.trans ((hb13.trans (hb35.mono hs3)).mono hs1)
    go_wp2
    go_ret
    exact ⟨rfl, hfin⟩

end Go.Proofs.Ytnngacajoemdeaa
