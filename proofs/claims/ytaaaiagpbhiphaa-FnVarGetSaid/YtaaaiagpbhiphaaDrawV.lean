/- The contract of the draw of bytes and a place. No condition. -/
import Derived.Test.YtaaaiagpbhiphaaVar
import Derived.Test.YtaaaiagpbhiphaaDrawBy
namespace Go.Proofs.Ytaaaiagpbhiphaa
open Go.RowKit

/-- The call hands back a slice and a place; what was there is as it was. -/
def PDrawAt (w : World) (e : Ending) (w' : World) : Prop := ∃ (A : Option Addr) (n c : Nat) (xs : List Int) (t : Int), e = .returned (.tuple #[.slice A n c, .int .i64 t]) ∧ Own w' w.heap.size A n c xs ∧ n ≤ 1000 ∧ Below w.heap.size w w'
set_option maxHeartbeats 3200000 in
theorem DrawVarGet_s_c (A : Option Addr) (n c B : Nat) (w : World) (h : BRow w B A n c) (hB : B ≤ w.heap.size) : Calls Try.prog 31 #[.slice A n c] w (PDrawAt w) := by
  go_enter Try.func31, Try.ntmps31
  go_wp2_with fail
  refine (l6Open_c A n c B w h hB).mono ?_
  rintro e w1 ⟨g, rfl, hrd1, hg, hb1⟩
  have hgl := hrd1.lt
  have hs1 := hb1.size
  go_wp2_with fail
  refine (pick_c g 0 4 _ hrd1 (by omega)).mono ?_
  rintro e w2 ⟨x, rfl, hx, hrd2, hg2⟩
  have hz2 := hg2.size
  have hb2 := hb1.trans (below_grown hg2 hs1 hg)
  go_wp2_with fail
  refine (l91Bytes_c g _ x _ hrd2 (by omega) (by omega)).mono ?_
  rintro e w3 ⟨A3, n3, c3, z3, p3, rfl, hown3', hn3, hrd3, hp3, hg3⟩
  have hown3 := hown3'.mono hz2
  have hz3 := Nat.le_trans hz2 hg3.size
  have hb3 := hb2.trans (below_grown hg3 (Nat.le_trans hs1 hz2) hg)
  clear hown3'
  go_wp2_with fail
  refine (pick_c g _ 250 _ hrd3 (by omega)).mono ?_
  rintro e w4 ⟨y1, rfl, hy1, hrd4, hg4⟩
  have hown4 := hown3.grown hg4 hgl
  have hz4 := Nat.le_trans hz3 hg4.size
  have hb4 := hb3.trans (below_grown hg4 (Nat.le_trans hs1 hz3) hg)
  go_wp2_with fail
  refine (pick_c g _ 250 _ hrd4 (by omega)).mono ?_
  rintro e w5 ⟨y2, rfl, hy2, hrd5, hg5⟩
  have hown5 := hown4.grown hg5 hgl
  have hz5 := Nat.le_trans hz4 hg5.size
  have hb5 := hb4.trans (below_grown hg5 (Nat.le_trans hs1 hz4) hg)
  obtain ⟨p0, p1⟩ := mulB (a := (y1 : Int)) (A := 249) (b := 1 + (y2 : Int)) (B := 250) (by omega) (by omega) (by omega) (by omega)
  obtain ⟨r, hr⟩ : ∃ r, varF ((y1 : Int) * (1 + (y2 : Int))) = r := ⟨_, rfl⟩
  obtain ⟨L, hL⟩ : ∃ L, r.length = L := ⟨_, rfl⟩
  have hLb : 1 ≤ L ∧ L ≤ 3 := by
    have := varF_len (n := (y1 : Int) * (1 + (y2 : Int))) ⟨p0, by omega⟩
    rw [hr, hL] at this; omega
  have hvp := VarPut_s_c ((y1 : Int) * (1 + (y2 : Int))) w5
  rw [hr] at hvp
  clear hr
  go_wp2_with fail
  refine hvp.mono ?_
  rintro e w6 ⟨A6, c6, rfl, hown6', hb6'⟩
  clear hvp
  rw [hL] at hown6'
  rw [hL]
  clear hL
  have hown6 := hown5.below hb6' (Nat.le_refl _)
  have hrd6 := hrd5.below hb6' (by omega)
  have hz6 := Nat.le_trans hz5 hb6'.size
  have hb6 := hb5.trans (hb6'.mono (Nat.le_trans hs1 hz5))
  go_wp2_with (at_builtin; refine wpList_join rfl _ _ rfl rfl hown6 rfl hown6'.row (by omega) hz6 ?_; intro A7 c7 w7 hown7 hg7 hb7'; obtain ⟨k, hk⟩ : ∃ k, n3 + L = k + 1 := ⟨n3 + L - 1, by omega⟩; rw [hk] at hown7; rw [hk]; have hk6 : k ≤ 6 := by { omega }; have hrd7 := hrd6.below hb7' hgl; have hz7 := Nat.le_trans hz6 hb7'.size; have hb7 := hb6.trans (hb7'.mono hs1); clear hk)
  refine (pick_c g _ 12 _ hrd7 (by omega)).mono ?_
  rintro e w8 ⟨z, rfl, hz, hrd8, hg8⟩
  have hown8 := hown7.grown hg8 hgl
  have hz8 := Nat.le_trans hz7 hg8.size
  have hb8 := hb7.trans (below_grown hg8 (Nat.le_trans hs1 hz7) hg)
  obtain ⟨g7, rfl, hg7b, hg7l⟩ := hown8.at_ (by omega)
  have hcaps := hown8.caps
  have hcm := hcaps.2
  unfold maxLen at hcm
  have hkc : (k : Int) ≤ (c7 : Int) := by omega
  have hc0 : ¬ c7 = 0 := by omega
  by_cases hz0 : z = 0
  · subst hz0
    have hownP := hown8.pre (k := k) (by omega)
    go_wp2_with fail
    refine (pick_c g _ 3 _ hrd8 (by omega)).mono ?_
    rintro e wa ⟨u, rfl, hu, hrda, hga⟩
    have howna := hownP.grown hga hgl
    have hza := Nat.le_trans hz8 hga.size
    have hbela := hb8.trans (below_grown hga (Nat.le_trans hs1 hz8) hg)
    go_wp2_with fail
    refine (l91Bytes_c g _ u _ hrda (by omega) (by omega)).mono ?_
    rintro e wb ⟨Ab, nb, cb, zb, pb, rfl, hownb0, hnb, hrdb, hpb, hgb⟩
    have hownb := howna.grown hgb hgl
    have hzb := Nat.le_trans hza hgb.size
    have hbelb := hbela.trans (below_grown hgb (Nat.le_trans hs1 hza) hg)
    go_wp2_with (at_builtin; refine wpList_join rfl _ _ rfl rfl hownb rfl hownb0.row (by omega) hzb ?_; intro Ac cc wc hownc hgc hbc; have hfin := hbelb.trans (hbc.mono hs1))
    go_ret2
    exact ⟨_, _, _, _, _, rfl, hownc.mono hs1, by omega, hfin⟩
  have hzb0 : (((z : Nat) : Int) == 0) = false := by simp; omega
  by_cases hz1 : z = 1
  · subst hz1
    obtain ⟨t, ht⟩ : ∃ t, (z3 ++ r)[k]? = some t := ⟨_, List.getElem?_eq_getElem (by rw [hown8.len]; omega)⟩
    have hct := hown8.cellAt ht
    have hft := hown8.frozenAt k
    have hownP := hown8.stored k 128
    have hrd9 := hrd8.below ((Below.refl g7 w8).setCell (p := ⟨g7, k, none⟩) (Nat.le_refl _) (.int .i64 128)) (by omega)
    have hb9 := hb8.trans ((Below.refl w.heap.size w8).setCell (p := ⟨g7, k, none⟩) (by show w.heap.size ≤ g7; omega) (.int .i64 128))
    have hz9 : w1.heap.size ≤ (w8.setCell ⟨g7, k, none⟩ (.int .i64 128)).heap.size := by simpa using hz8
    clear ht
    go_wp2_with fail
    refine (pick_c g _ 3 _ hrd9 (by omega)).mono ?_
    rintro e wa ⟨u, rfl, hu, hrda, hga⟩
    have howna := hownP.grown hga hgl
    have hza := Nat.le_trans hz9 hga.size
    have hbela := hb9.trans (below_grown hga (Nat.le_trans hs1 hz9) hg)
    go_wp2_with fail
    refine (l91Bytes_c g _ u _ hrda (by omega) (by omega)).mono ?_
    rintro e wb ⟨Ab, nb, cb, zb, pb, rfl, hownb0, hnb, hrdb, hpb, hgb⟩
    have hownb := howna.grown hgb hgl
    have hzb := Nat.le_trans hza hgb.size
    have hbelb := hbela.trans (below_grown hgb (Nat.le_trans hs1 hza) hg)
    go_wp2_with (at_builtin; refine wpList_join rfl _ _ rfl rfl hownb rfl hownb0.row (by omega) hzb ?_; intro Ac cc wc hownc hgc hbc; have hfin := hbelb.trans (hbc.mono hs1))
    go_ret2
    exact ⟨_, _, _, _, _, rfl, hownc.mono hs1, by omega, hfin⟩
  have hzb1 : (((z : Nat) : Int) == 1) = false := by simp; omega
  by_cases hz2' : z = 2
  · subst hz2'
    go_wp2_with fail
    refine (pick_c g _ _ _ hrd8 (by omega)).mono ?_
    rintro e w9 ⟨v, rfl, hv, hrd9, hg9⟩
    have hown9 := hown8.grown hg9 hgl
    have hz9 := Nat.le_trans hz8 hg9.size
    have hb9 := hb8.trans (below_grown hg9 (Nat.le_trans hs1 hz8) hg)
    have hv9 : v ≤ 9 := by omega
    go_wp2_with fail
    refine (pick_c g _ 3 _ hrd9 (by omega)).mono ?_
    rintro e wa ⟨u, rfl, hu, hrda, hga⟩
    have howna := hown9.grown hga hgl
    have hza := Nat.le_trans hz9 hga.size
    have hbela := hb9.trans (below_grown hga (Nat.le_trans hs1 hz9) hg)
    go_wp2_with fail
    refine (l91Bytes_c g _ u _ hrda (by omega) (by omega)).mono ?_
    rintro e wb ⟨Ab, nb, cb, zb, pb, rfl, hownb0, hnb, hrdb, hpb, hgb⟩
    have hownb := howna.grown hgb hgl
    have hzb := Nat.le_trans hza hgb.size
    have hbelb := hbela.trans (below_grown hgb (Nat.le_trans hs1 hza) hg)
    go_wp2_with (at_builtin; refine wpList_join rfl _ _ rfl rfl hownb rfl hownb0.row (by omega) hzb ?_; intro Ac cc wc hownc hgc hbc; have hfin := hbelb.trans (hbc.mono hs1))
    go_ret2
    exact ⟨_, _, _, _, _, rfl, hownc.mono hs1, by omega, hfin⟩
  have hzb2 : (((z : Nat) : Int) == 2) = false := by simp; omega
  go_wp2_with fail
  refine (pick_c g _ 3 _ hrd8 (by omega)).mono ?_
  rintro e wa ⟨u, rfl, hu, hrda, hga⟩
  have howna := hown8.grown hga hgl
  have hza := Nat.le_trans hz8 hga.size
  have hbela := hb8.trans (below_grown hga (Nat.le_trans hs1 hz8) hg)
  go_wp2_with fail
  refine (l91Bytes_c g _ u _ hrda (by omega) (by omega)).mono ?_
  rintro e wb ⟨Ab, nb, cb, zb, pb, rfl, hownb0, hnb, hrdb, hpb, hgb⟩
  have hownb := howna.grown hgb hgl
  have hzb := Nat.le_trans hza hgb.size
  have hbelb := hbela.trans (below_grown hgb (Nat.le_trans hs1 hza) hg)
  go_wp2_with (at_builtin; refine wpList_join rfl _ _ rfl rfl hownb rfl hownb0.row (by omega) hzb ?_; intro Ac cc wc hownc hgc hbc; have hfin := hbelb.trans (hbc.mono hs1))
  go_ret2
  exact ⟨_, _, _, _, _, rfl, hownc.mono hs1, by omega, hfin⟩

end Go.Proofs.Ytaaaiagpbhiphaa
