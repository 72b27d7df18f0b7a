/- Contracts of the draws of bits with a number or a place. No condition. -/
import Derived.Test.YtfpieikheofbgaaDrawA2
import Derived.Test.YtfpieikheofbgaaRegF
import Derived.Test.YtfpieikheofbgaaBits1
import Derived.Deep.DeepCutAuto
namespace Go.Proofs.Ytfpieikheofbgaa
open Go.RowKit
set_option linter.unusedVariables false

/-- The call hands back a slice and two numbers; what was there is as it was. -/
def PDraw3 (w : World) (e : Ending) (w' : World) : Prop := ∃ (A : Option Addr) (n c : Nat) (xs : List Int) (t u : Int), e = .returned (.tuple #[.slice A n c, .int .i64 t, .int .i64 u]) ∧ Own w' w.heap.size A n c xs ∧ n ≤ 1000 ∧ Below w.heap.size w w'
theorem PDraw3.mk {w w' : World} {A : Option Addr} {n c : Nat} {xs : List Int} {t u : Int} (h1 : Own w' w.heap.size A n c xs) (h2 : n ≤ 1000) (h3 : Below w.heap.size w w') : PDraw3 w (.returned (.tuple #[.slice A n c, .int .i64 t, .int .i64 u])) w' :=
  ⟨A, n, c, xs, t, u, rfl, h1, h2, h3⟩

set_option maxHeartbeats 800000 in
theorem DrawBitsGet_s_c (A : Option Addr) (n c B : Nat) (w : World) (h : BRow w B A n c) (hB : B ≤ w.heap.size) : Calls Try.prog 27 #[.slice A n c] w (PDraw3 w) := by
  go_enter Try.func27, Try.ntmps27
  go_wp2_with fail
  refine (l6Open_c A n c B w h hB).mono ?_
  rintro e w1 ⟨g, rfl, hrd1, hg, hb1⟩
  go_wp2_with fail
  refine (pick_c g 0 40 _ hrd1 (by omega)).mono ?_
  rintro e w2 ⟨m, rfl, hx, hrd2, hg2⟩
  have hm : m ≤ 39 := by omega
  have hb2 := hb1.trans (below_grown hg2 hb1.size hg)
  go_wp2_with fail
  refine (l91Bits_c g _ m _ hrd2 (by omega) (by omega)).mono ?_
  rintro e w4 ⟨A4, n4, c4, xs, p4, rfl, hown4', hn4, hrd4, hp4, hg4⟩
  have hown4 := hown4'.mono hg2.size
  have hb4 := hb2.trans (below_grown hg4 hb2.size hg)
  have hgl := hrd1.lt
  have hs1 := hb1.size
  go_upto_region 4 with fail
  go_cut [8] (fun v wx => ∃ z : Nat, v = .int .i64 (z : Int) ∧ z ≤ 40 ∧ Own wx w1.heap.size A4 n4 c4 xs ∧ (∃ q, q ≤ 5000 ∧ Rd wx g q) ∧ Below w.heap.size w wx)
  case first =>
    go_wp2_with fail
    all_goals
      refine (pick_c g _ _ _ hrd4 (by omega)).mono ?_
      rintro e w5 ⟨z, rfl, hz, hrd5, hg5⟩
      go_wp2_with fail
      go_meet
      exact ⟨z, rfl, by omega, hown4.grown hg5 hgl, ⟨_, by omega, hrd5⟩, hb4.trans (below_grown hg5 hb4.size hg)⟩
  case rest =>
    obtain ⟨z, rfl, hz17, hown5, ⟨q5, hq5, hrd5⟩, hb5⟩ := hcut
    clear hown4 hrd4 hb4 hown4' hg4 hp4
    go_wp2_with fail
    refine (pick_c g _ _ _ hrd5 (by omega)).mono ?_
    rintro e w6 ⟨y, rfl, hy, hrd6, hg6⟩
    have hy40 : y ≤ 80 := by omega
    have hown6 := hown5.grown hg6 hgl
    have hb6 := hb5.trans (below_grown hg6 hb5.size hg)
    clear hy
    go_wp2_with fail
    refine (pick_c g _ 12 _ hrd6 (by omega)).mono ?_
    rintro e w7 ⟨v, rfl, hv, hrd7, hg7⟩
    have hv12 : v < 12 := by omega
    have hown7 := hown6.grown hg7 hgl
    have hb7 := hb6.trans (below_grown hg7 hb6.size hg)
    have hvd : 0 ≤ (v : Int) / 11 ∧ (v : Int) / 11 ≤ 12 := by omega
    clear hv
    go_wp2_with fail
    refine (pick_c g _ 16 _ hrd7 (by omega)).mono ?_
    rintro e w8 ⟨u, rfl, hu, hrd8, hg8⟩
    have hown8 := hown7.grown hg8 hgl
    have hb8 := hb7.trans (below_grown hg8 hb7.size hg)
    by_cases hu0 : u = 0
    · subst hu0
      go_wp2_with fail
      refine wp_region_flow (by kernel_rfl) (by kernel_rfl) [35, 36, 37, 38, 39, 40, 41, 42, 43, 44, 45, 2, 3, 4] (by kernel_rfl) (by decide) (by decide) (fun x y => x.grownBy y (some g)) (fun k x => (∃ q, q ≤ 8200 + k ∧ Rd x g q) ∧ w8.grownBy x (some g))
        (byNo [FEq (.slice A4 n4 c4), FLit g [-1, 0], FEq (.pointer (some ⟨g, 0, none⟩)), FNum 2, FCell g, FInt, FLit g [-1, 16, 17], FEq (.pointer (some ⟨g, 0, none⟩)), FNum 3, FCell g, FInt, FEq (.slice A4 n4 c4), FInt, FInt])
        (byNo.kept _ (by simp [FEq.kept, FLit.kept, FNum.kept, FCell.kept, FInt.kept])) ⟨⟨_, by omega, hrd8.drewN 1⟩, grown_drewN (World.grownBy.refl _ _) 1⟩ ⟨?_, ?_, ?_, ?_, ?_, ?_, ?_, ?_, ?_, ?_, ?_, ?_, ?_, ?_, trivial⟩ ?_
      · intro vs k x hk ⟨⟨q, hq, hr⟩, hgx⟩ hdep
        intro K hK
        simp only [puts, Act.put, List.setIfInBounds_toArray, List.set_cons_zero, List.set_cons_succ]
        go_simp
        exact hK (.slice A4 n4 c4) x _ (by simp only [puts, Act.put, List.setIfInBounds_toArray, List.set_cons_zero, List.set_cons_succ]) (World.grownBy.refl _ _) ⟨⟨q, by omega, hr⟩, hgx⟩ rfl
      · intro vs k x hk ⟨⟨q, hq, hr⟩, hgx⟩ hdep
        intro K hK
        simp only [puts, Act.put, List.setIfInBounds_toArray, List.set_cons_zero, List.set_cons_succ]
        go_simp
        exact hK (.slice (some ⟨x.heap.size, 0, none⟩) 2 2) (x.alloc (.cells #[.int .i64 (-1), .int .i64 (0)] 3)) _ (by simp only [puts, Act.put, List.setIfInBounds_toArray, List.set_cons_zero, List.set_cons_succ]) (World.grownBy_alloc _ _ _) ⟨⟨q, by omega, hr.alloc _⟩, grown_alloc hgx _⟩ (FLit.mk [-1, 0] 3 rfl hr.lt)
      · intro vs k x hk ⟨⟨q, hq, hr⟩, hgx⟩ hdep
        intro K hK
        simp only [puts, Act.put, List.setIfInBounds_toArray, List.set_cons_zero, List.set_cons_succ]
        go_simp
        exact hK (.pointer (some ⟨g, 0, none⟩)) x _ (by simp only [puts, Act.put, List.setIfInBounds_toArray, List.set_cons_zero, List.set_cons_succ]) (World.grownBy.refl _ _) ⟨⟨q, by omega, hr⟩, hgx⟩ rfl
      · intro vs k x hk ⟨⟨q, hq, hr⟩, hgx⟩ hdep
        have e1 : FEq (.pointer (some ⟨g, 0, none⟩)) (vs 2) x := hdep ⟨2, .data⟩ (by simp) rfl
        unfold FEq at e1
        intro K hK
        simp only [puts, Act.put, List.setIfInBounds_toArray, List.set_cons_zero, List.set_cons_succ]
        simp only [e1]
        go_simp
        refine (pick_c g q 2 x hr (by omega)).mono ?_
        rintro e x' ⟨z, rfl, hz, hr', hg'⟩
        exact hK (.int .i64 (z : Int)) x' _ (by simp only [puts, Act.put, List.setIfInBounds_toArray, List.set_cons_zero, List.set_cons_succ]; simp only [e1]) hg' ⟨⟨q + 1, by omega, hr'⟩, grown_trans hgx hg'⟩ ⟨z, by omega, rfl⟩
      · intro vs k x hk ⟨⟨q, hq, hr⟩, hgx⟩ hdep
        have d1 := hdep ⟨1, .data⟩ (by simp) rfl
        simp only [byNo, List.getD_cons_succ, List.getD_cons_zero] at d1
        obtain ⟨g1, e1, hne, hcs⟩ := d1
        have d3 := hdep ⟨3, .data⟩ (by simp) rfl
        simp only [byNo, List.getD_cons_succ, List.getD_cons_zero] at d3
        obtain ⟨z, hz, e3⟩ := d3
        have hzI : (z : Int) < 2 := by omega
        intro K hK
        simp only [puts, Act.put, List.setIfInBounds_toArray, List.set_cons_zero, List.set_cons_succ]
        simp only [e1, e3]
        go_simp
        exact hK (.pointer (some ⟨g1, z, none⟩)) x _ (by simp only [puts, Act.put, List.setIfInBounds_toArray, List.set_cons_zero, List.set_cons_succ]; simp only [e1, e3] <;> rfl) (World.grownBy.refl _ _) ⟨⟨q, by omega, hr⟩, hgx⟩ ⟨_, _, rfl, hne, hcs z _ (List.getElem?_eq_getElem (by simp; omega))⟩
      · intro vs k x hk ⟨⟨q, hq, hr⟩, hgx⟩ hdep
        have d4 := hdep ⟨4, .data⟩ (by simp) rfl
        simp only [byNo, List.getD_cons_succ, List.getD_cons_zero] at d4
        obtain ⟨p, u, e1, hne, hcu⟩ := d4
        intro K hK
        simp only [puts, Act.put, List.setIfInBounds_toArray, List.set_cons_zero, List.set_cons_succ]
        simp only [e1]
        go_simp
        exact hK (.int .i64 u) x _ (by simp only [puts, Act.put, List.setIfInBounds_toArray, List.set_cons_zero, List.set_cons_succ]; simp only [e1]) (World.grownBy.refl _ _) ⟨⟨q, by omega, hr⟩, hgx⟩ ⟨u, rfl⟩
      · intro vs k x hk ⟨⟨q, hq, hr⟩, hgx⟩ hdep
        intro K hK
        simp only [puts, Act.put, List.setIfInBounds_toArray, List.set_cons_zero, List.set_cons_succ]
        go_simp
        exact hK (.slice (some ⟨x.heap.size, 0, none⟩) 3 3) (x.alloc (.cells #[.int .i64 (-1), .int .i64 (16), .int .i64 (17)] 3)) _ (by simp only [puts, Act.put, List.setIfInBounds_toArray, List.set_cons_zero, List.set_cons_succ]) (World.grownBy_alloc _ _ _) ⟨⟨q, by omega, hr.alloc _⟩, grown_alloc hgx _⟩ (FLit.mk [-1, 16, 17] 3 rfl hr.lt)
      · intro vs k x hk ⟨⟨q, hq, hr⟩, hgx⟩ hdep
        intro K hK
        simp only [puts, Act.put, List.setIfInBounds_toArray, List.set_cons_zero, List.set_cons_succ]
        go_simp
        exact hK (.pointer (some ⟨g, 0, none⟩)) x _ (by simp only [puts, Act.put, List.setIfInBounds_toArray, List.set_cons_zero, List.set_cons_succ]) (World.grownBy.refl _ _) ⟨⟨q, by omega, hr⟩, hgx⟩ rfl
      · intro vs k x hk ⟨⟨q, hq, hr⟩, hgx⟩ hdep
        have e1 : FEq (.pointer (some ⟨g, 0, none⟩)) (vs 7) x := hdep ⟨7, .data⟩ (by simp) rfl
        unfold FEq at e1
        intro K hK
        simp only [puts, Act.put, List.setIfInBounds_toArray, List.set_cons_zero, List.set_cons_succ]
        simp only [e1]
        go_simp
        refine (pick_c g q 3 x hr (by omega)).mono ?_
        rintro e x' ⟨z, rfl, hz, hr', hg'⟩
        exact hK (.int .i64 (z : Int)) x' _ (by simp only [puts, Act.put, List.setIfInBounds_toArray, List.set_cons_zero, List.set_cons_succ]; simp only [e1]) hg' ⟨⟨q + 1, by omega, hr'⟩, grown_trans hgx hg'⟩ ⟨z, by omega, rfl⟩
      · intro vs k x hk ⟨⟨q, hq, hr⟩, hgx⟩ hdep
        have d6 := hdep ⟨6, .data⟩ (by simp) rfl
        simp only [byNo, List.getD_cons_succ, List.getD_cons_zero] at d6
        obtain ⟨g1, e1, hne, hcs⟩ := d6
        have d8 := hdep ⟨8, .data⟩ (by simp) rfl
        simp only [byNo, List.getD_cons_succ, List.getD_cons_zero] at d8
        obtain ⟨z, hz, e3⟩ := d8
        have hzI : (z : Int) < 3 := by omega
        intro K hK
        simp only [puts, Act.put, List.setIfInBounds_toArray, List.set_cons_zero, List.set_cons_succ]
        simp only [e1, e3]
        go_simp
        exact hK (.pointer (some ⟨g1, z, none⟩)) x _ (by simp only [puts, Act.put, List.setIfInBounds_toArray, List.set_cons_zero, List.set_cons_succ]; simp only [e1, e3] <;> rfl) (World.grownBy.refl _ _) ⟨⟨q, by omega, hr⟩, hgx⟩ ⟨_, _, rfl, hne, hcs z _ (List.getElem?_eq_getElem (by simp; omega))⟩
      · intro vs k x hk ⟨⟨q, hq, hr⟩, hgx⟩ hdep
        have d9 := hdep ⟨9, .data⟩ (by simp) rfl
        simp only [byNo, List.getD_cons_succ, List.getD_cons_zero] at d9
        obtain ⟨p, u, e1, hne, hcu⟩ := d9
        intro K hK
        simp only [puts, Act.put, List.setIfInBounds_toArray, List.set_cons_zero, List.set_cons_succ]
        simp only [e1]
        go_simp
        exact hK (.int .i64 u) x _ (by simp only [puts, Act.put, List.setIfInBounds_toArray, List.set_cons_zero, List.set_cons_succ]; simp only [e1]) (World.grownBy.refl _ _) ⟨⟨q, by omega, hr⟩, hgx⟩ ⟨u, rfl⟩
      · intro vs k x hk ⟨⟨q, hq, hr⟩, hgx⟩ hdep
        have e1 : FEq (.slice A4 n4 c4) (vs 0) x := hdep ⟨0, .data⟩ (by simp) rfl
        unfold FEq at e1
        intro K hK
        simp only [puts, Act.put, List.setIfInBounds_toArray, List.set_cons_zero, List.set_cons_succ]
        simp only [e1]
        go_simp
        exact hK (.slice A4 n4 c4) x _ (by simp only [puts, Act.put, List.setIfInBounds_toArray, List.set_cons_zero, List.set_cons_succ]; simp only [e1]) (World.grownBy.refl _ _) ⟨⟨q, by omega, hr⟩, hgx⟩ rfl
      · intro vs k x hk ⟨⟨q, hq, hr⟩, hgx⟩ hdep
        have d5 := hdep ⟨5, .data⟩ (by simp) rfl
        simp only [byNo, List.getD_cons_succ, List.getD_cons_zero] at d5
        obtain ⟨u, e1⟩ := d5
        intro K hK
        simp only [puts, Act.put, List.setIfInBounds_toArray, List.set_cons_zero, List.set_cons_succ]
        simp only [e1]
        go_simp
        exact hK (.int .i64 u) x _ (by simp only [puts, Act.put, List.setIfInBounds_toArray, List.set_cons_zero, List.set_cons_succ]; simp only [e1]) (World.grownBy.refl _ _) ⟨⟨q, by omega, hr⟩, hgx⟩ ⟨u, rfl⟩
      · intro vs k x hk ⟨⟨q, hq, hr⟩, hgx⟩ hdep
        have d10 := hdep ⟨10, .data⟩ (by simp) rfl
        simp only [byNo, List.getD_cons_succ, List.getD_cons_zero] at d10
        obtain ⟨u, e1⟩ := d10
        intro K hK
        simp only [puts, Act.put, List.setIfInBounds_toArray, List.set_cons_zero, List.set_cons_succ]
        simp only [e1]
        go_simp
        exact hK (.int .i64 u) x _ (by simp only [puts, Act.put, List.setIfInBounds_toArray, List.set_cons_zero, List.set_cons_succ]; simp only [e1]) (World.grownBy.refl _ _) ⟨⟨q, by omega, hr⟩, hgx⟩ ⟨u, rfl⟩
      · intro vs x hall ⟨⟨q, hq, hr⟩, hgx⟩
        have e1 : FEq (.slice A4 n4 c4) (vs 11) x := hall 11 (by decide)
        have d12 := hall 12 (by decide)
        simp only [byNo, List.getD_cons_succ, List.getD_cons_zero] at d12
        obtain ⟨u2, e2⟩ := d12
        have d13 := hall 13 (by decide)
        simp only [byNo, List.getD_cons_succ, List.getD_cons_zero] at d13
        obtain ⟨u3, e3⟩ := d13
        unfold FEq at e1
        have hownx := hown8.grown hgx hgl
        have hbx := hb8.trans (below_grown hgx hb8.size hg)
        simp only [puts, Act.put, List.setIfInBounds_toArray, List.set_cons_zero, List.set_cons_succ]
        simp only [e1, e2, e3]
        clear hall
        go_wp2
        go_ret3
        exact PDraw3.mk (hownx.mono hb1.size) (by omega) hbx
    · have hub : (((u : Nat) : Int) == 0) = false := by simp; omega
      go_wp2
      go_ret3
      exact PDraw3.mk (hown8.mono hb1.size) (by omega) hb8
set_option maxHeartbeats 3200000 in
theorem DrawBitsPut_s_c (A : Option Addr) (n c B : Nat) (w : World) (h : BRow w B A n c) (hB : B ≤ w.heap.size) : Calls Try.prog 30 #[.slice A n c] w (PDraw3 w) := by
  go_enter Try.func30, Try.ntmps30
  go_wp2_with fail
  refine (l6Open_c A n c B w h hB).mono ?_
  rintro e w1 ⟨g, rfl, hrd1, hg, hb1⟩
  go_wp2_with fail
  refine (pick_c g 0 20 _ hrd1 (by omega)).mono ?_
  rintro e w2 ⟨m, rfl, hx, hrd2, hg2⟩
  have hm : m ≤ 39 := by omega
  have hb2 := hb1.trans (below_grown hg2 hb1.size hg)
  go_wp2_with fail
  refine (l91Bits_c g _ m _ hrd2 (by omega) (by omega)).mono ?_
  rintro e w4 ⟨A4, n4, c4, xs, p4, rfl, hown4', hn4, hrd4, hp4, hg4⟩
  have hown4 := hown4'.mono hg2.size
  have hb4 := hb2.trans (below_grown hg4 hb2.size hg)
  have hgl := hrd1.lt
  have hs1 := hb1.size
  go_wp2_with fail
  refine (pick_c g _ 17 _ hrd4 (by omega)).mono ?_
  rintro e w5 ⟨z, rfl, hz, hrd5, hg5⟩
  have hz17 : z ≤ 16 := by omega
  have hown5 := hown4.grown hg5 hgl
  have hb5 := hb4.trans (below_grown hg5 hb4.size hg)
  go_upto_region 4 with fail
  go_cut [8] (fun v wx => ∃ y : Int, v = .int .i64 y ∧ Own wx w1.heap.size A4 n4 c4 xs ∧ (∃ q, q ≤ 5000 ∧ Rd wx g q) ∧ Below w.heap.size w wx)
  case first =>
    go_wp2_with fail
    · refine (l1Power_c 7 _ (by omega)).mono ?_
      rintro e w' ⟨rfl, rfl⟩
      go_wp2_with fail
      refine (pick_c g _ _ _ hrd5 (by omega)).mono ?_
      rintro e w6 ⟨y, rfl, hy, hrd6, hg6⟩
      go_wp2_with fail
      go_meet
      exact ⟨_, rfl, hown5.grown hg6 hgl, ⟨_, by omega, hrd6⟩, hb5.trans (below_grown hg6 hb5.size hg)⟩
    · refine (l1Power_c z _ (by omega)).mono ?_
      rintro e w' ⟨rfl, rfl⟩
      go_wp2_with fail
      refine (pick_c g _ _ _ hrd5 (by omega)).mono ?_
      rintro e w6 ⟨y, rfl, hy, hrd6, hg6⟩
      go_wp2_with fail
      go_meet
      exact ⟨_, rfl, hown5.grown hg6 hgl, ⟨_, by omega, hrd6⟩, hb5.trans (below_grown hg6 hb5.size hg)⟩
  case rest =>
    obtain ⟨y, rfl, hown6, ⟨q5, hq5, hrd6⟩, hb6⟩ := hcut
    clear hown4 hrd4 hb4 hown4' hg4 hp4 hown5 hb5 hrd5 hg5
    go_wp2_with fail
    refine (pick_c g _ 16 _ hrd6 (by omega)).mono ?_
    rintro e w8 ⟨u, rfl, hu, hrd8, hg8⟩
    have hown8 := hown6.grown hg8 hgl
    have hb8 := hb6.trans (below_grown hg8 hb6.size hg)
    by_cases hu0 : u = 0
    · subst hu0
      go_wp2_with fail
      refine wp_region_flow (by kernel_rfl) (by kernel_rfl) [25, 26, 27, 28, 29, 30, 31, 32, 33, 34, 35, 36, 37, 38, 2, 3, 4] (by kernel_rfl) (by decide) (by decide) (fun x y => x.grownBy y (some g)) (fun k x => (∃ q, q ≤ 8200 + k ∧ Rd x g q) ∧ w8.grownBy x (some g))
        (byNo [FEq (.slice A4 n4 c4), FEq (.int .i64 (z : Int)), FEq (.int .i64 (2 ^ z)), FLit g [-1, 2 ^ z, 65535, 65536], FEq (.pointer (some ⟨g, 0, none⟩)), FNum 4, FCell g, FInt, FEq (.int .i64 (z : Int)), FLit g [-1, (z : Int), 16, 17], FEq (.pointer (some ⟨g, 0, none⟩)), FNum 4, FCell g, FInt, FEq (.slice A4 n4 c4), FInt, FInt])
        (byNo.kept _ (by simp [FEq.kept, FLit.kept, FNum.kept, FCell.kept, FInt.kept])) ⟨⟨_, by omega, hrd8.drewN 1⟩, grown_drewN (World.grownBy.refl _ _) 1⟩ ⟨?_, ?_, ?_, ?_, ?_, ?_, ?_, ?_, ?_, ?_, ?_, ?_, ?_, ?_, ?_, ?_, ?_, trivial⟩ ?_
      · intro vs k x hk ⟨⟨q, hq, hr⟩, hgx⟩ hdep
        intro K hK
        simp only [puts, Act.put, List.setIfInBounds_toArray, List.set_cons_zero, List.set_cons_succ]
        go_simp
        exact hK (.slice A4 n4 c4) x _ (by simp only [puts, Act.put, List.setIfInBounds_toArray, List.set_cons_zero, List.set_cons_succ]) (World.grownBy.refl _ _) ⟨⟨q, by omega, hr⟩, hgx⟩ rfl
      · intro vs k x hk ⟨⟨q, hq, hr⟩, hgx⟩ hdep
        intro K hK
        simp only [puts, Act.put, List.setIfInBounds_toArray, List.set_cons_zero, List.set_cons_succ]
        go_simp
        exact hK (.int .i64 (z : Int)) x _ (by simp only [puts, Act.put, List.setIfInBounds_toArray, List.set_cons_zero, List.set_cons_succ]) (World.grownBy.refl _ _) ⟨⟨q, by omega, hr⟩, hgx⟩ rfl
      · intro vs k x hk ⟨⟨q, hq, hr⟩, hgx⟩ hdep
        have e0 : FEq (.int .i64 (z : Int)) (vs 1) x := hdep ⟨1, .data⟩ (by simp) rfl
        unfold FEq at e0
        intro K hK
        simp only [puts, Act.put, List.setIfInBounds_toArray, List.set_cons_zero, List.set_cons_succ]
        simp only [e0]
        go_simp
        refine (l1Power_c z x (by omega)).mono ?_
        rintro e x' ⟨rfl, rfl⟩
        exact hK (.int .i64 (2 ^ z)) x _ (by simp only [puts, Act.put, List.setIfInBounds_toArray, List.set_cons_zero, List.set_cons_succ]; simp only [e0]) (World.grownBy.refl _ _) ⟨⟨q, by omega, hr⟩, hgx⟩ rfl
      · intro vs k x hk ⟨⟨q, hq, hr⟩, hgx⟩ hdep
        have e0 : FEq (.int .i64 (2 ^ z)) (vs 2) x := hdep ⟨2, .data⟩ (by simp) rfl
        unfold FEq at e0
        intro K hK
        simp only [puts, Act.put, List.setIfInBounds_toArray, List.set_cons_zero, List.set_cons_succ]
        simp only [e0]
        go_simp
        exact hK (.slice (some ⟨x.heap.size, 0, none⟩) 4 4) (x.alloc (.cells #[.int .i64 (-1), .int .i64 (2 ^ z), .int .i64 (65535), .int .i64 (65536)] 3)) _ (by simp only [puts, Act.put, List.setIfInBounds_toArray, List.set_cons_zero, List.set_cons_succ]; simp only [e0]) (World.grownBy_alloc _ _ _) ⟨⟨q, by omega, hr.alloc _⟩, grown_alloc hgx _⟩ (FLit.mk [-1, 2 ^ z, 65535, 65536] 3 rfl hr.lt)
      · intro vs k x hk ⟨⟨q, hq, hr⟩, hgx⟩ hdep
        intro K hK
        simp only [puts, Act.put, List.setIfInBounds_toArray, List.set_cons_zero, List.set_cons_succ]
        go_simp
        exact hK (.pointer (some ⟨g, 0, none⟩)) x _ (by simp only [puts, Act.put, List.setIfInBounds_toArray, List.set_cons_zero, List.set_cons_succ]) (World.grownBy.refl _ _) ⟨⟨q, by omega, hr⟩, hgx⟩ rfl
      · intro vs k x hk ⟨⟨q, hq, hr⟩, hgx⟩ hdep
        have e1 : FEq (.pointer (some ⟨g, 0, none⟩)) (vs 4) x := hdep ⟨4, .data⟩ (by simp) rfl
        unfold FEq at e1
        intro K hK
        simp only [puts, Act.put, List.setIfInBounds_toArray, List.set_cons_zero, List.set_cons_succ]
        simp only [e1]
        go_simp
        refine (pick_c g q 4 x hr (by omega)).mono ?_
        rintro e x' ⟨z, rfl, hz, hr', hg'⟩
        exact hK (.int .i64 (z : Int)) x' _ (by simp only [puts, Act.put, List.setIfInBounds_toArray, List.set_cons_zero, List.set_cons_succ]; simp only [e1]) hg' ⟨⟨q + 1, by omega, hr'⟩, grown_trans hgx hg'⟩ ⟨z, by omega, rfl⟩
      · intro vs k x hk ⟨⟨q, hq, hr⟩, hgx⟩ hdep
        have d3 := hdep ⟨3, .data⟩ (by simp) rfl
        simp only [byNo, List.getD_cons_succ, List.getD_cons_zero] at d3
        obtain ⟨g1, e1, hne, hcs⟩ := d3
        have d5 := hdep ⟨5, .data⟩ (by simp) rfl
        simp only [byNo, List.getD_cons_succ, List.getD_cons_zero] at d5
        obtain ⟨z, hz, e3⟩ := d5
        have hzI : (z : Int) < 4 := by omega
        intro K hK
        simp only [puts, Act.put, List.setIfInBounds_toArray, List.set_cons_zero, List.set_cons_succ]
        simp only [e1, e3]
        go_simp
        exact hK (.pointer (some ⟨g1, z, none⟩)) x _ (by simp only [puts, Act.put, List.setIfInBounds_toArray, List.set_cons_zero, List.set_cons_succ]; simp only [e1, e3] <;> rfl) (World.grownBy.refl _ _) ⟨⟨q, by omega, hr⟩, hgx⟩ ⟨_, _, rfl, hne, hcs z _ (List.getElem?_eq_getElem (by simp; omega))⟩
      · intro vs k x hk ⟨⟨q, hq, hr⟩, hgx⟩ hdep
        have d6 := hdep ⟨6, .data⟩ (by simp) rfl
        simp only [byNo, List.getD_cons_succ, List.getD_cons_zero] at d6
        obtain ⟨p, u, e1, hne, hcu⟩ := d6
        intro K hK
        simp only [puts, Act.put, List.setIfInBounds_toArray, List.set_cons_zero, List.set_cons_succ]
        simp only [e1]
        go_simp
        exact hK (.int .i64 u) x _ (by simp only [puts, Act.put, List.setIfInBounds_toArray, List.set_cons_zero, List.set_cons_succ]; simp only [e1]) (World.grownBy.refl _ _) ⟨⟨q, by omega, hr⟩, hgx⟩ ⟨u, rfl⟩
      · intro vs k x hk ⟨⟨q, hq, hr⟩, hgx⟩ hdep
        intro K hK
        simp only [puts, Act.put, List.setIfInBounds_toArray, List.set_cons_zero, List.set_cons_succ]
        go_simp
        exact hK (.int .i64 (z : Int)) x _ (by simp only [puts, Act.put, List.setIfInBounds_toArray, List.set_cons_zero, List.set_cons_succ]) (World.grownBy.refl _ _) ⟨⟨q, by omega, hr⟩, hgx⟩ rfl
      · intro vs k x hk ⟨⟨q, hq, hr⟩, hgx⟩ hdep
        have e0 : FEq (.int .i64 (z : Int)) (vs 8) x := hdep ⟨8, .data⟩ (by simp) rfl
        unfold FEq at e0
        intro K hK
        simp only [puts, Act.put, List.setIfInBounds_toArray, List.set_cons_zero, List.set_cons_succ]
        simp only [e0]
        go_simp
        exact hK (.slice (some ⟨x.heap.size, 0, none⟩) 4 4) (x.alloc (.cells #[.int .i64 (-1), .int .i64 ((z : Int)), .int .i64 (16), .int .i64 (17)] 3)) _ (by simp only [puts, Act.put, List.setIfInBounds_toArray, List.set_cons_zero, List.set_cons_succ]; simp only [e0]) (World.grownBy_alloc _ _ _) ⟨⟨q, by omega, hr.alloc _⟩, grown_alloc hgx _⟩ (FLit.mk [-1, (z : Int), 16, 17] 3 rfl hr.lt)
      · intro vs k x hk ⟨⟨q, hq, hr⟩, hgx⟩ hdep
        intro K hK
        simp only [puts, Act.put, List.setIfInBounds_toArray, List.set_cons_zero, List.set_cons_succ]
        go_simp
        exact hK (.pointer (some ⟨g, 0, none⟩)) x _ (by simp only [puts, Act.put, List.setIfInBounds_toArray, List.set_cons_zero, List.set_cons_succ]) (World.grownBy.refl _ _) ⟨⟨q, by omega, hr⟩, hgx⟩ rfl
      · intro vs k x hk ⟨⟨q, hq, hr⟩, hgx⟩ hdep
        have e1 : FEq (.pointer (some ⟨g, 0, none⟩)) (vs 10) x := hdep ⟨10, .data⟩ (by simp) rfl
        unfold FEq at e1
        intro K hK
        simp only [puts, Act.put, List.setIfInBounds_toArray, List.set_cons_zero, List.set_cons_succ]
        simp only [e1]
        go_simp
        refine (pick_c g q 4 x hr (by omega)).mono ?_
        rintro e x' ⟨z, rfl, hz, hr', hg'⟩
        exact hK (.int .i64 (z : Int)) x' _ (by simp only [puts, Act.put, List.setIfInBounds_toArray, List.set_cons_zero, List.set_cons_succ]; simp only [e1]) hg' ⟨⟨q + 1, by omega, hr'⟩, grown_trans hgx hg'⟩ ⟨z, by omega, rfl⟩
      · intro vs k x hk ⟨⟨q, hq, hr⟩, hgx⟩ hdep
        have d9 := hdep ⟨9, .data⟩ (by simp) rfl
        simp only [byNo, List.getD_cons_succ, List.getD_cons_zero] at d9
        obtain ⟨g1, e1, hne, hcs⟩ := d9
        have d11 := hdep ⟨11, .data⟩ (by simp) rfl
        simp only [byNo, List.getD_cons_succ, List.getD_cons_zero] at d11
        obtain ⟨z, hz, e3⟩ := d11
        have hzI : (z : Int) < 4 := by omega
        intro K hK
        simp only [puts, Act.put, List.setIfInBounds_toArray, List.set_cons_zero, List.set_cons_succ]
        simp only [e1, e3]
        go_simp
        exact hK (.pointer (some ⟨g1, z, none⟩)) x _ (by simp only [puts, Act.put, List.setIfInBounds_toArray, List.set_cons_zero, List.set_cons_succ]; simp only [e1, e3] <;> rfl) (World.grownBy.refl _ _) ⟨⟨q, by omega, hr⟩, hgx⟩ ⟨_, _, rfl, hne, hcs z _ (List.getElem?_eq_getElem (by simp; omega))⟩
      · intro vs k x hk ⟨⟨q, hq, hr⟩, hgx⟩ hdep
        have d12 := hdep ⟨12, .data⟩ (by simp) rfl
        simp only [byNo, List.getD_cons_succ, List.getD_cons_zero] at d12
        obtain ⟨p, u, e1, hne, hcu⟩ := d12
        intro K hK
        simp only [puts, Act.put, List.setIfInBounds_toArray, List.set_cons_zero, List.set_cons_succ]
        simp only [e1]
        go_simp
        exact hK (.int .i64 u) x _ (by simp only [puts, Act.put, List.setIfInBounds_toArray, List.set_cons_zero, List.set_cons_succ]; simp only [e1]) (World.grownBy.refl _ _) ⟨⟨q, by omega, hr⟩, hgx⟩ ⟨u, rfl⟩
      · intro vs k x hk ⟨⟨q, hq, hr⟩, hgx⟩ hdep
        have e1 : FEq (.slice A4 n4 c4) (vs 0) x := hdep ⟨0, .data⟩ (by simp) rfl
        unfold FEq at e1
        intro K hK
        simp only [puts, Act.put, List.setIfInBounds_toArray, List.set_cons_zero, List.set_cons_succ]
        simp only [e1]
        go_simp
        exact hK (.slice A4 n4 c4) x _ (by simp only [puts, Act.put, List.setIfInBounds_toArray, List.set_cons_zero, List.set_cons_succ]; simp only [e1]) (World.grownBy.refl _ _) ⟨⟨q, by omega, hr⟩, hgx⟩ rfl
      · intro vs k x hk ⟨⟨q, hq, hr⟩, hgx⟩ hdep
        have d7 := hdep ⟨7, .data⟩ (by simp) rfl
        simp only [byNo, List.getD_cons_succ, List.getD_cons_zero] at d7
        obtain ⟨u, e1⟩ := d7
        intro K hK
        simp only [puts, Act.put, List.setIfInBounds_toArray, List.set_cons_zero, List.set_cons_succ]
        simp only [e1]
        go_simp
        exact hK (.int .i64 u) x _ (by simp only [puts, Act.put, List.setIfInBounds_toArray, List.set_cons_zero, List.set_cons_succ]; simp only [e1]) (World.grownBy.refl _ _) ⟨⟨q, by omega, hr⟩, hgx⟩ ⟨u, rfl⟩
      · intro vs k x hk ⟨⟨q, hq, hr⟩, hgx⟩ hdep
        have d13 := hdep ⟨13, .data⟩ (by simp) rfl
        simp only [byNo, List.getD_cons_succ, List.getD_cons_zero] at d13
        obtain ⟨u, e1⟩ := d13
        intro K hK
        simp only [puts, Act.put, List.setIfInBounds_toArray, List.set_cons_zero, List.set_cons_succ]
        simp only [e1]
        go_simp
        exact hK (.int .i64 u) x _ (by simp only [puts, Act.put, List.setIfInBounds_toArray, List.set_cons_zero, List.set_cons_succ]; simp only [e1]) (World.grownBy.refl _ _) ⟨⟨q, by omega, hr⟩, hgx⟩ ⟨u, rfl⟩
      · intro vs x hall ⟨⟨q, hq, hr⟩, hgx⟩
        have e1 : FEq (.slice A4 n4 c4) (vs 14) x := hall 14 (by decide)
        unfold FEq at e1
        have d15 := hall 15 (by decide)
        simp only [byNo, List.getD_cons_succ, List.getD_cons_zero] at d15
        obtain ⟨u2, e2⟩ := d15
        have d16 := hall 16 (by decide)
        simp only [byNo, List.getD_cons_succ, List.getD_cons_zero] at d16
        obtain ⟨u3, e3⟩ := d16
        have hownx := hown8.grown hgx hgl
        have hbx := hb8.trans (below_grown hgx hb8.size hg)
        simp only [puts, Act.put, List.setIfInBounds_toArray, List.set_cons_zero, List.set_cons_succ]
        simp only [e1, e2, e3]
        clear hall
        go_wp2
        go_ret3
        exact PDraw3.mk (hownx.mono hb1.size) (by omega) hbx
    · have hub : (((u : Nat) : Int) == 0) = false := by simp; omega
      go_wp2
      go_ret3
      exact PDraw3.mk (hown8.mono hb1.size) (by omega) hb8
end Go.Proofs.Ytfpieikheofbgaa
