/- The draw of the sums of two lists. No condition. -/
import Derived.Test.YtfobmhhikmaggaaDrawBy
import Derived.Test.YtfobmhhikmaggaaRegF
import Derived.Test.YtfobmhhikmaggaaSums
import Derived.Deep.DeepCutAuto
namespace Go.Proofs.Ytfobmhhikmaggaa
open Go.RowKit
set_option linter.unusedVariables false

/-- The call hands back five numbers; what was there is as it was. -/
def PDraw5 (w : World) (e : Ending) (w' : World) : Prop := ∃ (a b c d m : Int), e = .returned (.tuple #[.int .i64 a, .int .i64 b, .int .i64 c, .int .i64 d, .int .i64 m]) ∧ Below w.heap.size w w'
theorem PDraw5.mk {w w' : World} {a b c d m : Int} (h : Below w.heap.size w w') : PDraw5 w (.returned (.tuple #[.int .i64 a, .int .i64 b, .int .i64 c, .int .i64 d, .int .i64 m])) w' :=
  ⟨a, b, c, d, m, rfl, h⟩


set_option maxHeartbeats 3200000 in
theorem DrawPairJoin_s_c (A : Option Addr) (n c B : Nat) (w : World) (h : BRow w B A n c) (hB : B ≤ w.heap.size) : Calls Try.prog 18 #[.slice A n c] w (PDraw5 w) := by
  go_enter Try.func18, Try.ntmps18
  go_wp2_with fail
  refine (l6Open_c A n c B w h hB).mono ?_
  rintro e w1 ⟨g, rfl, hrd1, hg, hb1⟩
  go_wp2_with fail
  refine (pick_c g 0 8 _ hrd1 (by omega)).mono ?_
  rintro e w2 ⟨m, rfl, hx, hrd2, hg2⟩
  have hb2 := hb1.trans (below_grown hg2 hb1.size hg)
  go_wp2_with fail
  refine (l91Bytes_c g _ m _ hrd2 (by omega) (by omega)).mono ?_
  rintro e w4 ⟨A4, n4, c4, xs, p4, rfl, hown4', hn4, hrd4, hp4, hg4⟩
  have hown4 := hown4'.mono hg2.size
  have hb4 := hb2.trans (below_grown hg4 hb2.size hg)
  have hgl := hrd1.lt
  have hs1 := hb1.size
  have hs4 := hg2.size
  go_wp2_with fail
  refine (pick_c g _ 8 _ hrd4 (by omega)).mono ?_
  rintro e w5 ⟨m5, rfl, hx5, hrd5, hg5⟩
  have hown5 := hown4.grown hg5 hgl
  have hb5 := hb4.trans (below_grown hg5 hb4.size hg)
  go_wp2_with fail
  refine (l91Bytes_c g _ m5 _ hrd5 (by omega) (by omega)).mono ?_
  rintro e w6 ⟨A6, n6, c6, ys, p6, rfl, hown6', hn6, hrd6, hp6, hg6⟩
  have hown6 := hown5.grown hg6 hgl
  have hb6 := hb5.trans (below_grown hg6 hb5.size hg)
  obtain ⟨⟨a, b, o1⟩, hP⟩ : ∃ r, pairF xs = r := ⟨_, rfl⟩
  obtain ⟨⟨c, d, o2⟩, hQ⟩ : ∃ r, pairF ys = r := ⟨_, rfl⟩
  have k1 := PairOf_s_c _ _ _ _ _ w6 hown6.row
  have k2 := PairOf_s_c _ _ _ _ _ w6 hown6'.row
  rw [hP] at k1
  rw [hQ] at k2
  clear hP hQ hown6 hown6' hown5 hown4 hown4' hrd1 hrd2 hrd4 hrd5 hg2 hg4 hg5 hg6 hb1 hb2 hb4 hb5
  go_wp2_with fail
  refine k1.mono ?_
  rintro e w' ⟨rfl, rfl⟩
  clear k1
  go_wp2_with fail
  refine k2.mono ?_
  rintro e w' ⟨rfl, rfl⟩
  clear k2
  go_wp2_with fail
  refine (pick_c g _ 12 _ hrd6 (by omega)).mono ?_
  rintro e w8 ⟨u, rfl, hu, hrd8, hg8⟩
  have hb8 := hb6.trans (below_grown hg8 hb6.size hg)
  by_cases hu0 : u = 0
  · subst hu0
    go_wp2_with fail
    refine wp_region_flow (by kernel_rfl) (by kernel_rfl) [41, 42, 43, 44, 45, 46, 47, 48, 49, 50, 51, 52, 53, 2, 3, 4, 5, 6] (by kernel_rfl) (by decide) (by decide) (fun x y => x.grownBy y (some g)) (fun k x => (∃ q, q ≤ 8200 + k ∧ Rd x g q) ∧ w8.grownBy x (some g))
      (byNo [FLit g [-1, 250, 251], FEq (.pointer (some ⟨g, 0, none⟩)), FNum 3, FCell g, FInt, FEq (.int .i64 b), FEq (.int .i64 c), FEq (.int .i64 d), FLit g [-1, 400, 401], FEq (.pointer (some ⟨g, 0, none⟩)), FNum 3, FCell g, FInt, FInt, FEq (.int .i64 b), FEq (.int .i64 c), FEq (.int .i64 d), FInt])
      (byNo.kept _ (by simp [FEq.kept, FLit.kept, FNum.kept, FCell.kept, FInt.kept])) ⟨⟨_, by omega, hrd8.drewN 1⟩, grown_drewN (World.grownBy.refl _ _) 1⟩ ⟨?_, ?_, ?_, ?_, ?_, ?_, ?_, ?_, ?_, ?_, ?_, ?_, ?_, ?_, ?_, ?_, ?_, ?_, trivial⟩ ?_
    · intro vs k x hk ⟨⟨q, hq, hr⟩, hgx⟩ hdep
      intro K hK
      simp only [puts, Act.put, List.setIfInBounds_toArray, List.set_cons_zero, List.set_cons_succ]
      go_simp
      exact hK (.slice (some ⟨x.heap.size, 0, none⟩) 3 3) (x.alloc (.cells #[.int .i64 (-1), .int .i64 (250), .int .i64 (251)] 3)) _ (by simp only [puts, Act.put, List.setIfInBounds_toArray, List.set_cons_zero, List.set_cons_succ]) (World.grownBy_alloc _ _ _) ⟨⟨q, by omega, hr.alloc _⟩, grown_alloc hgx _⟩ (FLit.mk [-1, 250, 251] 3 rfl hr.lt)
    · intro vs k x hk ⟨⟨q, hq, hr⟩, hgx⟩ hdep
      intro K hK
      simp only [puts, Act.put, List.setIfInBounds_toArray, List.set_cons_zero, List.set_cons_succ]
      go_simp
      exact hK (.pointer (some ⟨g, 0, none⟩)) x _ (by simp only [puts, Act.put, List.setIfInBounds_toArray, List.set_cons_zero, List.set_cons_succ]) (World.grownBy.refl _ _) ⟨⟨q, by omega, hr⟩, hgx⟩ rfl
    · intro vs k x hk ⟨⟨q, hq, hr⟩, hgx⟩ hdep
      have e1 : FEq (.pointer (some ⟨g, 0, none⟩)) (vs 1) x := hdep ⟨1, .data⟩ (by simp) rfl
      unfold FEq at e1
      intro K hK
      simp only [puts, Act.put, List.setIfInBounds_toArray, List.set_cons_zero, List.set_cons_succ]
      simp only [e1]
      go_simp
      refine (pick_c g q 3 x hr (by omega)).mono ?_
      rintro e x' ⟨z, rfl, hz, hr', hg'⟩
      exact hK (.int .i64 (z : Int)) x' _ (by simp only [puts, Act.put, List.setIfInBounds_toArray, List.set_cons_zero, List.set_cons_succ]; simp only [e1]) hg' ⟨⟨q + 1, by omega, hr'⟩, grown_trans hgx hg'⟩ ⟨z, by omega, rfl⟩
    · intro vs k x hk ⟨⟨q, hq, hr⟩, hgx⟩ hdep
      have d0 := hdep ⟨0, .data⟩ (by simp) rfl
      simp only [byNo, List.getD_cons_zero] at d0
      obtain ⟨g1, e1, hne, hcs⟩ := d0
      have d2 := hdep ⟨2, .data⟩ (by simp) rfl
      simp only [byNo, List.getD_cons_succ, List.getD_cons_zero] at d2
      obtain ⟨z, hz, e3⟩ := d2
      have hzI : (z : Int) < 3 := by omega
      intro K hK
      simp only [puts, Act.put, List.setIfInBounds_toArray, List.set_cons_zero, List.set_cons_succ]
      simp only [e1, e3]
      go_simp
      exact hK (.pointer (some ⟨g1, z, none⟩)) x _ (by simp only [puts, Act.put, List.setIfInBounds_toArray, List.set_cons_zero, List.set_cons_succ]; simp only [e1, e3] <;> rfl) (World.grownBy.refl _ _) ⟨⟨q, by omega, hr⟩, hgx⟩ ⟨_, _, rfl, hne, hcs z _ (List.getElem?_eq_getElem (by simp; omega))⟩
    · intro vs k x hk ⟨⟨q, hq, hr⟩, hgx⟩ hdep
      have d3 := hdep ⟨3, .data⟩ (by simp) rfl
      simp only [byNo, List.getD_cons_succ, List.getD_cons_zero] at d3
      obtain ⟨p, u, e1, hne, hcu⟩ := d3
      intro K hK
      simp only [puts, Act.put, List.setIfInBounds_toArray, List.set_cons_zero, List.set_cons_succ]
      simp only [e1]
      go_simp
      exact hK (.int .i64 u) x _ (by simp only [puts, Act.put, List.setIfInBounds_toArray, List.set_cons_zero, List.set_cons_succ]; simp only [e1]) (World.grownBy.refl _ _) ⟨⟨q, by omega, hr⟩, hgx⟩ ⟨u, rfl⟩
    · intro vs k x hk ⟨⟨q, hq, hr⟩, hgx⟩ hdep
      intro K hK
      simp only [puts, Act.put, List.setIfInBounds_toArray, List.set_cons_zero, List.set_cons_succ]
      go_simp
      exact hK (.int .i64 b) x _ (by simp only [puts, Act.put, List.setIfInBounds_toArray, List.set_cons_zero, List.set_cons_succ]) (World.grownBy.refl _ _) ⟨⟨q, by omega, hr⟩, hgx⟩ rfl
    · intro vs k x hk ⟨⟨q, hq, hr⟩, hgx⟩ hdep
      intro K hK
      simp only [puts, Act.put, List.setIfInBounds_toArray, List.set_cons_zero, List.set_cons_succ]
      go_simp
      exact hK (.int .i64 c) x _ (by simp only [puts, Act.put, List.setIfInBounds_toArray, List.set_cons_zero, List.set_cons_succ]) (World.grownBy.refl _ _) ⟨⟨q, by omega, hr⟩, hgx⟩ rfl
    · intro vs k x hk ⟨⟨q, hq, hr⟩, hgx⟩ hdep
      intro K hK
      simp only [puts, Act.put, List.setIfInBounds_toArray, List.set_cons_zero, List.set_cons_succ]
      go_simp
      exact hK (.int .i64 d) x _ (by simp only [puts, Act.put, List.setIfInBounds_toArray, List.set_cons_zero, List.set_cons_succ]) (World.grownBy.refl _ _) ⟨⟨q, by omega, hr⟩, hgx⟩ rfl
    · intro vs k x hk ⟨⟨q, hq, hr⟩, hgx⟩ hdep
      intro K hK
      simp only [puts, Act.put, List.setIfInBounds_toArray, List.set_cons_zero, List.set_cons_succ]
      go_simp
      exact hK (.slice (some ⟨x.heap.size, 0, none⟩) 3 3) (x.alloc (.cells #[.int .i64 (-1), .int .i64 (400), .int .i64 (401)] 3)) _ (by simp only [puts, Act.put, List.setIfInBounds_toArray, List.set_cons_zero, List.set_cons_succ]) (World.grownBy_alloc _ _ _) ⟨⟨q, by omega, hr.alloc _⟩, grown_alloc hgx _⟩ (FLit.mk [-1, 400, 401] 3 rfl hr.lt)
    · intro vs k x hk ⟨⟨q, hq, hr⟩, hgx⟩ hdep
      intro K hK
      simp only [puts, Act.put, List.setIfInBounds_toArray, List.set_cons_zero, List.set_cons_succ]
      go_simp
      exact hK (.pointer (some ⟨g, 0, none⟩)) x _ (by simp only [puts, Act.put, List.setIfInBounds_toArray, List.set_cons_zero, List.set_cons_succ]) (World.grownBy.refl _ _) ⟨⟨q, by omega, hr⟩, hgx⟩ rfl
    · intro vs k x hk ⟨⟨q, hq, hr⟩, hgx⟩ hdep
      have e1 : FEq (.pointer (some ⟨g, 0, none⟩)) (vs 9) x := hdep ⟨9, .data⟩ (by simp) rfl
      unfold FEq at e1
      intro K hK
      simp only [puts, Act.put, List.setIfInBounds_toArray, List.set_cons_zero, List.set_cons_succ]
      simp only [e1]
      go_simp
      refine (pick_c g q 3 x hr (by omega)).mono ?_
      rintro e x' ⟨z, rfl, hz, hr', hg'⟩
      exact hK (.int .i64 (z : Int)) x' _ (by simp only [puts, Act.put, List.setIfInBounds_toArray, List.set_cons_zero, List.set_cons_succ]; simp only [e1]) hg' ⟨⟨q + 1, by omega, hr'⟩, grown_trans hgx hg'⟩ ⟨z, by omega, rfl⟩
    · intro vs k x hk ⟨⟨q, hq, hr⟩, hgx⟩ hdep
      have d8 := hdep ⟨8, .data⟩ (by simp) rfl
      simp only [byNo, List.getD_cons_succ, List.getD_cons_zero] at d8
      obtain ⟨g1, e1, hne, hcs⟩ := d8
      have d10 := hdep ⟨10, .data⟩ (by simp) rfl
      simp only [byNo, List.getD_cons_succ, List.getD_cons_zero] at d10
      obtain ⟨z, hz, e3⟩ := d10
      have hzI : (z : Int) < 3 := by omega
      intro K hK
      simp only [puts, Act.put, List.setIfInBounds_toArray, List.set_cons_zero, List.set_cons_succ]
      simp only [e1, e3]
      go_simp
      exact hK (.pointer (some ⟨g1, z, none⟩)) x _ (by simp only [puts, Act.put, List.setIfInBounds_toArray, List.set_cons_zero, List.set_cons_succ]; simp only [e1, e3] <;> rfl) (World.grownBy.refl _ _) ⟨⟨q, by omega, hr⟩, hgx⟩ ⟨_, _, rfl, hne, hcs z _ (List.getElem?_eq_getElem (by simp; omega))⟩
    · intro vs k x hk ⟨⟨q, hq, hr⟩, hgx⟩ hdep
      have d11 := hdep ⟨11, .data⟩ (by simp) rfl
      simp only [byNo, List.getD_cons_succ, List.getD_cons_zero] at d11
      obtain ⟨p, u, e1, hne, hcu⟩ := d11
      intro K hK
      simp only [puts, Act.put, List.setIfInBounds_toArray, List.set_cons_zero, List.set_cons_succ]
      simp only [e1]
      go_simp
      exact hK (.int .i64 u) x _ (by simp only [puts, Act.put, List.setIfInBounds_toArray, List.set_cons_zero, List.set_cons_succ]; simp only [e1]) (World.grownBy.refl _ _) ⟨⟨q, by omega, hr⟩, hgx⟩ ⟨u, rfl⟩
    · intro vs k x hk ⟨⟨q, hq, hr⟩, hgx⟩ hdep
      have d4 := hdep ⟨4, .data⟩ (by simp) rfl
      simp only [byNo, List.getD_cons_succ, List.getD_cons_zero] at d4
      obtain ⟨u, e1⟩ := d4
      intro K hK
      simp only [puts, Act.put, List.setIfInBounds_toArray, List.set_cons_zero, List.set_cons_succ]
      simp only [e1]
      go_simp
      exact hK (.int .i64 u) x _ (by simp only [puts, Act.put, List.setIfInBounds_toArray, List.set_cons_zero, List.set_cons_succ]; simp only [e1]) (World.grownBy.refl _ _) ⟨⟨q, by omega, hr⟩, hgx⟩ ⟨u, rfl⟩
    · intro vs k x hk ⟨⟨q, hq, hr⟩, hgx⟩ hdep
      have e1 : FEq (.int .i64 b) (vs 5) x := hdep ⟨5, .data⟩ (by simp) rfl
      unfold FEq at e1
      intro K hK
      simp only [puts, Act.put, List.setIfInBounds_toArray, List.set_cons_zero, List.set_cons_succ]
      simp only [e1]
      go_simp
      exact hK (.int .i64 b) x _ (by simp only [puts, Act.put, List.setIfInBounds_toArray, List.set_cons_zero, List.set_cons_succ]; simp only [e1]) (World.grownBy.refl _ _) ⟨⟨q, by omega, hr⟩, hgx⟩ rfl
    · intro vs k x hk ⟨⟨q, hq, hr⟩, hgx⟩ hdep
      have e1 : FEq (.int .i64 c) (vs 6) x := hdep ⟨6, .data⟩ (by simp) rfl
      unfold FEq at e1
      intro K hK
      simp only [puts, Act.put, List.setIfInBounds_toArray, List.set_cons_zero, List.set_cons_succ]
      simp only [e1]
      go_simp
      exact hK (.int .i64 c) x _ (by simp only [puts, Act.put, List.setIfInBounds_toArray, List.set_cons_zero, List.set_cons_succ]; simp only [e1]) (World.grownBy.refl _ _) ⟨⟨q, by omega, hr⟩, hgx⟩ rfl
    · intro vs k x hk ⟨⟨q, hq, hr⟩, hgx⟩ hdep
      have e1 : FEq (.int .i64 d) (vs 7) x := hdep ⟨7, .data⟩ (by simp) rfl
      unfold FEq at e1
      intro K hK
      simp only [puts, Act.put, List.setIfInBounds_toArray, List.set_cons_zero, List.set_cons_succ]
      simp only [e1]
      go_simp
      exact hK (.int .i64 d) x _ (by simp only [puts, Act.put, List.setIfInBounds_toArray, List.set_cons_zero, List.set_cons_succ]; simp only [e1]) (World.grownBy.refl _ _) ⟨⟨q, by omega, hr⟩, hgx⟩ rfl
    · intro vs k x hk ⟨⟨q, hq, hr⟩, hgx⟩ hdep
      have d12 := hdep ⟨12, .data⟩ (by simp) rfl
      simp only [byNo, List.getD_cons_succ, List.getD_cons_zero] at d12
      obtain ⟨u, e1⟩ := d12
      intro K hK
      simp only [puts, Act.put, List.setIfInBounds_toArray, List.set_cons_zero, List.set_cons_succ]
      simp only [e1]
      go_simp
      exact hK (.int .i64 u) x _ (by simp only [puts, Act.put, List.setIfInBounds_toArray, List.set_cons_zero, List.set_cons_succ]; simp only [e1]) (World.grownBy.refl _ _) ⟨⟨q, by omega, hr⟩, hgx⟩ ⟨u, rfl⟩
    · intro vs x hall ⟨⟨q, hq, hr⟩, hgx⟩
      have d13 := hall 13 (by decide)
      simp only [byNo, List.getD_cons_succ, List.getD_cons_zero] at d13
      obtain ⟨u1, e1⟩ := d13
      have e2 : FEq (.int .i64 b) (vs 14) x := hall 14 (by decide)
      unfold FEq at e2
      have e3 : FEq (.int .i64 c) (vs 15) x := hall 15 (by decide)
      unfold FEq at e3
      have e4 : FEq (.int .i64 d) (vs 16) x := hall 16 (by decide)
      unfold FEq at e4
      have d17 := hall 17 (by decide)
      simp only [byNo, List.getD_cons_succ, List.getD_cons_zero] at d17
      obtain ⟨u5, e5⟩ := d17
      have hbx := hb8.trans (below_grown hgx hb8.size hg)
      simp only [puts, Act.put, List.setIfInBounds_toArray, List.set_cons_zero, List.set_cons_succ]
      simp only [e1, e2, e3, e4, e5]
      clear hall
      go_wp2
      refine bodyPost_ret (v := .tuple #[.int .i64 u1, .int .i64 b, .int .i64 c, .int .i64 d, .int .i64 u5]) (by simp [results, Try.results18, go_sem]) rfl ?_
      exact PDraw5.mk hbx
  · have hub : (((u : Nat) : Int) == 0) = false := by simp; omega
    go_wp2
    refine bodyPost_ret (v := .tuple #[.int .i64 a, .int .i64 b, .int .i64 c, .int .i64 d, .int .i64 (n6 : Int)]) (by simp [results, Try.results18, go_sem]) rfl ?_
    exact PDraw5.mk hb8
end Go.Proofs.Ytfobmhhikmaggaa
