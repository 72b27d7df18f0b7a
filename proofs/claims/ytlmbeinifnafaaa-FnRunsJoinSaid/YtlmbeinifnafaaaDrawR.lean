/- The contract of the draw of runs. No condition. -/
import Derived.Test.YtlmbeinifnafaaaDrawL
import Derived.Test.YtlmbeinifnafaaaRuns2
namespace Go.Proofs.Ytlmbeinifnafaaa
open Go.RowKit
set_option linter.unusedVariables false

/-- A draw of runs out of a code. -/
def PListR (w : World) (K : Nat) (e : Ending) (w' : World) : Prop := ∃ A n c rs, e = .returned (.slice A n c) ∧ OwnR w' w.heap.size A n c rs ∧ n ≤ K ∧ Below w.heap.size w w'
theorem PListR.mk {w w' : World} {K : Nat} {A : Option Addr} {n c : Nat} {rs : List (Int × Int)} (h1 : OwnR w' w.heap.size A n c rs) (h2 : n ≤ K) (h3 : Below w.heap.size w w') : PListR w K (.returned (.slice A n c)) w' := ⟨A, n, c, rs, rfl, h1, h2, h3⟩
theorem OwnR.grown {w w' : World} {base n c g : Nat} {A : Option Addr} {rs : List (Int × Int)} (h : OwnR w base A n c rs) (hg : w.grownBy w' (some g)) (hb : g < base) : OwnR w' base A n c rs := by
  refine h.kept hg ?_
  rcases h.form with ⟨rfl, _⟩ | ⟨g', _, rfl, h2, _⟩
  · exact .inl rfl
  · exact .inr (fun e => by injection e with e; simp only at e; omega)

set_option maxHeartbeats 1600000 in
theorem DrawRunsJoin_s_c (A : Option Addr) (n c B : Nat) (w : World) (h : BRow w B A n c) (hB : B ≤ w.heap.size) : Calls Try.prog 11 #[.slice A n c] w (PListR w 1000) := by
  go_enter Try.func11, Try.ntmps11
  go_wp2_with fail
  refine (l6Open_c A n c B w h hB).mono ?_
  rintro e w1 ⟨g, rfl, hrd1, hg, hb1⟩
  have hgl := hrd1.lt
  have hs1 := hb1.size
  go_wp2_with fail
  refine (l91List_c g 0 _ hrd1 (by omega)).mono ?_
  rintro e w2 ⟨A2, n2, c2, xs, p2, rfl, hown2, hn2, hrd2, hp2, hg2⟩
  have hb2 := hb1.trans (below_grown hg2 hb1.size hg)
  have hs2 := hg2.size
  have hml : (runsF xs).length ≤ 1000 := Nat.le_trans (runsF_le xs) (by rw [hown2.len]; exact hn2)
  go_wp2_with fail
  refine (RunsOf_s_c A2 n2 c2 _ xs w2 hown2.row (Nat.le_refl _)).mono ?_
  rintro e w3 ⟨A3, c3, rfl, O3, b3⟩
  obtain ⟨rs, hrs⟩ : ∃ rs, runsF xs = rs := ⟨_, rfl⟩
  rw [hrs] at O3 hml
  rw [hrs]
  obtain ⟨m, hm⟩ : ∃ m, rs.length = m := ⟨_, rfl⟩
  rw [hm] at O3 hml
  rw [hm]
  have hlen := hid hm
  clear hrs hm
  have hrd3 := hrd2.below b3 (by omega)
  have hb3 := hb2.trans (b3.mono (by omega))
  have hs3 := b3.size
  have hown3 := O3.mono (by omega : w1.heap.size ≤ w2.heap.size)
  by_cases hm0 : m = 0
  · subst hm0
    have hfin := hown3.mono hs1
    go_wp2
    go_ret
    exact PListR.mk hfin (by omega) hb3
  have hmI : (0 : Int) < (m : Int) := by omega
  go_wp2_with fail
  refine (pick_c g _ _ _ hrd3 (by omega)).mono ?_
  rintro e w4 ⟨k, rfl, hk, hrd4, hg4⟩
  have hkm : k < m := by omega
  have hown4 := hown3.grown hg4 hgl
  have hb4 := hb3.trans (below_grown hg4 (by omega) hg)
  have hs4 := hg4.size
  go_wp2_with fail
  refine (pick_c g _ 12 _ hrd4 (by omega)).mono ?_
  rintro e w5 ⟨z, rfl, hz, hrd5, hg5⟩
  have hown5 := hown4.grown hg5 hgl
  have hb5 := hb4.trans (below_grown hg5 (by omega) hg)
  have hs5 := hg5.size
  obtain ⟨⟨a, q⟩, hx⟩ : ∃ r, rs[k]? = some r := ⟨_, List.getElem?_eq_getElem (by rw [hlen.out]; exact hkm)⟩
  have HX := hid hx
  clear hx
  by_cases hz0 : z = 0
  · subst hz0
    have hown6 := hown5.alloc (.cells #[.int .i64 0, .int .i64 40, .int .i64 41, .int .i64 (-1)] 3)
    have hrd6 := hrd5.alloc (.cells #[.int .i64 0, .int .i64 40, .int .i64 41, .int .i64 (-1)] 3)
    have hb6 := hb5.alloc (by omega) (.cells #[.int .i64 0, .int .i64 40, .int .i64 41, .int .i64 (-1)] 3)
    go_wp2_with fail
    refine (pick_c g _ 4 _ hrd6 (by omega)).mono ?_
    rintro e w7 ⟨y, rfl, hy, hrd7, hg7⟩
    obtain ⟨u, -, hcu⟩ := lit_cell' (us := [0, 40, 41, -1]) (m := 4) (z := y) rfl (by omega) hg7 hrd5.lt (by omega)
    have hown7 := hown6.grown hg7 hgl
    have hb7 := hb6.trans (below_grown hg7 (by simp; omega) hg)
    obtain ⟨g2, rfl, hg2b, hg2l⟩ := hown7.at_ (by omega)
    obtain ⟨hc1, hc2⟩ := hown7.cells HX.out
    have hf := hown7.frozenAt (k * 2 + 1)
    have hy4 : y < 4 := by omega
    have HF := hid ((hown7.stored2 HX.out u).mono hs1)
    go_wp2
    go_ret
    exact PListR.mk HF.out (by omega) (hb7.setCell (p := ⟨g2, k * 2 + 1, none⟩) (by show w.heap.size ≤ g2; omega) _)
  have hzb0 : (((z : Nat) : Int) == 0) = false := by simp; omega
  by_cases hz1 : z = 1
  · subst hz1
    go_wp2_with fail
    refine (pick_c g _ 10 _ hrd5 (by omega)).mono ?_
    rintro e w7 ⟨y, rfl, hy, hrd7, hg7⟩
    have hown7 := hown5.grown hg7 hgl
    have hb7 := hb5.trans (below_grown hg7 (by omega) hg)
    obtain ⟨g2, rfl, hg2b, hg2l⟩ := hown7.at_ (by omega)
    obtain ⟨hc1, hc2⟩ := hown7.cells HX.out
    have hf := hown7.frozenAt (k * 2)
    have hy4 : y < 10 := by omega
    have HF := hid ((hown7.stored1 HX.out ((y : Int) - 1)).mono hs1)
    go_wp2
    go_ret
    exact PListR.mk HF.out (by omega) (hb7.setCell (p := ⟨g2, k * 2, none⟩) (by show w.heap.size ≤ g2; omega) _)
  have hzb1 : (((z : Nat) : Int) == 1) = false := by simp; omega
  have hfin := hown5.mono hs1
  go_wp2
  go_ret
  exact PListR.mk hfin (by omega) hb5
end Go.Proofs.Ytlmbeinifnafaaa
