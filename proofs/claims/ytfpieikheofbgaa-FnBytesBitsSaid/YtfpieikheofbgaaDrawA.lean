/- Contracts of the draws of bytes for the chapter of bits. No condition. -/
import Derived.Test.YtfpieikheofbgaaDrawBy
namespace Go.Proofs.Ytfpieikheofbgaa
open Go.RowKit

set_option maxHeartbeats 800000 in
theorem DrawBytesBits_s_c (A : Option Addr) (n c B : Nat) (w : World) (h : BRow w B A n c) (hB : B ≤ w.heap.size) : Calls Try.prog 28 #[.slice A n c] w (PList w 1000) := by
  go_enter Try.func28, Try.ntmps28
  go_wp2_with fail
  refine (l6Open_c A n c B w h hB).mono ?_
  rintro e w1 ⟨g, rfl, hrd1, hg, hb1⟩
  go_wp2_with fail
  refine (pick_c g 0 20 _ hrd1 (by omega)).mono ?_
  rintro e w2 ⟨x, rfl, hx, hrd2, hg2⟩
  have hb2 := hb1.trans (below_grown hg2 hb1.size hg)
  by_cases hx0 : x = 0
  · subst hx0
    go_wp2_with fail
    refine (pick_c g 1 2 _ hrd2 (by omega)).mono ?_
    rintro e w3 ⟨y, rfl, hy, hrd3, hg3⟩
    have hb3 := hb2.trans (below_grown hg3 hb2.size hg)
    have l := l91Bytes_c g 2 (75 + y) _ hrd3 (by omega) (by omega)
    have hc : ((75 + y : Nat) : Int) = 75 + (y : Int) := by omega
    rw [hc] at l
    clear hc
    go_wp2_with fail
    refine l.mono ?_
    rintro e w4 ⟨A4, n4, c4, xs, p4, rfl, hown4, hn4, hrd4, hp4, hg4⟩
    clear l
    go_wp2
    go_ret
    exact ⟨_, _, _, _, rfl, hown4.mono hb3.size, by omega, hb3.trans (below_grown hg4 hb3.size hg)⟩
  · have hxb : (((x : Nat) : Int) == 0) = false := by simp; omega
    go_wp2_with fail
    refine (pick_c g 1 12 _ hrd2 (by omega)).mono ?_
    rintro e w3 ⟨y, rfl, hy, hrd3, hg3⟩
    have hb3 := hb2.trans (below_grown hg3 hb2.size hg)
    go_wp2_with fail
    refine (l91Bytes_c g 2 y _ hrd3 (by omega) (by omega)).mono ?_
    rintro e w4 ⟨A4, n4, c4, xs, p4, rfl, hown4, hn4, hrd4, hp4, hg4⟩
    go_wp2
    go_ret
    exact ⟨_, _, _, _, rfl, hown4.mono hb3.size, by omega, hb3.trans (below_grown hg4 hb3.size hg)⟩
end Go.Proofs.Ytfpieikheofbgaa
