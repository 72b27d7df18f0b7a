/- The walk of the last law on sums. No condition. -/
import Derived.Test.YtfobmhhikmaggaaDrawE
namespace Go.Proofs.Ytfobmhhikmaggaa
open Go.RowKit

theorem join_right {a b c d m : Int} (h : joinB a b c d m = true) : joinF a b 1 0 0 = (a, b, true) := by
  simp only [joinB, Bool.and_eq_true, inB_iff] at h
  obtain ⟨⟨⟨⟨⟨a0, a1⟩, b0, b1⟩, _⟩, _⟩, _⟩ := h
  rw [joinF_yes (by simp only [joinB, Bool.and_eq_true, inB_iff]; omega)]
  refine Prod.ext ?_ (Prod.ext ?_ rfl)
  · show (a + 1 + 250) % 251 = a; omega
  · show (b + 0 + 0 * (a + 250)) % 251 = b; rw [Int.zero_mul]; omega
theorem join_left {a b c d m : Int} (h : joinB a b c d m = true) : joinF 1 0 c d m = (c, d, true) := by
  simp only [joinB, Bool.and_eq_true, inB_iff] at h
  obtain ⟨⟨⟨_, c0, c1⟩, d0, d1⟩, m0, m1⟩ := h
  rw [joinF_yes (by simp only [joinB, Bool.and_eq_true, inB_iff]; omega)]
  refine Prod.ext ?_ (Prod.ext ?_ rfl)
  · show (1 + c + 250) % 251 = c; omega
  · show (0 + d + m * (1 + 250)) % 251 = d
    rw [show (1 : Int) + 250 = 251 from rfl]; omega

set_option maxHeartbeats 800000 in
theorem FnPairNone_walk (A : Option Addr) (n c : Nat) (w : World) (h : BRow w w.heap.size A n c) : Calls Try.prog 8 #[.slice A n c] w (PTrue w) := by
  by_cases hn : 1048576 < n
  · go_enter Try.func8, Try.ntmps8
    go_wp2
    go_ret
    exact ⟨rfl, Below.refl _ _⟩
  go_enter Try.func8, Try.ntmps8
  go_wp2_with fail
  refine (DrawPairJoin_s_c A n c _ w h (Nat.le_refl _)).mono ?_
  rintro e w1 ⟨a, b, c, d, m, rfl, hb1⟩
  have c1 := PairJoin_c a b c d m w1
  rcases hj : joinB a b c d m with _ | _
  · rw [joinF_no hj] at c1
    go_wp2_with fail
    refine c1.mono ?_
    rintro e w2 ⟨rfl, hb2⟩
    have c2 := PairJoin_s_c a b c d m w2
    rw [joinF_no hj] at c2
    clear c1
    go_wp2_with fail
    refine c2.mono ?_
    rintro e w' ⟨rfl, rfl⟩
    clear c2 hj
    go_wp2
    go_ret
    exact ⟨rfl, hb1.trans (hb2.mono hb1.size)⟩
  · obtain ⟨⟨x, y, o⟩, hx⟩ : ∃ r, joinF a b c d m = r := ⟨_, rfl⟩
    obtain rfl : o = true := by
      have := joinF_yes hj
      rw [hx] at this
      exact congrArg (fun r => r.2.2) this
    rw [hx] at c1
    go_wp2_with fail
    refine c1.mono ?_
    rintro e w2 ⟨rfl, hb2⟩
    have c2 := PairJoin_s_c a b c d m w2
    rw [hx] at c2
    have c3 := PairJoin_c a b 1 0 0 w2
    rw [join_right hj] at c3
    have HJ := hid hj
    clear c1 hx hj
    go_wp2_with fail
    refine c2.mono ?_
    rintro e w' ⟨rfl, rfl⟩
    clear c2
    have hxx : (x == x) = true := beq_self_eq_true x
    have hyy : (y == y) = true := beq_self_eq_true y
    have haa : (a == a) = true := beq_self_eq_true a
    have hbb : (b == b) = true := beq_self_eq_true b
    have hcc : (c == c) = true := beq_self_eq_true c
    have hdd : (d == d) = true := beq_self_eq_true d
    go_wp2_with fail
    refine c3.mono ?_
    rintro e w3 ⟨rfl, hb3⟩
    clear c3
    have c4 := PairJoin_c 1 0 c d m w3
    rw [join_left HJ.out] at c4
    go_wp2_with fail
    refine c4.mono ?_
    rintro e w4 ⟨rfl, hb4⟩
    clear c4 HJ
    have hb12 := hb1.trans (hb2.mono hb1.size)
    have hb13 := hb12.trans (hb3.mono hb12.size)
    go_wp2
    go_ret
    exact ⟨rfl, hb13.trans (hb4.mono hb13.size)⟩
end Go.Proofs.Ytfobmhhikmaggaa
