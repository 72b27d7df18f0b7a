/- Contracts of VarGet, of the program and of the reference. No condition. -/
import Derived.Test.YtaaaiagpbhiphaaVar
namespace Go.Proofs.Ytaaaiagpbhiphaa
open Go.RowKit

set_option maxHeartbeats 3200000 in
theorem VarGet_in (A : Option Addr) (n c B t : Nat) (xs : List Int) (w : World) (h : Row w B A n c xs) (hv : everyB 0 255 xs = true) (ht : t ≤ n) :
    Calls Try.prog 28 #[.slice A n c, .int .i64 (t : Int)] w (P3B w (vgF xs t)) := by
  have hs := h.small
  have hcap := h.cap
  have hcm := h.capm
  unfold maxLen at hcm
  have HP := hid (vgF_in hv (t := t) (by rw [h.len]; omega))
  have hin : inB 0 ((n : Int)) (t : Int) = true := inB_iff.2 (by omega)
  obtain ⟨R, hR⟩ : ∃ R, R = vgGo 3 0 0 (xs.drop t) := ⟨_, rfl⟩
  have HR := hid hR
  have HQ := hid (show vgF xs t = vgEnd t R by rw [HP.out, hR])
  clear hR
  go_enter Try.func28, Try.ntmps28
  go_wp2_with fail
  refine (bytesOk_c _ _ _ _ _ _ h).mono ?_
  rintro e w' ⟨rfl, rfl⟩
  go_wp2_with fail
  refine (within_c _ _ _ _).mono ?_
  rintro e w' ⟨rfl, rfl⟩
  go_wp2_with fail
  go_loop [7, 8, 9] (fun v s i => ∃ (j q : Nat) (N : Int), q = t + j ∧ v = .int .i64 N ∧ i = .int .i64 (q : Int) ∧ 0 ≤ N ∧ R = vgGo (3 - j) j N (xs.drop q) ∧ ((j = 0 ∧ s = .int .i64 0 ∧ N ≤ 0) ∨ (j = 1 ∧ s = .int .i64 7 ∧ N ≤ 127) ∨ (j = 2 ∧ s = .int .i64 14 ∧ N ≤ 16383) ∨ (j = 3 ∧ s = .int .i64 21 ∧ N ≤ 2097151))) (fun _ _ i => t + 4 - (intOf i).toNat)
  case atStart => exact ⟨0, t, 0, rfl, rfl, rfl, by omega, HR.out, .inl ⟨rfl, rfl, by omega⟩⟩
  case round =>
    obtain ⟨j, q, N, hq, rfl, rfl, hN0, he, hj⟩ := hrel
    have HE := hid he
    clear he
    have hqt : t ≤ q := by omega
    rcases hj with ⟨rfl, rfl, hN1⟩ | ⟨rfl, rfl, hN1⟩ | ⟨rfl, rfl, hN1⟩ | ⟨rfl, rfl, hN1⟩
    · have hq3 : q ≤ t + 0 := by omega
      have hq4 : t + 0 ≤ q := by omega
      have HQQ := hid hq
      clear hq
      by_cases hlt : q < n
      case neg =>
        have hd := h.full (k := q) (by omega)
        have HF := hid (show vgF xs t = vgNo by rw [HQ.out, HE.out, hd, vgGo_nil, vgEnd_no])
        have hltI : ¬ (q : Int) < (n : Int) := by omega
        have hltd : decide ((q : Int) < (n : Int)) = false := by simp; omega
        clear hd
        go_wp2
        go_ret3
        exact P3B.mk HF.out (Below.refl _ _)
      obtain ⟨b, off, x, rfl, hb, hc, hx, hd⟩ := h.step hlt
      have hxb := everyB_get hv hx
      have HD := hid hd
      have HX := hid hx
      have hltI : (q : Int) < (n : Int) := by omega
      clear hd hx
      have hpw : x % 128 * 128 ^ 0 = x % 128 * 1 := rfl
      have HPW := hid hpw
      clear hpw
      have hor := i64_or_add (a := N) (y := x % 128) 0 (by omega) hN0 (by omega) (by omega) (by omega)
      rw [show (2 : Int) ^ 0 = 1 by decide] at hor
      have hN00 : N = 0 := by omega
      subst hN00
      have hor2 : bits .or .i64 0 (x % 128) = x % 128 := by simpa using hor
      by_cases hx8 : x < 128
      case neg =>
        have hx8' : 128 ≤ x := by omega
        have HM := hid (show R = vgGo (3 - 1) 1 (0 + x % 128 * 1) (xs.drop (q + 1)) by rw [HE.out, HD.out, show 3 - 0 = 3 - 1 + 1 from rfl, vgGo_more (by omega), HPW.out])
        go_wp2
        go_round
        case rel => exact ⟨1, q + 1, _, by have := HQQ.out; omega, by go_num, by go_num, by omega, by first | exact HM.out | (rw [HM.out]; congr 1; omega) | simpa using HM.out, (.inr (.inl ⟨rfl, rfl, by omega⟩))⟩
        case measure => simp [intOf]; omega
      have hEE : 0 + x % 128 * 128 ^ 0 = x % 128 := by first | (rw [HPW.out]; done) | (rw [HPW.out]; omega)
      obtain ⟨L, hL⟩ : ∃ L, (varF (x % 128)).length = L := ⟨_, rfl⟩
      have HLL := hid hL
      clear hL
      by_cases hl : L = 0 + 1
      · have HF := hid (show vgF xs t = (x % 128, (q : Int) + 1, true) by
          rw [HQ.out, HE.out, HD.out, show 3 - 0 = 3 - 1 + 1 from rfl, vgGo_yes hx8 (by rw [hEE, HLL.out, hl]), hEE, vgEnd_yes]
          have := HQQ.out
          congr 2; omega)
        have hne : ((L : Int) != (q : Int) + 1 - (t : Int)) = false := by
          have := HQQ.out
          rw [bne_eq_false_iff_eq]; omega
        clear hl hEE
        go_wp2_with fail
        refine (VarPut_c _ w).mono ?_
        rintro e w2 ⟨A2, c2, rfl, hown2, hb2⟩
        rw [HLL.out]
        go_wp2
        go_ret3
        exact P3B.mk HF.out hb2
      · have HF := hid (show vgF xs t = vgNo by
          rw [HQ.out, HE.out, HD.out, show 3 - 0 = 3 - 1 + 1 from rfl, vgGo_no hx8 (by rw [hEE, HLL.out]; exact hl), vgEnd_no])
        have hne : ((L : Int) != (q : Int) + 1 - (t : Int)) = true := by
          have := HQQ.out
          rw [bne_iff_ne]; omega
        clear hl hEE
        go_wp2_with fail
        refine (VarPut_c _ w).mono ?_
        rintro e w2 ⟨A2, c2, rfl, hown2, hb2⟩
        rw [HLL.out]
        go_wp2
        go_ret3
        exact P3B.mk HF.out hb2
    · have hq3 : q ≤ t + 1 := by omega
      have hq4 : t + 1 ≤ q := by omega
      have HQQ := hid hq
      clear hq
      by_cases hlt : q < n
      case neg =>
        have hd := h.full (k := q) (by omega)
        have HF := hid (show vgF xs t = vgNo by rw [HQ.out, HE.out, hd, vgGo_nil, vgEnd_no])
        have hltI : ¬ (q : Int) < (n : Int) := by omega
        have hltd : decide ((q : Int) < (n : Int)) = false := by simp; omega
        clear hd
        go_wp2
        go_ret3
        exact P3B.mk HF.out (Below.refl _ _)
      obtain ⟨b, off, x, rfl, hb, hc, hx, hd⟩ := h.step hlt
      have hxb := everyB_get hv hx
      have HD := hid hd
      have HX := hid hx
      have hltI : (q : Int) < (n : Int) := by omega
      clear hd hx
      have hpw : x % 128 * 128 ^ 1 = x % 128 * 128 := rfl
      have HPW := hid hpw
      clear hpw
      have hor := i64_or_add (a := N) (y := x % 128) 7 (by omega) hN0 (by omega) (by omega) (by omega)
      rw [show (2 : Int) ^ 7 = 128 by decide] at hor
      by_cases hx8 : x < 128
      case neg =>
        have hx8' : 128 ≤ x := by omega
        have HM := hid (show R = vgGo (3 - 2) 2 (N + x % 128 * 128) (xs.drop (q + 1)) by rw [HE.out, HD.out, show 3 - 1 = 3 - 2 + 1 from rfl, vgGo_more (by omega), HPW.out])
        go_wp2
        go_round
        case rel => exact ⟨2, q + 1, _, by have := HQQ.out; omega, by go_num, by go_num, by omega, by first | exact HM.out | (rw [HM.out]; congr 1; omega) | simpa using HM.out, (.inr (.inr (.inl ⟨rfl, rfl, by omega⟩)))⟩
        case measure => simp [intOf]; omega
      have hEE : N + x % 128 * 128 ^ 1 = N + x % 128 * 128 := by first | (rw [HPW.out]; done) | (rw [HPW.out]; omega)
      obtain ⟨L, hL⟩ : ∃ L, (varF (N + x % 128 * 128)).length = L := ⟨_, rfl⟩
      have HLL := hid hL
      clear hL
      by_cases hl : L = 1 + 1
      · have HF := hid (show vgF xs t = (N + x % 128 * 128, (q : Int) + 1, true) by
          rw [HQ.out, HE.out, HD.out, show 3 - 1 = 3 - 2 + 1 from rfl, vgGo_yes hx8 (by rw [hEE, HLL.out, hl]), hEE, vgEnd_yes]
          have := HQQ.out
          congr 2; omega)
        have hne : ((L : Int) != (q : Int) + 1 - (t : Int)) = false := by
          have := HQQ.out
          rw [bne_eq_false_iff_eq]; omega
        clear hl hEE
        go_wp2_with fail
        refine (VarPut_c _ w).mono ?_
        rintro e w2 ⟨A2, c2, rfl, hown2, hb2⟩
        rw [HLL.out]
        go_wp2
        go_ret3
        exact P3B.mk HF.out hb2
      · have HF := hid (show vgF xs t = vgNo by
          rw [HQ.out, HE.out, HD.out, show 3 - 1 = 3 - 2 + 1 from rfl, vgGo_no hx8 (by rw [hEE, HLL.out]; exact hl), vgEnd_no])
        have hne : ((L : Int) != (q : Int) + 1 - (t : Int)) = true := by
          have := HQQ.out
          rw [bne_iff_ne]; omega
        clear hl hEE
        go_wp2_with fail
        refine (VarPut_c _ w).mono ?_
        rintro e w2 ⟨A2, c2, rfl, hown2, hb2⟩
        rw [HLL.out]
        go_wp2
        go_ret3
        exact P3B.mk HF.out hb2
    · have hq3 : q ≤ t + 2 := by omega
      have hq4 : t + 2 ≤ q := by omega
      have HQQ := hid hq
      clear hq
      by_cases hlt : q < n
      case neg =>
        have hd := h.full (k := q) (by omega)
        have HF := hid (show vgF xs t = vgNo by rw [HQ.out, HE.out, hd, vgGo_nil, vgEnd_no])
        have hltI : ¬ (q : Int) < (n : Int) := by omega
        have hltd : decide ((q : Int) < (n : Int)) = false := by simp; omega
        clear hd
        go_wp2
        go_ret3
        exact P3B.mk HF.out (Below.refl _ _)
      obtain ⟨b, off, x, rfl, hb, hc, hx, hd⟩ := h.step hlt
      have hxb := everyB_get hv hx
      have HD := hid hd
      have HX := hid hx
      have hltI : (q : Int) < (n : Int) := by omega
      clear hd hx
      have hpw : x % 128 * 128 ^ 2 = x % 128 * 16384 := rfl
      have HPW := hid hpw
      clear hpw
      have hor := i64_or_add (a := N) (y := x % 128) 14 (by omega) hN0 (by omega) (by omega) (by omega)
      rw [show (2 : Int) ^ 14 = 16384 by decide] at hor
      by_cases hx8 : x < 128
      case neg =>
        have hx8' : 128 ≤ x := by omega
        have HM := hid (show R = vgGo (3 - 3) 3 (N + x % 128 * 16384) (xs.drop (q + 1)) by rw [HE.out, HD.out, show 3 - 2 = 3 - 3 + 1 from rfl, vgGo_more (by omega), HPW.out])
        go_wp2
        go_round
        case rel => exact ⟨3, q + 1, _, by have := HQQ.out; omega, by go_num, by go_num, by omega, by first | exact HM.out | (rw [HM.out]; congr 1; omega) | simpa using HM.out, (.inr (.inr (.inr ⟨rfl, rfl, by omega⟩)))⟩
        case measure => simp [intOf]; omega
      have hEE : N + x % 128 * 128 ^ 2 = N + x % 128 * 16384 := by first | (rw [HPW.out]; done) | (rw [HPW.out]; omega)
      obtain ⟨L, hL⟩ : ∃ L, (varF (N + x % 128 * 16384)).length = L := ⟨_, rfl⟩
      have HLL := hid hL
      clear hL
      by_cases hl : L = 2 + 1
      · have HF := hid (show vgF xs t = (N + x % 128 * 16384, (q : Int) + 1, true) by
          rw [HQ.out, HE.out, HD.out, show 3 - 2 = 3 - 3 + 1 from rfl, vgGo_yes hx8 (by rw [hEE, HLL.out, hl]), hEE, vgEnd_yes]
          have := HQQ.out
          congr 2; omega)
        have hne : ((L : Int) != (q : Int) + 1 - (t : Int)) = false := by
          have := HQQ.out
          rw [bne_eq_false_iff_eq]; omega
        clear hl hEE
        go_wp2_with fail
        refine (VarPut_c _ w).mono ?_
        rintro e w2 ⟨A2, c2, rfl, hown2, hb2⟩
        rw [HLL.out]
        go_wp2
        go_ret3
        exact P3B.mk HF.out hb2
      · have HF := hid (show vgF xs t = vgNo by
          rw [HQ.out, HE.out, HD.out, show 3 - 2 = 3 - 3 + 1 from rfl, vgGo_no hx8 (by rw [hEE, HLL.out]; exact hl), vgEnd_no])
        have hne : ((L : Int) != (q : Int) + 1 - (t : Int)) = true := by
          have := HQQ.out
          rw [bne_iff_ne]; omega
        clear hl hEE
        go_wp2_with fail
        refine (VarPut_c _ w).mono ?_
        rintro e w2 ⟨A2, c2, rfl, hown2, hb2⟩
        rw [HLL.out]
        go_wp2
        go_ret3
        exact P3B.mk HF.out hb2
    · have HQQ := hid hq
      have hq3 : q = t + 3 := hq
      have HF := hid (show vgF xs t = vgNo by rw [HQ.out, HE.out, Nat.sub_self, vgGo_zero, vgEnd_no])
      have hqI : ¬ (q : Int) < (t : Int) + 3 := by omega
      have hqd : decide ((q : Int) < (t : Int) + 3) = false := by simp; omega
      clear hq hq3
      by_cases hlt : q < n
      · have hltI : (q : Int) < (n : Int) := by omega
        go_wp2
        go_ret3
        exact P3B.mk HF.out (Below.refl _ _)
      · have hltI : ¬ (q : Int) < (n : Int) := by omega
        have hltd : decide ((q : Int) < (n : Int)) = false := by simp; omega
        go_wp2
        go_ret3
        exact P3B.mk HF.out (Below.refl _ _)


end Go.Proofs.Ytaaaiagpbhiphaa
