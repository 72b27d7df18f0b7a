/- The contract of VarGet of the reference, inside the range. No condition. -/
import Derived.Test.YtaaaiagpbhiphaaVar
import Derived.Deep.RegionWith
namespace Go.Proofs.Ytaaaiagpbhiphaa
open Go.RowKit

set_option maxHeartbeats 3200000 in
theorem VarGet_s_in (A : Option Addr) (n c B t : Nat) (xs : List Int) (w : World) (h : Row w B A n c xs) (hB : B ≤ w.heap.size) (hv : everyB 0 255 xs = true) (ht : t ≤ n - 1) (hn : 0 < n) :
    Calls Try.prog 29 #[.slice A n c, .int .i64 (t : Int)] w (P3B w (vgF xs t)) := by
  have hs := h.small
  have hcap := h.cap
  have hcm := h.capm
  unfold maxLen at hcm
  have HP := hid (vgF_in hv (t := t) (by rw [h.len]; omega))
  have hin : inB 0 ((n : Int) - 1) (t : Int) = true := inB_iff.2 (by omega)
  obtain ⟨R, hR⟩ : ∃ R, R = vgGo 3 0 0 (xs.drop t) := ⟨_, rfl⟩
  have HR := hid hR
  have HQ := hid (show vgF xs t = vgEnd t R by rw [HP.out, hR])
  clear hR
  go_enter Try.func29, Try.ntmps29
  go_wp2_with fail
  refine (l1Bytes_c _ _ _ _ _ _ h).mono ?_
  rintro e w' ⟨rfl, rfl⟩
  go_wp2_with fail
  refine (l6In_c _ _ _ _).mono ?_
  rintro e w' ⟨rfl, rfl⟩
  go_wp2_with fail
  go_loop [7, 8, 9] (fun v s i => ∃ (j q : Nat) (N : Int), q = t + j ∧ v = .int .i64 N ∧ i = .int .i64 (q : Int) ∧ 0 ≤ N ∧ R = vgGo (3 - j) j N (xs.drop q) ∧ ((j = 0 ∧ s = .int .i64 1 ∧ N ≤ 0 ∧ (xs.take q).drop t = []) ∨ (j = 1 ∧ s = .int .i64 128 ∧ N ≤ 127 ∧ ∃ a, (xs.take q).drop t = [a] ∧ (128 ≤ a ∧ a ≤ 255) ∧ N = a % 128) ∨ (j = 2 ∧ s = .int .i64 16384 ∧ N ≤ 16383 ∧ ∃ a b, (xs.take q).drop t = [a, b] ∧ (128 ≤ a ∧ a ≤ 255) ∧ (128 ≤ b ∧ b ≤ 255) ∧ N = a % 128 + b % 128 * 128) ∨ (j = 3 ∧ s = .int .i64 2097152 ∧ N ≤ 2097151))) (fun _ _ i => t + 4 - (intOf i).toNat)
  case atStart => exact ⟨0, t, 0, rfl, rfl, rfl, by omega, HR.out, .inl ⟨rfl, rfl, by omega, by rw [List.drop_eq_nil_of_le (by rw [List.length_take]; omega)]⟩⟩
  case round =>
    obtain ⟨j, q, N, hq, rfl, rfl, hN0, he, hj⟩ := hrel
    have HE := hid he
    clear he
    have hqt : t ≤ q := by omega
    rcases hj with ⟨rfl, rfl, hN1, hpre⟩ | ⟨rfl, rfl, hN1, a, hpre, ha, hNN⟩ | ⟨rfl, rfl, hN1, a, b2, hpre, ha, hb2, hNN⟩ | ⟨rfl, rfl, hN1⟩
    · have hq3 : q ≤ t + 0 := by omega
      have hq4 : t + 0 ≤ q := by omega
      have HQQ := hid hq
      clear hq
      have HPRE := hid hpre
      clear hpre
      by_cases hlt : q < n
      case neg =>
        have hd := h.full (k := q) (by omega)
        have HF := hid (show vgF xs t = vgNo by rw [HQ.out, HE.out, hd, vgGo_nil, vgEnd_no])
        have hltI : ¬ (q : Int) < (n : Int) := by omega
        have hltd : decide ((q : Int) < (n : Int)) = false := by simp; omega
        clear hd
        go_wp2
        go_ret3
        exact P3B.mk HF.out (Below.refl _ _)
      obtain ⟨b, off, x, rfl, hb, hc, hx, hd⟩ := h.step hlt
      have hxb := everyB_get hv hx
      have HD := hid hd
      have HX := hid hx
      have hltI : (q : Int) < (n : Int) := by omega
      clear hd hx
      have hpw : x % 128 * 128 ^ 0 = x % 128 * 1 := rfl
      have HPW := hid hpw
      clear hpw
      have hN00 : N = 0 := by omega
      subst hN00
      by_cases hx8 : x < 128
      case neg =>
        have hx8' : 128 ≤ x := by omega
        have HM := hid (show R = vgGo (3 - 1) 1 (0 + x % 128 * 1) (xs.drop (q + 1)) by rw [HE.out, HD.out, show 3 - 0 = 3 - 1 + 1 from rfl, vgGo_more (by omega), HPW.out])
        go_wp2
        go_round
        case rel => exact ⟨1, q + 1, _, by have := HQQ.out; omega, by go_num, by go_num, by omega, by first | exact HM.out | (rw [HM.out]; congr 1; omega) | simpa using HM.out, (.inr (.inl ⟨rfl, rfl, by omega, x, by rw [cut_snoc hqt HX.out, HPRE.out]; rfl, ⟨hx8', hxb.2⟩, by omega⟩))⟩
        case measure => simp [intOf]; omega
      have hEE : 0 + x % 128 * 128 ^ 0 = x % 128 := by first | (rw [HPW.out]; done) | (rw [HPW.out]; omega)
      have hct : ¬ c = t := by omega
      have hcI : (q : Int) + 1 ≤ (c : Int) := by omega
      have htq : (t : Int) ≤ (q : Int) + 1 := by omega
      have hwq : IntKind.i64.wrap ((q : Int) + 1) = (q : Int) + 1 := IntWalk.i64_in _ (by omega)
      have h0q : (0 : Int) ≤ (q : Int) + 1 := by omega
      have h0t : (0 : Int) ≤ (t : Int) := by omega
      have htn : ((q : Int) + 1).toNat = q + 1 := by omega
      have hrow2 : ∀ L, L = q + 1 - t → Row w B (some ⟨b, off + t, none⟩) L (c - t) ((xs.take (q + 1)).drop t) := fun L hL => by
        have := (h.pre (k := q + 1) (by omega)).suf (k := t) (by omega)
        rw [if_neg hct, Option.map_some, Addr.add_lit] at this
        rw [hL]; exact this
      have HCUT := hid (cut_snoc hqt HX.out)
      by_cases hl : (varF (x % 128)).length = 0 + 1
      · have HF := hid (show vgF xs t = (x % 128, (q : Int) + 1, true) by
          rw [HQ.out, HE.out, HD.out, show 3 - 0 = 3 - 1 + 1 from rfl, vgGo_yes hx8 (by rw [hEE, hl]), hEE, vgEnd_yes]
          have := HQQ.out
          congr 2; omega)
        have hcb : (varF (x % 128) == (xs.take (q + 1)).drop t) = true := by
          rw [HCUT.out, HPRE.out, beq_iff_eq]
          exact canon0 hxb.1 hx8
        clear hl hEE
        go_wp2_with fail
        go_region_with (first | (go_at_call 20; refine (VarPut_s_c _ _).mono ?_; rintro e w2 ⟨A2, c2, rfl, hown2, hbw2⟩) | (go_at_call 38; refine (l2Same_s_c _ _ _ _ _ _ _ _ _ _ _ hown2.row ((hrow2 _ (by omega)).drew.below (hbw2.mono hB)) (Nat.le_refl _) (Nat.le_trans hB hbw2.size)).mono ?_; rintro e w3 ⟨rfl, hbw3⟩))
        all_goals
          go_wp2
          go_ret3
          exact P3B.mk HF.out ((Below.refl w.heap.size w).drew.trans (hbw2.trans (hbw3.mono hbw2.size)))
      · have HF := hid (show vgF xs t = vgNo by
          rw [HQ.out, HE.out, HD.out, show 3 - 0 = 3 - 1 + 1 from rfl, vgGo_no hx8 (by rw [hEE]; exact hl), vgEnd_no])
        have hcb : (varF (x % 128) == (xs.take (q + 1)).drop t) = false := by
          rw [HCUT.out, HPRE.out, beq_eq_false_iff_ne]
          intro e
          exact hl (by rw [e]; rfl)
        clear hl hEE
        go_wp2_with fail
        go_region_with (first | (go_at_call 20; refine (VarPut_s_c _ _).mono ?_; rintro e w2 ⟨A2, c2, rfl, hown2, hbw2⟩) | (go_at_call 38; refine (l2Same_s_c _ _ _ _ _ _ _ _ _ _ _ hown2.row ((hrow2 _ (by omega)).drew.below (hbw2.mono hB)) (Nat.le_refl _) (Nat.le_trans hB hbw2.size)).mono ?_; rintro e w3 ⟨rfl, hbw3⟩))
        all_goals
          go_wp2
          go_ret3
          exact P3B.mk HF.out ((Below.refl w.heap.size w).drew.trans (hbw2.trans (hbw3.mono hbw2.size)))
    · have hq3 : q ≤ t + 1 := by omega
      have hq4 : t + 1 ≤ q := by omega
      have HQQ := hid hq
      clear hq
      have HPRE := hid hpre
      have HNN := hid hNN
      clear hpre hNN
      by_cases hlt : q < n
      case neg =>
        have hd := h.full (k := q) (by omega)
        have HF := hid (show vgF xs t = vgNo by rw [HQ.out, HE.out, hd, vgGo_nil, vgEnd_no])
        have hltI : ¬ (q : Int) < (n : Int) := by omega
        have hltd : decide ((q : Int) < (n : Int)) = false := by simp; omega
        clear hd
        go_wp2
        go_ret3
        exact P3B.mk HF.out (Below.refl _ _)
      obtain ⟨b, off, x, rfl, hb, hc, hx, hd⟩ := h.step hlt
      have hxb := everyB_get hv hx
      have HD := hid hd
      have HX := hid hx
      have hltI : (q : Int) < (n : Int) := by omega
      clear hd hx
      have hpw : x % 128 * 128 ^ 1 = x % 128 * 128 := rfl
      have HPW := hid hpw
      clear hpw
      by_cases hx8 : x < 128
      case neg =>
        have hx8' : 128 ≤ x := by omega
        have HM := hid (show R = vgGo (3 - 2) 2 (N + x % 128 * 128) (xs.drop (q + 1)) by rw [HE.out, HD.out, show 3 - 1 = 3 - 2 + 1 from rfl, vgGo_more (by omega), HPW.out])
        go_wp2
        go_round
        case rel => exact ⟨2, q + 1, _, by have := HQQ.out; omega, by go_num, by go_num, by omega, by first | exact HM.out | (rw [HM.out]; congr 1; omega) | simpa using HM.out, (.inr (.inr (.inl ⟨rfl, rfl, by omega, a, x, by rw [cut_snoc hqt HX.out, HPRE.out]; rfl, ha, ⟨hx8', hxb.2⟩, by rw [HNN.out]⟩)))⟩
        case measure => simp [intOf]; omega
      have hEE : N + x % 128 * 128 ^ 1 = N + x % 128 * 128 := by first | (rw [HPW.out]; done) | (rw [HPW.out]; omega)
      have hct : ¬ c = t := by omega
      have hcI : (q : Int) + 1 ≤ (c : Int) := by omega
      have htq : (t : Int) ≤ (q : Int) + 1 := by omega
      have hwq : IntKind.i64.wrap ((q : Int) + 1) = (q : Int) + 1 := IntWalk.i64_in _ (by omega)
      have h0q : (0 : Int) ≤ (q : Int) + 1 := by omega
      have h0t : (0 : Int) ≤ (t : Int) := by omega
      have htn : ((q : Int) + 1).toNat = q + 1 := by omega
      have hrow2 : ∀ L, L = q + 1 - t → Row w B (some ⟨b, off + t, none⟩) L (c - t) ((xs.take (q + 1)).drop t) := fun L hL => by
        have := (h.pre (k := q + 1) (by omega)).suf (k := t) (by omega)
        rw [if_neg hct, Option.map_some, Addr.add_lit] at this
        rw [hL]; exact this
      have HCUT := hid (cut_snoc hqt HX.out)
      by_cases hl : (varF (N + x % 128 * 128)).length = 1 + 1
      · have HF := hid (show vgF xs t = (N + x % 128 * 128, (q : Int) + 1, true) by
          rw [HQ.out, HE.out, HD.out, show 3 - 1 = 3 - 2 + 1 from rfl, vgGo_yes hx8 (by rw [hEE, hl]), hEE, vgEnd_yes]
          have := HQQ.out
          congr 2; omega)
        have hcb : (varF (N + x % 128 * 128) == (xs.take (q + 1)).drop t) = true := by
          rw [HCUT.out, HPRE.out, beq_iff_eq]
          exact by rw [HNN.out]; exact canon1 ha.1 ha.2 hxb.1 hx8 (by rw [← HNN.out]; exact hl)
        clear hl hEE
        go_wp2_with fail
        go_region_with (first | (go_at_call 20; refine (VarPut_s_c _ _).mono ?_; rintro e w2 ⟨A2, c2, rfl, hown2, hbw2⟩) | (go_at_call 38; refine (l2Same_s_c _ _ _ _ _ _ _ _ _ _ _ hown2.row ((hrow2 _ (by omega)).drew.below (hbw2.mono hB)) (Nat.le_refl _) (Nat.le_trans hB hbw2.size)).mono ?_; rintro e w3 ⟨rfl, hbw3⟩))
        all_goals
          go_wp2
          go_ret3
          exact P3B.mk HF.out ((Below.refl w.heap.size w).drew.trans (hbw2.trans (hbw3.mono hbw2.size)))
      · have HF := hid (show vgF xs t = vgNo by
          rw [HQ.out, HE.out, HD.out, show 3 - 1 = 3 - 2 + 1 from rfl, vgGo_no hx8 (by rw [hEE]; exact hl), vgEnd_no])
        have hcb : (varF (N + x % 128 * 128) == (xs.take (q + 1)).drop t) = false := by
          rw [HCUT.out, HPRE.out, beq_eq_false_iff_ne]
          intro e
          exact hl (by rw [e]; rfl)
        clear hl hEE
        go_wp2_with fail
        go_region_with (first | (go_at_call 20; refine (VarPut_s_c _ _).mono ?_; rintro e w2 ⟨A2, c2, rfl, hown2, hbw2⟩) | (go_at_call 38; refine (l2Same_s_c _ _ _ _ _ _ _ _ _ _ _ hown2.row ((hrow2 _ (by omega)).drew.below (hbw2.mono hB)) (Nat.le_refl _) (Nat.le_trans hB hbw2.size)).mono ?_; rintro e w3 ⟨rfl, hbw3⟩))
        all_goals
          go_wp2
          go_ret3
          exact P3B.mk HF.out ((Below.refl w.heap.size w).drew.trans (hbw2.trans (hbw3.mono hbw2.size)))
    · have hq3 : q ≤ t + 2 := by omega
      have hq4 : t + 2 ≤ q := by omega
      have HQQ := hid hq
      clear hq
      have HPRE := hid hpre
      have HNN := hid hNN
      clear hpre hNN
      by_cases hlt : q < n
      case neg =>
        have hd := h.full (k := q) (by omega)
        have HF := hid (show vgF xs t = vgNo by rw [HQ.out, HE.out, hd, vgGo_nil, vgEnd_no])
        have hltI : ¬ (q : Int) < (n : Int) := by omega
        have hltd : decide ((q : Int) < (n : Int)) = false := by simp; omega
        clear hd
        go_wp2
        go_ret3
        exact P3B.mk HF.out (Below.refl _ _)
      obtain ⟨b, off, x, rfl, hb, hc, hx, hd⟩ := h.step hlt
      have hxb := everyB_get hv hx
      have HD := hid hd
      have HX := hid hx
      have hltI : (q : Int) < (n : Int) := by omega
      clear hd hx
      have hpw : x % 128 * 128 ^ 2 = x % 128 * 16384 := rfl
      have HPW := hid hpw
      clear hpw
      by_cases hx8 : x < 128
      case neg =>
        have hx8' : 128 ≤ x := by omega
        have HM := hid (show R = vgGo (3 - 3) 3 (N + x % 128 * 16384) (xs.drop (q + 1)) by rw [HE.out, HD.out, show 3 - 2 = 3 - 3 + 1 from rfl, vgGo_more (by omega), HPW.out])
        go_wp2
        go_round
        case rel => exact ⟨3, q + 1, _, by have := HQQ.out; omega, by go_num, by go_num, by omega, by first | exact HM.out | (rw [HM.out]; congr 1; omega) | simpa using HM.out, (.inr (.inr (.inr ⟨rfl, rfl, by omega⟩)))⟩
        case measure => simp [intOf]; omega
      have hEE : N + x % 128 * 128 ^ 2 = N + x % 128 * 16384 := by first | (rw [HPW.out]; done) | (rw [HPW.out]; omega)
      have hct : ¬ c = t := by omega
      have hcI : (q : Int) + 1 ≤ (c : Int) := by omega
      have htq : (t : Int) ≤ (q : Int) + 1 := by omega
      have hwq : IntKind.i64.wrap ((q : Int) + 1) = (q : Int) + 1 := IntWalk.i64_in _ (by omega)
      have h0q : (0 : Int) ≤ (q : Int) + 1 := by omega
      have h0t : (0 : Int) ≤ (t : Int) := by omega
      have htn : ((q : Int) + 1).toNat = q + 1 := by omega
      have hrow2 : ∀ L, L = q + 1 - t → Row w B (some ⟨b, off + t, none⟩) L (c - t) ((xs.take (q + 1)).drop t) := fun L hL => by
        have := (h.pre (k := q + 1) (by omega)).suf (k := t) (by omega)
        rw [if_neg hct, Option.map_some, Addr.add_lit] at this
        rw [hL]; exact this
      have HCUT := hid (cut_snoc hqt HX.out)
      by_cases hl : (varF (N + x % 128 * 16384)).length = 2 + 1
      · have HF := hid (show vgF xs t = (N + x % 128 * 16384, (q : Int) + 1, true) by
          rw [HQ.out, HE.out, HD.out, show 3 - 2 = 3 - 3 + 1 from rfl, vgGo_yes hx8 (by rw [hEE, hl]), hEE, vgEnd_yes]
          have := HQQ.out
          congr 2; omega)
        have hcb : (varF (N + x % 128 * 16384) == (xs.take (q + 1)).drop t) = true := by
          rw [HCUT.out, HPRE.out, beq_iff_eq]
          exact by rw [HNN.out]; exact canon2 ha.1 ha.2 hb2.1 hb2.2 hxb.1 hx8 (by rw [← HNN.out]; exact hl)
        clear hl hEE
        go_wp2_with fail
        go_region_with (first | (go_at_call 20; refine (VarPut_s_c _ _).mono ?_; rintro e w2 ⟨A2, c2, rfl, hown2, hbw2⟩) | (go_at_call 38; refine (l2Same_s_c _ _ _ _ _ _ _ _ _ _ _ hown2.row ((hrow2 _ (by omega)).drew.below (hbw2.mono hB)) (Nat.le_refl _) (Nat.le_trans hB hbw2.size)).mono ?_; rintro e w3 ⟨rfl, hbw3⟩))
        all_goals
          go_wp2
          go_ret3
          exact P3B.mk HF.out ((Below.refl w.heap.size w).drew.trans (hbw2.trans (hbw3.mono hbw2.size)))
      · have HF := hid (show vgF xs t = vgNo by
          rw [HQ.out, HE.out, HD.out, show 3 - 2 = 3 - 3 + 1 from rfl, vgGo_no hx8 (by rw [hEE]; exact hl), vgEnd_no])
        have hcb : (varF (N + x % 128 * 16384) == (xs.take (q + 1)).drop t) = false := by
          rw [HCUT.out, HPRE.out, beq_eq_false_iff_ne]
          intro e
          exact hl (by rw [e]; rfl)
        clear hl hEE
        go_wp2_with fail
        go_region_with (first | (go_at_call 20; refine (VarPut_s_c _ _).mono ?_; rintro e w2 ⟨A2, c2, rfl, hown2, hbw2⟩) | (go_at_call 38; refine (l2Same_s_c _ _ _ _ _ _ _ _ _ _ _ hown2.row ((hrow2 _ (by omega)).drew.below (hbw2.mono hB)) (Nat.le_refl _) (Nat.le_trans hB hbw2.size)).mono ?_; rintro e w3 ⟨rfl, hbw3⟩))
        all_goals
          go_wp2
          go_ret3
          exact P3B.mk HF.out ((Below.refl w.heap.size w).drew.trans (hbw2.trans (hbw3.mono hbw2.size)))
    · have HQQ := hid hq
      have hq3 : q = t + 3 := hq
      have HF := hid (show vgF xs t = vgNo by rw [HQ.out, HE.out, Nat.sub_self, vgGo_zero, vgEnd_no])
      have hqI : ¬ (q : Int) < (t : Int) + 3 := by omega
      have hqd : decide ((q : Int) < (t : Int) + 3) = false := by simp; omega
      clear hq hq3
      by_cases hlt : q < n
      · have hltI : (q : Int) < (n : Int) := by omega
        go_wp2
        go_ret3
        exact P3B.mk HF.out (Below.refl _ _)
      · have hltI : ¬ (q : Int) < (n : Int) := by omega
        have hltd : decide ((q : Int) < (n : Int)) = false := by simp; omega
        go_wp2
        go_ret3
        exact P3B.mk HF.out (Below.refl _ _)


end Go.Proofs.Ytaaaiagpbhiphaa
