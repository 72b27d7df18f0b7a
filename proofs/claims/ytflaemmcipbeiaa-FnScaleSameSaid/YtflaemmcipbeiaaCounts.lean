/- Contracts of the counts' chapter: validity, starts, counts; of the program and of the reference. No condition. -/
import Derived.Test.YtflaemmcipbeiaaBase
import Derived.Test.YtflaemmcipbeiaaCountsP
import Derived.RegionTactic
import Derived.BigRegion
namespace Go.Proofs.Ytflaemmcipbeiaa
open Go.RowKit


theorem CountsValid_c (A : Option Addr) (n c B : Nat) (xs : List Int) (w : World) (h : Row w B A n c xs) :
    Calls Try.prog 13 #[.slice A n c] w fun e w' => e = .returned (.bool (countsV xs)) ∧ w = w' := by
  have hs := h.small
  by_cases hn : n = 8
  · subst hn
    have HV := hid (show countsV xs = everyB 0 999 xs by simp [countsV, h.len])
    go_enter Try.func13, Try.ntmps13
    go_wp2_with (go_at_call 25; refine (every_c _ _ _ _ _ _ _ _ h).mono ?_; rintro e w' ⟨rfl, rfl⟩)
    go_ret
    exact ⟨by rw [HV.out]; rfl, rfl⟩
  · have HV := hid (show countsV xs = false by simp [countsV, h.len, hn])
    have hnd : ((n : Int) == 8) = false := by simp; omega
    go_enter Try.func13, Try.ntmps13
    go_wp2_with (go_at_call 25; refine (every_c _ _ _ _ _ _ _ _ h).mono ?_; rintro e w' ⟨rfl, rfl⟩)
    go_ret
    exact ⟨by rw [HV.out]; rfl, rfl⟩


theorem CountsValid_s_c (A : Option Addr) (n c B : Nat) (xs : List Int) (w : World) (h : Row w B A n c xs) :
    Calls Try.prog 22 #[.slice A n c] w fun e w' => e = .returned (.bool (countsV xs)) ∧ w = w' := by
  have hs := h.small
  have HV := hid (show countsV xs = (((n : Int) == 8) && everyB 0 999 xs) by rw [countsV, h.len]; congr 1; rw [Bool.eq_iff_iff, decide_eq_true_iff, beq_iff_eq]; omega)
  go_enter Try.func22, Try.ntmps22
  go_wp2
  go_loop [3] (fun i => ∃ k : Nat, k ≤ n ∧ i = .int .i64 k ∧ everyB 0 999 xs = everyB 0 999 (xs.drop k)) (fun i => n - (intOf i).toNat)
  case atStart => exact ⟨0, Nat.zero_le _, rfl, rfl⟩
  case round =>
    obtain ⟨k, hk, rfl, he⟩ := hrel
    have HE := hid he
    clear he
    by_cases hlt : k < n
    · obtain ⟨b, off, x, rfl, hb, hc, _, hd⟩ := h.step hlt
      have HD := hid hd
      clear hd
      by_cases hx : inB 0 999 x = true
      · go_wp2_with (go_at_call 27; refine (l6In_c _ _ _ _).mono ?_; rintro e w' ⟨rfl, rfl⟩)
        go_round
        case rel => exact ⟨k + 1, by omega, by go_num, by rw [HE.out, HD.out, everyB_cons, hx]; rfl⟩
        case measure => simp [intOf]; omega
      · rw [Bool.not_eq_true] at hx
        go_wp2_with (go_at_call 27; refine (l6In_c _ _ _ _).mono ?_; rintro e w' ⟨rfl, rfl⟩)
        go_ret
        exact ⟨by rw [HV.out, HE.out, HD.out, everyB_cons, hx, Bool.false_and, Bool.and_false]; rfl, rfl⟩
    · have hd := h.full (k := k) (by omega)
      have HD := hid hd
      clear hd
      by_cases hn8 : n = 8
      · subst hn8
        go_wp2
        go_ret
        exact ⟨by rw [HV.out, HE.out, HD.out, everyB_nil, Bool.and_true]; rfl, rfl⟩
      · have hnb : ((n : Int) == 8) = false := by simp; omega
        go_wp2
        go_ret
        exact ⟨by rw [HV.out, HE.out, HD.out, everyB_nil, Bool.and_true, hnb]; rfl, rfl⟩
end Go.Proofs.Ytflaemmcipbeiaa
