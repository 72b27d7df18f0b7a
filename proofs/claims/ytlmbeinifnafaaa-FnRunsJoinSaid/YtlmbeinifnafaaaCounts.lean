/- Contracts of the counts' chapter: validity, starts, counts; of the program and of the reference. No condition. -/
import Derived.Test.YtlmbeinifnafaaaBase
import Derived.Test.YtlmbeinifnafaaaCountsP
import Derived.RegionTactic
import Derived.BigRegion
namespace Go.Proofs.Ytlmbeinifnafaaa
open Go.RowKit

theorem ListValid_c (A : Option Addr) (n c B : Nat) (xs : List Int) (w : World) (h : Row w B A n c xs) :
    Calls Try.prog 17 #[.slice A n c] w fun e w' => e = .returned (.bool (listV xs)) ∧ w = w' := by
  have hs := h.small
  by_cases hn : n ≤ 40
  · have HV := hid (show listV xs = everyB 0 7 xs by simp [listV, h.len, hn])
    have hnI : (n : Int) ≤ 40 := by omega
    go_enter Try.func17, Try.ntmps17
    go_wp2_with (go_at_call 38; refine (every_c _ _ _ _ _ _ _ _ h).mono ?_; rintro e w' ⟨rfl, rfl⟩)
    go_ret
    exact ⟨by rw [HV.out]; rfl, rfl⟩
  · have HV := hid (show listV xs = false by simp [listV, h.len, hn])
    have hnd : decide ((n : Int) ≤ 40) = false := by simp; omega
    have hnI : ¬ (n : Int) ≤ 40 := by omega
    go_enter Try.func17, Try.ntmps17
    go_wp2_with (go_at_call 38; refine (every_c _ _ _ _ _ _ _ _ h).mono ?_; rintro e w' ⟨rfl, rfl⟩)
    go_ret
    exact ⟨by rw [HV.out]; rfl, rfl⟩


theorem ListValid_s_c (A : Option Addr) (n c B : Nat) (xs : List Int) (w : World) (h : Row w B A n c xs) :
    Calls Try.prog 30 #[.slice A n c] w fun e w' => e = .returned (.bool (listV xs)) ∧ w = w' := by
  have hs := h.small
  have HV := hid (show listV xs = (decide ((n : Int) ≤ 40) && everyB 0 7 xs) by rw [listV, h.len]; congr 1; rw [decide_eq_decide]; omega)
  go_enter Try.func30, Try.ntmps30
  go_wp2
  go_loop [3] (fun i => ∃ k : Nat, k ≤ n ∧ i = .int .i64 k ∧ everyB 0 7 xs = everyB 0 7 (xs.drop k)) (fun i => n - (intOf i).toNat)
  case atStart => exact ⟨0, Nat.zero_le _, rfl, rfl⟩
  case round =>
    obtain ⟨k, hk, rfl, he⟩ := hrel
    have HE := hid he
    clear he
    by_cases hlt : k < n
    · obtain ⟨b, off, x, rfl, hb, hc, _, hd⟩ := h.step hlt
      have HD := hid hd
      clear hd
      by_cases hx : inB 0 7 x = true
      · go_wp2_with (go_at_call 37; refine (l6In_c _ _ _ _).mono ?_; rintro e w' ⟨rfl, rfl⟩)
        go_round
        case rel => exact ⟨k + 1, by omega, by go_num, by rw [HE.out, HD.out, everyB_cons, hx]; rfl⟩
        case measure => simp [intOf]; omega
      · rw [Bool.not_eq_true] at hx
        go_wp2_with (go_at_call 37; refine (l6In_c _ _ _ _).mono ?_; rintro e w' ⟨rfl, rfl⟩)
        go_ret
        exact ⟨by rw [HV.out, HE.out, HD.out, everyB_cons, hx, Bool.false_and, Bool.and_false]; rfl, rfl⟩
    · have hd := h.full (k := k) (by omega)
      have HD := hid hd
      clear hd
      go_wp2
      go_ret
      exact ⟨by rw [HV.out, HE.out, HD.out, everyB_nil, Bool.and_true]; rfl, rfl⟩

end Go.Proofs.Ytlmbeinifnafaaa
