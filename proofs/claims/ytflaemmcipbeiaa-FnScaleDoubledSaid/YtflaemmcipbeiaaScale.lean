/- Contracts of the scaling of counts: of the program's parts. No condition. -/
import Derived.Test.YtflaemmcipbeiaaCounts
import Derived.Test.YtflaemmcipbeiaaScaleP
import Derived.StillTailTactics
namespace Go.Proofs.Ytflaemmcipbeiaa
open Go.RowKit
set_option linter.unusedVariables false

theorem total_c (A : Option Addr) (n c B : Nat) (xs : List Int) (w : World) (h : Row w B A n c xs) (hv : everyB 0 1000 xs = true) (hn : n ≤ 1000) :
    Calls Try.prog 20 #[.slice A n c] w (fun e w' => e = .returned (.int .i64 (sumL xs)) ∧ w = w') := by
  go_enter Try.func20, Try.ntmps20
  go_wp2
  go_loop [3, 8] (fun v i => ∃ (k : Nat) (a : Int), k ≤ n ∧ v = .int .i64 a ∧ i = .int .i64 k ∧ 0 ≤ a ∧ a ≤ 1000 * k ∧ sumL xs = a + sumL (xs.drop k)) (fun _ i => n - (intOf i).toNat)
  case atStart => exact ⟨0, 0, Nat.zero_le _, rfl, rfl, by omega, by omega, (Int.zero_add _).symm⟩
  case round =>
    obtain ⟨k, a, hk, rfl, rfl, ha0, ha1, he⟩ := hrel
    have HE := hid he
    clear he
    by_cases hlt : k < n
    · obtain ⟨b, off, x, rfl, hb, hc, hx, hd⟩ := h.step hlt
      have hxb := everyB_get hv hx
      have HD := hid hd
      clear hd hx
      go_wp2
      go_round
      case rel => exact ⟨k + 1, _, by omega, rfl, by go_num, by omega, by omega, by rw [HE.out, HD.out, sumL, Int.add_assoc]⟩
      case measure => simp [intOf]; omega
    · have hd := h.full (k := k) (by omega)
      have e : sumL xs = a := by rw [HE.out, hd]; exact Int.add_zero _
      have HS := hid e
      clear hd e
      go_wp2
      go_ret
      exact ⟨by rw [HS.out]; rfl, rfl⟩
theorem l3Sum_c (A : Option Addr) (n c B : Nat) (xs : List Int) (w : World) (h : Row w B A n c xs) (hv : everyB 0 1000 xs = true) (hn : n ≤ 1000) :
    Calls Try.prog 23 #[.slice A n c] w (fun e w' => e = .returned (.int .i64 (sumL xs)) ∧ w = w') := by
  go_enter Try.func23, Try.ntmps23
  go_wp2
  go_loop [3, 4] (fun v i => ∃ (k : Nat) (a : Int), k ≤ n ∧ v = .int .i64 a ∧ i = .int .i64 k ∧ 0 ≤ a ∧ a ≤ 1000 * k ∧ sumL xs = a + sumL (xs.drop k)) (fun _ i => n - (intOf i).toNat)
  case atStart => exact ⟨0, 0, Nat.zero_le _, rfl, rfl, by omega, by omega, (Int.zero_add _).symm⟩
  case round =>
    obtain ⟨k, a, hk, rfl, rfl, ha0, ha1, he⟩ := hrel
    have HE := hid he
    clear he
    by_cases hlt : k < n
    · obtain ⟨b, off, x, rfl, hb, hc, hx, hd⟩ := h.step hlt
      have hxb := everyB_get hv hx
      have HD := hid hd
      clear hd hx
      go_wp2
      go_round
      case rel => exact ⟨k + 1, _, by omega, rfl, by go_num, by omega, by omega, by rw [HE.out, HD.out, sumL, Int.add_assoc]⟩
      case measure => simp [intOf]; omega
    · have hd := h.full (k := k) (by omega)
      have e : sumL xs = a := by rw [HE.out, hd]; exact Int.add_zero _
      have HS := hid e
      clear hd e
      go_wp2
      go_ret
      exact ⟨by rw [HS.out]; rfl, rfl⟩

set_option maxHeartbeats 800000 in
theorem greatest_c (A : Option Addr) (n c B : Nat) (xs : List Int) (w : World) (h : Row w B A n c xs) (hn : 0 < n) :
    Calls Try.prog 21 #[.slice A n c] w (fun e w' => e = .returned (.int .i64 (gr xs : Nat)) ∧ ∃ k, w' = w.drewN k) := by
  have hs := h.small
  obtain ⟨b, off, rfl, hb, hcell⟩ := h.at_ hn
  obtain ⟨x0, hx0⟩ : ∃ x, xs[0]? = some x := ⟨_, List.getElem?_eq_getElem (by rw [h.len]; exact hn)⟩
  have hg0 : gr xs = gG 0 0 x0 xs := by
    cases xs with
    | nil => simp at hx0
    | cons x xs => simp at hx0; subst hx0; exact gr_cons x xs
  have HG := hid hg0
  have HX0 := hid hx0
  clear hg0 hx0
  go_enter Try.func21, Try.ntmps21
  go_wp2
  go_loopw [3, 7] (fun v i wr => ∃ (k t : Nat) (y : Int) (j : Nat), k ≤ n ∧ v = .int .i64 (t : Int) ∧ i = .int .i64 (k : Int) ∧ t < n ∧ xs[t]? = some y ∧ gr xs = gG k t y (xs.drop k) ∧ wr = w.drewN j) (fun _ i _ => n - (intOf i).toNat)
  case atStart => exact ⟨0, 0, x0, 0, Nat.zero_le _, rfl, rfl, hn, HX0.out, HG.out, rfl⟩
  case round =>
    obtain ⟨k, t, y, j, hk, rfl, rfl, ht, hy, he, rfl⟩ := hrel
    have hct := hcell t y hy
    have HY := hid hy
    have HE := hid he
    clear hy he
    have htI : (t : Int) < (n : Int) := by omega
    by_cases hlt : k < n
    · obtain ⟨x, hx, hd⟩ := drop_cons (xs := xs) (k := k) (by rw [h.len]; exact hlt)
      have hck := hcell k x hx
      have HD := hid hd
      have HX := hid hx
      have hkI : (k : Int) < (n : Int) := by omega
      clear hd hx hcell
      by_cases hxy : y < x
      · go_wp2
        go_quiet (fail)
        go_wp2
        go_roundw
        case rel => exact ⟨k + 1, k, x, _, by omega, rfl, by go_num, by omega, HX.out, by rw [HE.out, HD.out, gG_up hxy], by first | rfl | simp [World.drewN_drewN]⟩
        case measure => simp [intOf]; omega
      · go_wp2
        go_quiet (fail)
        go_wp2
        go_roundw
        case rel => exact ⟨k + 1, t, y, _, by omega, rfl, by go_num, by omega, HY.out, by rw [HE.out, HD.out, gG_no (by omega)], by first | rfl | simp [World.drewN_drewN]⟩
        case measure => simp [intOf]; omega
    · have hd := h.full (k := k) (by omega)
      have e : gr xs = t := by rw [HE.out, hd]; rfl
      have HS := hid e
      clear hd e
      go_wp2
      go_ret
      exact ⟨by rw [HS.out]; rfl, j, rfl⟩

set_option maxHeartbeats 800000 in
theorem l3Most_c (A : Option Addr) (n c B : Nat) (xs : List Int) (w : World) (h : Row w B A n c xs) (hn : 0 < n) :
    Calls Try.prog 24 #[.slice A n c] w (fun e w' => e = .returned (.int .i64 (gr xs : Nat)) ∧ ∃ k, w' = w.drewN k) := by
  have hs := h.small
  obtain ⟨b, off, rfl, hb, hcell⟩ := h.at_ hn
  obtain ⟨x0, hx0⟩ : ∃ x, xs[0]? = some x := ⟨_, List.getElem?_eq_getElem (by rw [h.len]; exact hn)⟩
  have hg0 : gr xs = gG 1 0 x0 (xs.drop 1) := by
    cases xs with
    | nil => simp at hx0
    | cons x xs => simp at hx0; subst hx0; rfl
  have HG := hid hg0
  have HX0 := hid hx0
  clear hg0 hx0
  go_enter Try.func24, Try.ntmps24
  go_wp2
  go_loopw [3, 4] (fun v i wr => ∃ (k t : Nat) (y : Int) (j : Nat), k ≤ n ∧ v = .int .i64 (t : Int) ∧ i = .int .i64 (k : Int) ∧ t < n ∧ xs[t]? = some y ∧ gr xs = gG k t y (xs.drop k) ∧ wr = w.drewN j) (fun _ i _ => n - (intOf i).toNat)
  case atStart => exact ⟨1, 0, x0, 0, by omega, rfl, rfl, hn, HX0.out, HG.out, rfl⟩
  case round =>
    obtain ⟨k, t, y, j, hk, rfl, rfl, ht, hy, he, rfl⟩ := hrel
    have hct := hcell t y hy
    have HY := hid hy
    have HE := hid he
    clear hy he
    have htI : (t : Int) < (n : Int) := by omega
    by_cases hlt : k < n
    · obtain ⟨x, hx, hd⟩ := drop_cons (xs := xs) (k := k) (by rw [h.len]; exact hlt)
      have hck := hcell k x hx
      have HD := hid hd
      have HX := hid hx
      have hkI : (k : Int) < (n : Int) := by omega
      clear hd hx hcell
      by_cases hxy : y < x
      · go_wp2
        go_quiet (fail)
        go_wp2
        go_roundw
        case rel => exact ⟨k + 1, k, x, _, by omega, rfl, by go_num, by omega, HX.out, by rw [HE.out, HD.out, gG_up hxy], by first | rfl | simp [World.drewN_drewN]⟩
        case measure => simp [intOf]; omega
      · go_wp2
        go_quiet (fail)
        go_wp2
        go_roundw
        case rel => exact ⟨k + 1, t, y, _, by omega, rfl, by go_num, by omega, HY.out, by rw [HE.out, HD.out, gG_no (by omega)], by first | rfl | simp [World.drewN_drewN]⟩
        case measure => simp [intOf]; omega
    · have hd := h.full (k := k) (by omega)
      have e : gr xs = t := by rw [HE.out, hd]; rfl
      have HS := hid e
      clear hd e
      go_wp2
      go_ret
      exact ⟨by rw [HS.out]; rfl, j, rfl⟩
end Go.Proofs.Ytflaemmcipbeiaa
