/- Contracts of BitsBytes, of the program and of the reference. No condition. -/
import Derived.Test.YtfpieikheofbgaaBits1
import Derived.Test.YtfpieikheofbgaaBitsQ
namespace Go.Proofs.Ytfpieikheofbgaa
open Go.RowKit

set_option maxHeartbeats 1600000 in
theorem BitsBytes_c (A : Option Addr) (n c B : Nat) (xs : List Int) (w : World) (h : Row w B A n c xs) (hB : B ≤ w.heap.size) : Calls Try.prog 24 #[.slice A n c] w (PSlB w (bbF xs)) := by
  have hs := h.small
  by_cases hv : bitsB xs = true
  case neg =>
    have ho : Own (w.alloc (.cells #[] 3)) w.heap.size (some ⟨w.heap.size, 0, none⟩) 0 0 [] := Own.lit w [] rfl (by omega) (Nat.le_refl _)
    have hbl : Below w.heap.size w (w.alloc (.cells #[] 3)) := (Below.refl _ _).alloc (Nat.le_refl _) _
    rw [Bool.not_eq_true] at hv
    have HF := hid (bbF_no hv)
    go_enter Try.func24, Try.ntmps24
    go_wp2_with fail
    refine (bitsOk_c _ _ _ _ _ _ h).mono ?_
    rintro e w' ⟨rfl, rfl⟩
    go_wp2
    go_ret2
    rw [HF.out]
    exact PSlB.mk rfl ho hbl
  obtain ⟨hv1, hl6⟩ := bitsB_iff.1 hv
  rw [h.len] at hl6
  obtain ⟨q, hq⟩ : ∃ q, (n + 7) / 8 = q := ⟨_, rfl⟩
  have hq8 : n ≤ 8 * q ∧ q ≤ 75 := by omega
  obtain ⟨hq1, hq2⟩ := hq8
  have HF := hid (bbF_yes hv h.len hq)
  have HN := hid (show xs.length ≤ 8 * q by rw [h.len]; exact hq1)
  have hqI : ((n : Int) + 7) / 8 = (q : Int) := by omega
  clear hq
  obtain ⟨i0, hi, hz0, hz1, hz2⟩ := info_parts int_info
  go_enter Try.func24, Try.ntmps24
  go_wp2_with fail
  refine (bitsOk_c _ _ _ _ _ _ h).mono ?_
  rintro e w' ⟨rfl, rfl⟩
  go_wp2_with (at_make; refine wpList_make_full _ rfl _ _ 22 rfl w.heap.size 3 i0 (.int .i64 0) 1 Try.underlying22 hi hz0 hz1 .i64 .i64 _ _ q rfl rfl (by omega) (by omega) (by rw [hz2]; omega) (by unfold maxLen; omega) (Nat.le_refl _) ?_; intro w0 hown0 hgrow0; have ho0 := Own.made hown0 (by omega); have hb0 : Below w.heap.size w w0 := (Below.refl _ _).grown hgrow0 (Nat.le_refl _) (fun k hk => by cases hk); clear hgrow0 hown0 hz2 hz1 hz0 hi; rw [← pack_start q xs] at ho0)
  go_loopw [18] (fun i wr => ∃ k : Nat, k ≤ n ∧ i = .int .i64 k ∧ Own wr w.heap.size (some ⟨w.heap.size, 0, none⟩) q q (packN q (fillQ q k xs)) ∧ Below w.heap.size w wr) (fun i _ => n - (intOf i).toNat)
  case atStart => exact ⟨0, Nat.zero_le _, rfl, ho0, hb0⟩
  case round =>
    obtain ⟨k, hk, rfl, hown, hbel⟩ := hrel
    by_cases hlt : k < n
    · obtain ⟨b, off, x, rfl, hb, hc, hx, hd⟩ := (h.below (hbel.mono hB)).step hlt
      have hxb := everyB_get hv1 hx
      obtain ⟨j, p, hj, hp⟩ : ∃ j p, k = 8 * j + p ∧ p < 8 := ⟨k / 8, k % 8, by omega, by omega⟩
      obtain ⟨v, hv0, hv1', hv2, hor, hst⟩ := pack_step hv1 hx HN.out hj hp
      have hcl := hown.cellAt hv0
      have hf := hown.frozenAt j
      have hown2 := hown.stored j (v + x * 2 ^ (7 - p))
      rw [hst] at hown2
      obtain ⟨s, hs7⟩ : ∃ s, 7 - p = s := ⟨_, rfl⟩
      rw [hs7] at hown2 hor
      have hps : (1 : Int) ≤ 2 ^ s ∧ (2 : Int) ^ s ≤ 128 := ⟨Int.pow_pos (by omega), pow_small (k := s) (m := 7) (by omega)⟩
      have hxs : 0 ≤ x * 2 ^ s ∧ x * 2 ^ s ≤ 128 := by rcases (show x = 0 ∨ x = 1 by omega) with rfl | rfl <;> omega
      obtain ⟨hxs0, hxs1⟩ := hxs
      have hjq : j < q := by omega
      have hjqI : (j : Int) < (q : Int) := by omega
      have hkj : (k : Int) / 8 = (j : Int) := by omega
      have hks : (7 : Int) - (k : Int) % 8 = (s : Int) := by omega
      have HJ := hid hj
      clear hst hd hx hv0 hj hps hs7
      go_wp2
      go_region
      all_goals
        go_wp2
        go_roundw
        case rel => exact ⟨k + 1, by omega, by go_num, hown2.drewN 1, below_drewN (hbel.setCell (p := ⟨w.heap.size, j, none⟩) (Nat.le_refl _) _) 1⟩
        case measure => simp [intOf]; omega
    · obtain rfl : k = n := by omega
      go_wp2
      go_ret2
      rw [HF.out]
      exact PSlB.mk (packN_len _ _) hown hbel
end Go.Proofs.Ytfpieikheofbgaa
