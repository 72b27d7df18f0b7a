/- Contracts of BitsPut, of the program and of the reference. No condition. -/
import Derived.Test.YtfpieikheofbgaaBits1
namespace Go.Proofs.Ytfpieikheofbgaa
open Go.RowKit

set_option maxHeartbeats 1600000 in
theorem BitsPut_s_c (A : Option Addr) (l c B : Nat) (xs : List Int) (n m : Int) (w : World) (h : Row w B A l c xs) (hB : B ≤ w.heap.size) : Calls Try.prog 25 #[.slice A l c, .int .i64 n, .int .i64 m] w (PSlB w (bputF xs n m)) := by
  have hs := h.small
  have ho : Own (w.alloc (.cells #[] 3)) w.heap.size (some ⟨w.heap.size, 0, none⟩) 0 0 [] := Own.lit w [] rfl (by omega) (Nat.le_refl _)
  have hbl : Below w.heap.size w (w.alloc (.cells #[] 3)) := (Below.refl _ _).alloc (Nat.le_refl _) _
  by_cases hv : bitsB xs = true
  case neg =>
    have HF := hid (bputF_no (xs := xs) (n := n) (m := m) (fun e => hv e.1))
    rw [Bool.not_eq_true] at hv
    go_enter Try.func25, Try.ntmps25
    go_wp2_with fail
    refine (l1Bits_c _ _ _ _ _ _ h).mono ?_
    rintro e w' ⟨rfl, rfl⟩
    go_wp2
    go_ret2
    rw [HF.out]
    exact PSlB.mk rfl ho hbl
  by_cases hm : 0 ≤ m ∧ m ≤ 16
  case neg =>
    have HF := hid (bputF_no (xs := xs) (n := n) (m := m) (fun e => hm ⟨e.2.1, e.2.2.1⟩))
    have hin : inB 0 16 m = false := inB_false.2 (by omega)
    clear hm
    go_enter Try.func25, Try.ntmps25
    go_wp2_with fail
    refine (l1Bits_c _ _ _ _ _ _ h).mono ?_
    rintro e w' ⟨rfl, rfl⟩
    go_wp2_with fail
    refine (l6In_c _ _ _ _).mono ?_
    rintro e w' ⟨rfl, rfl⟩
    go_wp2
    go_ret2
    rw [HF.out]
    exact PSlB.mk rfl ho hbl
  have hmB : inB 0 16 m = true := inB_iff.2 hm
  obtain ⟨m, rfl⟩ := Int.eq_ofNat_of_zero_le hm.1
  have hm16 : m ≤ 16 := by omega
  clear hm
  obtain ⟨p, hp⟩ : ∃ p : Int, p = 2 ^ m := ⟨_, rfl⟩
  have hp1 : p ≤ 65536 := by rw [hp]; exact pow_small (k := m) (m := 16) hm16
  have hp0 : 0 < p := by rw [hp]; exact Int.pow_pos (by omega)
  have cP := l1Power_c m w (by omega)
  rw [← hp] at cP
  by_cases hn : 0 ≤ n ∧ n ≤ p - 1
  case neg =>
    have HF := hid (bputF_no (xs := xs) (n := n) (m := (m : Int)) (fun e => hn ⟨e.2.2.2.1, by have e2 := e.2.2.2.2.1; rw [Int.toNat_natCast, ← hp] at e2; omega⟩))
    have hin : inB 0 (p - 1) n = false := inB_false.2 (by omega)
    clear hn hp
    go_enter Try.func25, Try.ntmps25
    go_wp2_with fail
    refine (l1Bits_c _ _ _ _ _ _ h).mono ?_
    rintro e w' ⟨rfl, rfl⟩
    go_wp2_with fail
    refine (l6In_c _ _ _ _).mono ?_
    rintro e w' ⟨rfl, rfl⟩
    go_wp2_with fail
    refine cP.mono ?_
    rintro e w' ⟨rfl, rfl⟩
    clear cP
    go_wp2_with fail
    refine (l6In_c _ _ _ _).mono ?_
    rintro e w' ⟨rfl, rfl⟩
    go_wp2
    go_ret2
    rw [HF.out]
    exact PSlB.mk rfl ho hbl
  have hnB : inB 0 (p - 1) n = true := inB_iff.2 hn
  obtain ⟨n0, n1⟩ := hn
  by_cases hl : l + m ≤ 600
  case neg =>
    have HF := hid (bputF_no (xs := xs) (n := n) (m := (m : Int)) (fun e => hl (by have e2 := e.2.2.2.2.2; rw [h.len] at e2; omega)))
    have hI : 600 < (l : Int) + (m : Int) := by omega
    clear hp
    go_enter Try.func25, Try.ntmps25
    go_wp2_with fail
    refine (l1Bits_c _ _ _ _ _ _ h).mono ?_
    rintro e w' ⟨rfl, rfl⟩
    go_wp2_with fail
    refine (l6In_c _ _ _ _).mono ?_
    rintro e w' ⟨rfl, rfl⟩
    go_wp2_with fail
    refine cP.mono ?_
    rintro e w' ⟨rfl, rfl⟩
    clear cP
    go_wp2_with fail
    refine (l6In_c _ _ _ _).mono ?_
    rintro e w' ⟨rfl, rfl⟩
    go_wp2
    go_ret2
    rw [HF.out]
    exact PSlB.mk rfl ho hbl
  have hI : ¬ 600 < (l : Int) + (m : Int) := by omega
  have hId : decide (600 < (l : Int) + (m : Int)) = false := by simp; omega
  have HF := hid (bputF_yes (n := n) hv hm16 n0 (by rw [← hp]; omega) (by rw [h.len]; exact hl))
  clear hp
  go_enter Try.func25, Try.ntmps25
  go_wp2_with fail
  refine (l1Bits_c _ _ _ _ _ _ h).mono ?_
  rintro e w' ⟨rfl, rfl⟩
  go_wp2_with fail
  refine (l6In_c _ _ _ _).mono ?_
  rintro e w' ⟨rfl, rfl⟩
  go_wp2_with fail
  refine cP.mono ?_
  rintro e w' ⟨rfl, rfl⟩
  clear cP
  go_wp2_with fail
  refine (l6In_c _ _ _ _).mono ?_
  rintro e w' ⟨rfl, rfl⟩
  go_wp2_with (at_builtin; refine wpList_join rfl _ _ rfl rfl ho rfl (h.below (hbl.mono hB)) (by omega) (by simp) ?_; intro A2 c2 w2 hown2 hg2 hb2; rw [Nat.zero_add, List.nil_append] at hown2; rw [Nat.zero_add]; have hb12 := hbl.trans hb2)
  refine (l1Put_c n m w2 n0 (by omega) (by omega)).mono ?_
  rintro e w3 ⟨A3, c3, rfl, hown3, hb3⟩
  rw [putL_len] at hown3
  have hlm := putL_len m n
  rw [hlm]
  clear hlm
  have hown4 := hown2.below hb3 (Nat.le_refl _)
  have hb13 := hb12.trans (hb3.mono hb12.size)
  go_wp2_with (at_builtin; refine wpList_join rfl _ _ rfl rfl hown4 rfl hown3.row (by omega) hb13.size ?_; intro A5 c5 w5 hown5 hg5 hb5)
  go_ret2
  rw [HF.out]
  exact PSlB.mk hown5.len hown5 (hb13.trans hb5)
end Go.Proofs.Ytfpieikheofbgaa
