/- The contract of BitsPut of the program. No condition. -/
import Derived.Test.YtfpieikheofbgaaBits1
namespace Go.Proofs.Ytfpieikheofbgaa
open Go.RowKit

set_option maxHeartbeats 1600000 in
theorem BitsPut_c (A : Option Addr) (l c B : Nat) (xs : List Int) (n m : Int) (w : World) (h : Row w B A l c xs) (hB : B ≤ w.heap.size) : Calls Try.prog 26 #[.slice A l c, .int .i64 n, .int .i64 m] w (PSlB w (bputF xs n m)) := by
  have hs := h.small
  have ho : Own (w.alloc (.cells #[] 3)) w.heap.size (some ⟨w.heap.size, 0, none⟩) 0 0 [] := Own.lit w [] rfl (by omega) (Nat.le_refl _)
  have hbl : Below w.heap.size w (w.alloc (.cells #[] 3)) := (Below.refl _ _).alloc (Nat.le_refl _) _
  by_cases hv : bitsB xs = true
  case neg =>
    have HF := hid (bputF_no (xs := xs) (n := n) (m := m) (fun e => hv e.1))
    rw [Bool.not_eq_true] at hv
    go_enter Try.func26, Try.ntmps26
    go_wp2_with fail
    refine (bitsOk_c _ _ _ _ _ _ h).mono ?_
    rintro e w' ⟨rfl, rfl⟩
    go_wp2
    go_ret2
    rw [HF.out]
    exact PSlB.mk rfl ho hbl
  by_cases hm : 0 ≤ m ∧ m ≤ 16
  case neg =>
    have HF := hid (bputF_no (xs := xs) (n := n) (m := m) (fun e => hm ⟨e.2.1, e.2.2.1⟩))
    have hin : inB 0 16 m = false := inB_false.2 (by omega)
    clear hm
    go_enter Try.func26, Try.ntmps26
    go_wp2_with fail
    refine (bitsOk_c _ _ _ _ _ _ h).mono ?_
    rintro e w' ⟨rfl, rfl⟩
    go_wp2_with fail
    refine (within_c _ _ _ _).mono ?_
    rintro e w' ⟨rfl, rfl⟩
    go_wp2
    go_ret2
    rw [HF.out]
    exact PSlB.mk rfl ho hbl
  have hmB : inB 0 16 m = true := inB_iff.2 hm
  obtain ⟨m, rfl⟩ := Int.eq_ofNat_of_zero_le hm.1
  have hm16 : m ≤ 16 := by omega
  clear hm
  obtain ⟨p, hp⟩ : ∃ p : Int, p = 2 ^ m := ⟨_, rfl⟩
  have hp1 : p ≤ 65536 := by rw [hp]; exact pow_small (k := m) (m := 16) hm16
  have hp0 : 0 < p := by rw [hp]; exact Int.pow_pos (by omega)
  have hsh : (1 : Int) * 2 ^ m = p := by rw [hp, Int.one_mul]
  have hsh2 : (2 : Int) ^ m = p := hp.symm
  by_cases hn : 0 ≤ n ∧ n ≤ p - 1
  case neg =>
    have HF := hid (bputF_no (xs := xs) (n := n) (m := (m : Int)) (fun e => hn ⟨e.2.2.2.1, by have e2 := e.2.2.2.2.1; rw [Int.toNat_natCast, ← hp] at e2; omega⟩))
    have hin : inB 0 (p - 1) n = false := inB_false.2 (by omega)
    clear hn hp
    go_enter Try.func26, Try.ntmps26
    go_wp2_with fail
    refine (bitsOk_c _ _ _ _ _ _ h).mono ?_
    rintro e w' ⟨rfl, rfl⟩
    go_wp2_with fail
    refine (within_c _ _ _ _).mono ?_
    rintro e w' ⟨rfl, rfl⟩
    go_wp2_with fail
    refine (within_c _ _ _ _).mono ?_
    rintro e w' ⟨rfl, rfl⟩
    go_wp2
    go_ret2
    rw [HF.out]
    exact PSlB.mk rfl ho hbl
  have hnB : inB 0 (p - 1) n = true := inB_iff.2 hn
  obtain ⟨n0, n1⟩ := hn
  by_cases hl : l + m ≤ 600
  case neg =>
    have HF := hid (bputF_no (xs := xs) (n := n) (m := (m : Int)) (fun e => hl (by have e2 := e.2.2.2.2.2; rw [h.len] at e2; omega)))
    have hI : 600 < (l : Int) + (m : Int) := by omega
    clear hp
    go_enter Try.func26, Try.ntmps26
    go_wp2_with fail
    refine (bitsOk_c _ _ _ _ _ _ h).mono ?_
    rintro e w' ⟨rfl, rfl⟩
    go_wp2_with fail
    refine (within_c _ _ _ _).mono ?_
    rintro e w' ⟨rfl, rfl⟩
    go_wp2_with fail
    refine (within_c _ _ _ _).mono ?_
    rintro e w' ⟨rfl, rfl⟩
    go_wp2
    go_ret2
    rw [HF.out]
    exact PSlB.mk rfl ho hbl
  have hI : ¬ 600 < (l : Int) + (m : Int) := by omega
  have hId : decide (600 < (l : Int) + (m : Int)) = false := by simp; omega
  have HF := hid (bputF_yes (n := n) hv hm16 n0 (by rw [← hp]; omega) (by rw [h.len]; exact hl))
  clear hp
  go_enter Try.func26, Try.ntmps26
  go_wp2_with fail
  refine (bitsOk_c _ _ _ _ _ _ h).mono ?_
  rintro e w' ⟨rfl, rfl⟩
  go_wp2_with fail
  refine (within_c _ _ _ _).mono ?_
  rintro e w' ⟨rfl, rfl⟩
  go_wp2_with fail
  refine (within_c _ _ _ _).mono ?_
  rintro e w' ⟨rfl, rfl⟩
  go_wp2_with fail
  refine (cloned_c _ _ _ _ _ _ h hB).mono ?_
  rintro e w2 ⟨A2, c2, rfl, hown2, hb2⟩
  have hlx : xs.length = l := h.len
  rw [hlx] at hown2
  rw [hlx]
  clear hlx hsh hsh2
  go_wp2_with fail
  go_loopw [8, 9] (fun v i wr => ∃ (j M : Nat) (A' : Option Addr) (c' : Nat), j ≤ m ∧ i = .int .i64 ((j : Int) - 1) ∧ v = .slice A' M c' ∧ M ≤ l + (m - j) ∧ Own wr w.heap.size A' M c' (xs ++ (putL n m).take (m - j)) ∧ Below w.heap.size w wr) (fun _ i _ => ((intOf i) + 1).toNat)
  case atStart => exact ⟨m, l, A2, c2, Nat.le_refl _, rfl, rfl, by omega, by simpa using hown2, hb2⟩
  case round =>
    obtain ⟨j, M, A3, c3, hj, rfl, rfl, hM, hown3, hbel3⟩ := hrel
    have hs3 := hbel3.size
    by_cases hj0 : j = 0
    · subst hj0
      have h8 : (putL n m).take (m - 0) = putL n m := List.take_of_length_le (by rw [putL_len]; omega)
      rw [h8] at hown3
      clear h8
      go_wp2
      go_ret2
      rw [HF.out]
      exact PSlB.mk hown3.len hown3 hbel3
    · obtain ⟨i, rfl⟩ : ∃ i, j = i + 1 := ⟨j - 1, by omega⟩
      obtain ⟨q0, q1⟩ := div_pow n0 i
      have e1 := i64_and1 q0 (by omega)
      have HT := hid (put_take (n := n) (m := m) (i := i) (by omega))
      go_wp2_with (at_builtin; refine wpList_push rfl _ _ rfl rfl hown3 rfl (by omega) hs3 ?_; intro A4 c4 w4 hown4 hg4 hb4; rw [List.append_assoc, HT.out] at hown4)
      go_roundw
      case rel => exact ⟨i, M + 1, A4, c4, by omega, by go_num, rfl, by omega, hown4, hbel3.trans hb4⟩
      case measure => first | (simp [intOf]; done) | (simp [intOf]; omega)
end Go.Proofs.Ytfpieikheofbgaa
