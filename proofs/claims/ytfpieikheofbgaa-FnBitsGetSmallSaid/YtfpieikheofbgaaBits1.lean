/- Contracts of the small functions of the chapter of bits, and of BytesBits. No condition. -/
import Derived.Test.YtfpieikheofbgaaBase
import Derived.Test.YtfpieikheofbgaaBitsP
import Derived.Test.YtfpieikheofbgaaPut
namespace Go.Proofs.Ytfpieikheofbgaa
open Go.RowKit

theorem bitsOk_c (A : Option Addr) (n c B : Nat) (xs : List Int) (w : World) (h : Row w B A n c xs) :
    Calls Try.prog 36 #[.slice A n c] w fun e w' => e = .returned (.bool (bitsB xs)) ∧ w = w' := by
  by_cases hn : n ≤ 600
  · have HB := hid (bitsB_short (xs := xs) (by rw [h.len]; exact hn))
    have hnI : (n : Int) ≤ 600 := by omega
    go_enter Try.func36, Try.ntmps36
    go_wp2_with fail
    refine (every_c _ _ _ _ _ _ _ _ h).mono ?_
    rintro e w' ⟨rfl, rfl⟩
    go_wp2
    go_ret
    exact ⟨by rw [HB.out]; rfl, rfl⟩
  · have HB := hid (bitsB_long (xs := xs) (by rw [h.len]; exact hn))
    have hnI : ¬ (n : Int) ≤ 600 := by omega
    have hnd : decide ((n : Int) ≤ 600) = false := by simp; omega
    go_enter Try.func36, Try.ntmps36
    go_wp2
    go_ret
    exact ⟨by rw [HB.out]; rfl, rfl⟩

theorem l1Bits_c (A : Option Addr) (n c B : Nat) (xs : List Int) (w : World) (h : Row w B A n c xs) :
    Calls Try.prog 33 #[.slice A n c] w fun e w' => e = .returned (.bool (bitsB xs)) ∧ w = w' := by
  have hs := h.small
  have HS : Hid (bitsB xs = (everyB 0 1 xs && decide (n ≤ 600))) := hid (by rw [bitsB, h.len])
  go_enter Try.func33, Try.ntmps33
  go_wp2
  go_loop [3] (fun i => ∃ k : Nat, k ≤ n ∧ i = .int .i64 k ∧ everyB 0 1 xs = everyB 0 1 (xs.drop k)) (fun i => n - (intOf i).toNat)
  case atStart => exact ⟨0, Nat.zero_le _, rfl, rfl⟩
  case round =>
    obtain ⟨k, hk, rfl, he⟩ := hrel
    have HE := hid he
    clear he
    by_cases hlt : k < n
    · obtain ⟨b, off, x, rfl, hb, hc, _, hd⟩ := h.step hlt
      have HD := hid hd
      clear hd
      by_cases hx : inB 0 1 x = true
      · go_wp2_with (go_at_call 34; refine (l6In_c _ _ _ _).mono ?_; rintro e w' ⟨rfl, rfl⟩)
        go_round
        case rel => exact ⟨k + 1, by omega, by go_num, by rw [HE.out, HD.out, everyB_cons, hx]; rfl⟩
        case measure => simp [intOf]; omega
      · rw [Bool.not_eq_true] at hx
        go_wp2_with (go_at_call 34; refine (l6In_c _ _ _ _).mono ?_; rintro e w' ⟨rfl, rfl⟩)
        go_ret
        exact ⟨by rw [HS.out, HE.out, HD.out, everyB_cons, hx]; rfl, rfl⟩
    · have hd := h.full (k := k) (by omega)
      have HD := hid hd
      clear hd
      by_cases h6 : n ≤ 600
      · have h6I : (n : Int) ≤ 600 := by omega
        go_wp2
        go_ret
        exact ⟨by rw [HS.out, HE.out, HD.out, decide_eq_true h6]; rfl, rfl⟩
      · have h6I : ¬ (n : Int) ≤ 600 := by omega
        have h6d : decide ((n : Int) ≤ 600) = false := by simp; omega
        go_wp2
        go_ret
        exact ⟨by rw [HS.out, decide_eq_false h6, Bool.and_false]; rfl, rfl⟩

theorem cloned_c (A : Option Addr) (n c B : Nat) (xs : List Int) (w : World) (h : Row w B A n c xs) (hB : B ≤ w.heap.size) : Calls Try.prog 42 #[.slice A n c] w (PSl w xs) := by
  have hs := h.small
  have ho : Own (w.alloc (.cells #[] 3)) w.heap.size (some ⟨w.heap.size, 0, none⟩) 0 0 [] := Own.lit w [] rfl (by omega) (Nat.le_refl _)
  have hbl : Below w.heap.size w (w.alloc (.cells #[] 3)) := (Below.refl _ _).alloc (Nat.le_refl _) _
  go_enter Try.func42, Try.ntmps42
  go_wp2_with (at_builtin; refine wpList_join rfl _ _ rfl rfl ho rfl (h.below (hbl.mono hB)) (by omega) (by simp) ?_; intro A2 c2 w2 hown2 hg2 hb2; rw [Nat.zero_add] at hown2; rw [Nat.zero_add])
  go_ret
  exact PSl.mk h.len hown2 (hbl.trans hb2)

theorem l1Power_c (m : Nat) (w : World) (hm : m ≤ 30) : Calls Try.prog 41 #[.int .i64 (m : Int)] w (fun e w' => e = .returned (.int .i64 (2 ^ m)) ∧ w = w') := by
  go_enter Try.func41, Try.ntmps41
  go_wp2
  go_loop [3, 4] (fun v i => ∃ (k : Nat) (y : Int), k ≤ m ∧ v = .int .i64 y ∧ i = .int .i64 (k : Int) ∧ y = 2 ^ k) (fun _ i => m - (intOf i).toNat)
  case atStart => exact ⟨0, 1, Nat.zero_le _, rfl, rfl, rfl⟩
  case round =>
    obtain ⟨k, y, hk, rfl, rfl, hy⟩ := hrel
    have hp : y ≤ 1073741824 := by rw [hy]; exact pow_small (k := k) (m := 30) (by omega)
    have hp0 : 0 < y := by rw [hy]; exact Int.pow_pos (by omega)
    have HY := hid hy
    clear hy
    by_cases hlt : k < m
    · go_wp2
      go_round
      case rel => exact ⟨k + 1, _, by omega, rfl, by go_num, by rw [Int.pow_succ, ← HY.out, Int.mul_comm]⟩
      case measure => simp [intOf]; omega
    · obtain rfl : k = m := by omega
      go_wp2
      go_ret
      exact ⟨by rw [HY.out]; rfl, rfl⟩

set_option maxHeartbeats 1600000 in
theorem BytesBits_c (A : Option Addr) (n c B : Nat) (xs : List Int) (w : World) (h : Row w B A n c xs) (hB : B ≤ w.heap.size) : Calls Try.prog 20 #[.slice A n c] w (PSlB w (byF xs)) := by
  have hs := h.small
  have ho : Own (w.alloc (.cells #[] 3)) w.heap.size (some ⟨w.heap.size, 0, none⟩) 0 0 [] := Own.lit w [] rfl (by omega) (Nat.le_refl _)
  have hbl : Below w.heap.size w (w.alloc (.cells #[] 3)) := (Below.refl _ _).alloc (Nat.le_refl _) _
  by_cases hv : everyB 0 255 xs = true
  case neg =>
    have HF := hid (byF_no (xs := xs) (fun e => hv e.1))
    rw [Bool.not_eq_true] at hv
    go_enter Try.func20, Try.ntmps20
    go_wp2_with fail
    refine (bytesOk_c _ _ _ _ _ _ h).mono ?_
    rintro e w' ⟨rfl, rfl⟩
    go_wp2
    go_ret2
    rw [HF.out]
    exact PSlB.mk rfl ho hbl
  by_cases hn : 8 * n ≤ 600
  case neg =>
    have HF := hid (byF_no (xs := xs) (fun e => hn (by rw [← h.len]; exact e.2)))
    have hnI : 600 < 8 * (n : Int) := by omega
    go_enter Try.func20, Try.ntmps20
    go_wp2_with fail
    refine (bytesOk_c _ _ _ _ _ _ h).mono ?_
    rintro e w' ⟨rfl, rfl⟩
    go_wp2
    go_ret2
    rw [HF.out]
    exact PSlB.mk rfl ho hbl
  have HF := hid (byF_yes hv (by rw [h.len]; exact hn))
  have hnI : ¬ 600 < 8 * (n : Int) := by omega
  have hnd : decide (600 < 8 * (n : Int)) = false := by simp; omega
  go_enter Try.func20, Try.ntmps20
  go_wp2_with fail
  refine (bytesOk_c _ _ _ _ _ _ h).mono ?_
  rintro e w' ⟨rfl, rfl⟩
  go_wp2_with fail
  go_loopw [4, 21] (fun v i wr => ∃ (k N : Nat) (A' : Option Addr) (c' : Nat) (ys : List Int), k ≤ n ∧ i = .int .i64 k ∧ v = .slice A' N c' ∧ N ≤ 8 * k ∧ Own wr w.heap.size A' N c' ys ∧ flatL xs = ys ++ flatL (xs.drop k) ∧ Below w.heap.size w wr) (fun _ i _ => n - (intOf i).toNat)
  case atStart => exact ⟨0, 0, _, 0, [], Nat.zero_le _, rfl, rfl, Nat.zero_le _, ho, rfl, hbl⟩
  case round =>
    obtain ⟨k, N, A', c', ys, hk, rfl, rfl, hN, hown, he, hbel⟩ := hrel
    have HE := hid he
    clear he
    by_cases hlt : k < n
    · obtain ⟨b, off, x, rfl, hb, hc, hx, hd⟩ := (h.below (hbel.mono hB)).step hlt
      have hxb := everyB_get hv hx
      have HD := hid hd
      clear hd hx
      go_wp2_with fail
      go_loopw [4, 7] (fun v i wr => ∃ (j M : Nat) (A' : Option Addr) (c' : Nat), j ≤ 8 ∧ i = .int .i64 ((j : Int) - 1) ∧ v = .slice A' M c' ∧ M ≤ 8 * k + (8 - j) ∧ Own wr w.heap.size A' M c' (ys ++ (putL x 8).take (8 - j)) ∧ Below w.heap.size w wr) (fun _ i _ => ((intOf i) + 1).toNat)
      case atStart => exact ⟨8, N, A', c', by omega, rfl, rfl, by omega, by simpa using hown, hbel⟩
      case round =>
        obtain ⟨j, M, A3, c3, hj, rfl, rfl, hM, hown3, hbel3⟩ := hrel
        have hs3 := hbel3.size
        by_cases hj0 : j = 0
        · subst hj0
          have h8 : (putL x 8).take (8 - 0) = putL x 8 := List.take_of_length_le (by rw [putL_len]; omega)
          rw [h8] at hown3
          clear h8
          go_wp2
          go_roundw
          case rel => exact ⟨k + 1, M, A3, c3, _, by omega, by go_num, rfl, by omega, hown3, by rw [HE.out, HD.out, flatL_cons, List.append_assoc], hbel3⟩
          case measure => first | (simp [intOf]; done) | (simp [intOf]; omega)
        · obtain ⟨i, rfl⟩ : ∃ i, j = i + 1 := ⟨j - 1, by omega⟩
          obtain ⟨q0, q1⟩ := div_pow hxb.1 i
          have e1 := i64_and1 q0 (by omega)
          have HT := hid (put_take (n := x) (m := 8) (i := i) (by omega))
          go_wp2_with (at_builtin; refine wpList_push rfl _ _ rfl rfl hown3 rfl (by omega) hs3 ?_; intro A4 c4 w4 hown4 hg4 hb4; rw [List.append_assoc, HT.out] at hown4)
          go_roundw
          case rel => exact ⟨i, M + 1, A4, c4, by omega, by go_num, rfl, by omega, hown4, hbel3.trans hb4⟩
          case measure => first | (simp [intOf]; done) | (simp [intOf]; omega)
    · have hd := h.full (k := k) (by omega)
      have HG := hid (show flatL xs = ys by rw [HE.out, hd, flatL_nil, List.append_nil])
      clear hd
      go_wp2
      go_ret2
      rw [HF.out, HG.out]
      exact PSlB.mk hown.len hown hbel

set_option maxHeartbeats 1600000 in
theorem BytesBits_s_c (A : Option Addr) (n c B : Nat) (xs : List Int) (w : World) (h : Row w B A n c xs) (hB : B ≤ w.heap.size) : Calls Try.prog 19 #[.slice A n c] w (PSlB w (byF xs)) := by
  have hs := h.small
  have ho : Own (w.alloc (.cells #[] 3)) w.heap.size (some ⟨w.heap.size, 0, none⟩) 0 0 [] := Own.lit w [] rfl (by omega) (Nat.le_refl _)
  have hbl : Below w.heap.size w (w.alloc (.cells #[] 3)) := (Below.refl _ _).alloc (Nat.le_refl _) _
  have h1 := h.below (hbl.mono hB)
  by_cases hv : everyB 0 255 xs = true
  case neg =>
    have HF := hid (byF_no (xs := xs) (fun e => hv e.1))
    rw [Bool.not_eq_true] at hv
    go_enter Try.func19, Try.ntmps19
    go_wp2_with fail
    refine (l1Bytes_c _ _ _ _ _ _ h1).mono ?_
    rintro e w' ⟨rfl, rfl⟩
    go_wp2
    go_ret2
    rw [HF.out]
    exact PSlB.mk rfl ho hbl
  by_cases hn : 8 * n ≤ 600
  case neg =>
    have HF := hid (byF_no (xs := xs) (fun e => hn (by rw [← h.len]; exact e.2)))
    have hnI : 600 < 8 * (n : Int) := by omega
    go_enter Try.func19, Try.ntmps19
    go_wp2_with fail
    refine (l1Bytes_c _ _ _ _ _ _ h1).mono ?_
    rintro e w' ⟨rfl, rfl⟩
    go_wp2
    go_ret2
    rw [HF.out]
    exact PSlB.mk rfl ho hbl
  have HF := hid (byF_yes hv (by rw [h.len]; exact hn))
  have hnI : ¬ 600 < 8 * (n : Int) := by omega
  have hnd : decide (600 < 8 * (n : Int)) = false := by simp; omega
  go_enter Try.func19, Try.ntmps19
  go_wp2_with fail
  refine (l1Bytes_c _ _ _ _ _ _ h1).mono ?_
  rintro e w' ⟨rfl, rfl⟩
  go_wp2_with fail
  go_loopw [4, 5] (fun v i wr => ∃ (k N : Nat) (A' : Option Addr) (c' : Nat) (ys : List Int), k ≤ n ∧ i = .int .i64 k ∧ v = .slice A' N c' ∧ N ≤ 8 * k ∧ Own wr w.heap.size A' N c' ys ∧ flatL xs = ys ++ flatL (xs.drop k) ∧ Below w.heap.size w wr) (fun _ i _ => n - (intOf i).toNat)
  case atStart => exact ⟨0, 0, _, 0, [], Nat.zero_le _, rfl, rfl, Nat.zero_le _, ho, rfl, hbl⟩
  case round =>
    obtain ⟨k, N, A', c', ys, hk, rfl, rfl, hN, hown, he, hbel⟩ := hrel
    have HE := hid he
    have hsz := hbel.size
    clear he
    by_cases hlt : k < n
    · obtain ⟨b, off, x, rfl, hb, hc, hx, hd⟩ := (h.below (hbel.mono hB)).step hlt
      have hxb := everyB_get hv hx
      have HD := hid hd
      clear hd hx
      go_wp2_with fail
      refine (l1Put_c x 8 wr hxb.1 (by omega) (by omega)).mono ?_
      rintro e w3 ⟨A3, c3, rfl, hown3, hb3⟩
      rw [putL_len] at hown3
      have hl8 := putL_len 8 x
      rw [hl8]
      clear hl8
      have hown4 := hown.below hb3 (Nat.le_refl _)
      have hs3 := hb3.size
      have hb13 := hbel.trans (hb3.mono hsz)
      go_wp2_with (at_builtin; refine wpList_join rfl _ _ rfl rfl hown4 rfl hown3.row (by omega) hb13.size ?_; intro A5 c5 w5 hown5 hg5 hb5)
      go_roundw
      case rel => exact ⟨k + 1, N + 8, A5, c5, _, by omega, by go_num, rfl, by omega, hown5, by rw [HE.out, HD.out, flatL_cons, List.append_assoc], hb13.trans hb5⟩
      case measure => simp [intOf]; omega
    · have hd := h.full (k := k) (by omega)
      have HG := hid (show flatL xs = ys by rw [HE.out, hd, flatL_nil, List.append_nil])
      clear hd
      go_wp2
      go_ret2
      rw [HF.out, HG.out]
      exact PSlB.mk hown.len hown hbel
end Go.Proofs.Ytfpieikheofbgaa
