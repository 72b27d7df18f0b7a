/- Contracts of BitsGet and BitsPut, of the program and of the reference. No condition. -/
import Derived.Test.YtfpieikheofbgaaBits1
namespace Go.Proofs.Ytfpieikheofbgaa
open Go.RowKit

/-- The call only computes, and hands back a number and a bool. -/
def P2 (w : World) (r : Int × Bool) (e : Ending) (w' : World) : Prop := e = .returned (.tuple #[.int .i64 r.1, .bool r.2]) ∧ w = w'
theorem P2.mk {w : World} {r : Int × Bool} {a : Int} {o : Bool} (h : r = (a, o)) : P2 w r (.returned (.tuple #[.int .i64 a, .bool o])) w := by
  subst h; exact ⟨rfl, rfl⟩

set_option maxHeartbeats 1600000 in
theorem BitsGet_c (A : Option Addr) (n c B : Nat) (xs : List Int) (t m : Int) (w : World) (h : Row w B A n c xs) : Calls Try.prog 17 #[.slice A n c, .int .i64 t, .int .i64 m] w (P2 w (bgetF xs t m)) := by
  have hs := h.small
  have hcap := h.cap
  have hcm := h.capm
  unfold maxLen at hcm
  by_cases hv : bitsB xs = true
  case neg =>
    have HF := hid (bgetF_no (xs := xs) (t := t) (m := m) (fun e => hv e.1))
    rw [Bool.not_eq_true] at hv
    go_enter Try.func17, Try.ntmps17
    go_wp2_with fail
    refine (bitsOk_c _ _ _ _ _ _ h).mono ?_
    rintro e w' ⟨rfl, rfl⟩
    go_wp2
    go_ret2
    exact P2.mk HF.out
  by_cases hm : 0 ≤ m ∧ m ≤ 16
  case neg =>
    have HF := hid (bgetF_no (xs := xs) (t := t) (m := m) (fun e => hm ⟨e.2.1, e.2.2.1⟩))
    have hin : inB 0 16 m = false := inB_false.2 (by omega)
    clear hm
    go_enter Try.func17, Try.ntmps17
    go_wp2_with fail
    refine (bitsOk_c _ _ _ _ _ _ h).mono ?_
    rintro e w' ⟨rfl, rfl⟩
    go_wp2_with fail
    refine (within_c _ _ _ _).mono ?_
    rintro e w' ⟨rfl, rfl⟩
    go_wp2
    go_ret2
    exact P2.mk HF.out
  have hmB : inB 0 16 m = true := inB_iff.2 hm
  by_cases ht : 0 ≤ t ∧ t ≤ n
  case neg =>
    have HF := hid (bgetF_no (xs := xs) (t := t) (m := m) (fun e => ht ⟨e.2.2.2.1, by have := e.2.2.2.2; rw [h.len] at this; omega⟩))
    have hin : inB 0 (n : Int) t = false := inB_false.2 (by omega)
    clear hm ht
    go_enter Try.func17, Try.ntmps17
    go_wp2_with fail
    refine (bitsOk_c _ _ _ _ _ _ h).mono ?_
    rintro e w' ⟨rfl, rfl⟩
    go_wp2_with fail
    refine (within_c _ _ _ _).mono ?_
    rintro e w' ⟨rfl, rfl⟩
    go_wp2_with fail
    refine (within_c _ _ _ _).mono ?_
    rintro e w' ⟨rfl, rfl⟩
    go_wp2
    go_ret2
    exact P2.mk HF.out
  have htB : inB 0 (n : Int) t = true := inB_iff.2 ht
  obtain ⟨m, rfl⟩ := Int.eq_ofNat_of_zero_le hm.1
  obtain ⟨t, rfl⟩ := Int.eq_ofNat_of_zero_le ht.1
  have hm16 : m ≤ 16 := by omega
  have htn : t ≤ n := by omega
  clear hm ht
  by_cases hl : t + m ≤ n
  case neg =>
    have HF := hid (bgetF_no (xs := xs) (t := (t : Int)) (m := (m : Int)) (fun e => hl (by have := e.2.2.2.2; rw [h.len] at this; omega)))
    have hnI : (n : Int) - (t : Int) < (m : Int) := by omega
    clear hl
    go_enter Try.func17, Try.ntmps17
    go_wp2_with fail
    refine (bitsOk_c _ _ _ _ _ _ h).mono ?_
    rintro e w' ⟨rfl, rfl⟩
    go_wp2_with fail
    refine (within_c _ _ _ _).mono ?_
    rintro e w' ⟨rfl, rfl⟩
    go_wp2_with fail
    refine (within_c _ _ _ _).mono ?_
    rintro e w' ⟨rfl, rfl⟩
    go_wp2
    go_ret2
    exact P2.mk HF.out
  have HF := hid (bgetF_yes (t := t) (m := m) hv hm16 (by rw [h.len]; exact hl))
  have hnI : ¬ (n : Int) - (t : Int) < (m : Int) := by omega
  have hnd : decide ((n : Int) - (t : Int) < (m : Int)) = false := by simp; omega
  have h0 : (0 : Int) ≤ (t : Int) + (m : Int) := by omega
  have h1 : ((t : Int) + (m : Int)).toNat = t + m := by omega
  have h2 : (t : Int) + (m : Int) ≤ (c : Int) := by omega
  have h3 : (t : Int) ≤ (t : Int) + (m : Int) := by omega
  obtain ⟨D, hD, hrD⟩ := h.suf_at (k := t) htn
  have hrow := hrD.pre (k := m) (by omega)
  obtain ⟨L, hL⟩ : ∃ L, L = (xs.drop t).take m := ⟨_, rfl⟩
  have hvL : everyB 0 1 L = true := by rw [hL]; exact everyB_take (everyB_drop (bitsB_iff.1 hv).1 t) m
  rw [← hL] at hrow HF
  clear hrD hL
  go_enter Try.func17, Try.ntmps17
  go_wp2_with fail
  refine (bitsOk_c _ _ _ _ _ _ h).mono ?_
  rintro e w' ⟨rfl, rfl⟩
  go_wp2_with fail
  refine (within_c _ _ _ _).mono ?_
  rintro e w' ⟨rfl, rfl⟩
  go_wp2_with fail
  refine (within_c _ _ _ _).mono ?_
  rintro e w' ⟨rfl, rfl⟩
  go_wp2_with fail
  go_loop [8, 41] (fun v i => ∃ (k : Nat) (a : Int), k ≤ m ∧ v = .int .i64 a ∧ i = .int .i64 k ∧ 0 ≤ a ∧ a + 1 ≤ 2 ^ k ∧ getL 0 L = getL a (L.drop k)) (fun _ i => m - (intOf i).toNat)
  case atStart => exact ⟨0, 0, Nat.zero_le _, rfl, rfl, by omega, by simp, rfl⟩
  case round =>
    obtain ⟨k, a, hk, rfl, rfl, ha0, ha1, he⟩ := hrel
    have HE := hid he
    have HA := hid ha1
    have hp : a + 1 ≤ 65536 := Int.le_trans ha1 (pow_small (k := k) (m := 16) (by omega))
    clear he ha1
    by_cases hlt : k < m
    · obtain ⟨b, off, x, rfl, hb, hc, hx, hd⟩ := hrow.step hlt
      have hxb := everyB_get hvL hx
      have HD := hid hd
      have hor := i64_or_bit (a := a) (x := x) ha0 (by omega) hxb.1 hxb.2
      clear hd hx
      go_wp2
      go_round
      case rel => exact ⟨k + 1, _, by omega, rfl, by go_num, by omega, by rw [Int.pow_succ]; have := HA.out; omega, by rw [HE.out, HD.out, getL_cons]⟩
      case measure => simp [intOf]; omega
    · have hd := hrow.full (k := k) (by omega)
      have HG := hid (show getL 0 L = a by rw [HE.out, hd, getL_nil])
      clear hd
      go_wp2
      go_ret2
      exact P2.mk (by rw [HF.out, HG.out])

set_option maxHeartbeats 1600000 in
theorem BitsGet_s_c (A : Option Addr) (n c B : Nat) (xs : List Int) (t m : Int) (w : World) (h : Row w B A n c xs) : Calls Try.prog 15 #[.slice A n c, .int .i64 t, .int .i64 m] w (P2 w (bgetF xs t m)) := by
  have hs := h.small
  have hcap := h.cap
  have hcm := h.capm
  unfold maxLen at hcm
  by_cases hv : bitsB xs = true
  case neg =>
    have HF := hid (bgetF_no (xs := xs) (t := t) (m := m) (fun e => hv e.1))
    rw [Bool.not_eq_true] at hv
    go_enter Try.func15, Try.ntmps15
    go_wp2_with fail
    refine (l1Bits_c _ _ _ _ _ _ h).mono ?_
    rintro e w' ⟨rfl, rfl⟩
    go_wp2
    go_ret2
    exact P2.mk HF.out
  by_cases hm : 0 ≤ m ∧ m ≤ 16
  case neg =>
    have HF := hid (bgetF_no (xs := xs) (t := t) (m := m) (fun e => hm ⟨e.2.1, e.2.2.1⟩))
    have hin : inB 0 16 m = false := inB_false.2 (by omega)
    clear hm
    go_enter Try.func15, Try.ntmps15
    go_wp2_with fail
    refine (l1Bits_c _ _ _ _ _ _ h).mono ?_
    rintro e w' ⟨rfl, rfl⟩
    go_wp2_with fail
    refine (l6In_c _ _ _ _).mono ?_
    rintro e w' ⟨rfl, rfl⟩
    go_wp2
    go_ret2
    exact P2.mk HF.out
  have hmB : inB 0 16 m = true := inB_iff.2 hm
  by_cases ht : 0 ≤ t ∧ t ≤ (n : Int) - m
  case neg =>
    have HF := hid (bgetF_no (xs := xs) (t := t) (m := m) (fun e => ht ⟨e.2.2.2.1, by have := e.2.2.2.2; rw [h.len] at this; omega⟩))
    have hin : inB 0 ((n : Int) - m) t = false := inB_false.2 (by omega)
    obtain ⟨m0, m1⟩ := hm
    clear ht
    go_enter Try.func15, Try.ntmps15
    go_wp2_with fail
    refine (l1Bits_c _ _ _ _ _ _ h).mono ?_
    rintro e w' ⟨rfl, rfl⟩
    go_wp2_with fail
    refine (l6In_c _ _ _ _).mono ?_
    rintro e w' ⟨rfl, rfl⟩
    go_wp2_with fail
    refine (l6In_c _ _ _ _).mono ?_
    rintro e w' ⟨rfl, rfl⟩
    go_wp2
    go_ret2
    exact P2.mk HF.out
  have htB : inB 0 ((n : Int) - m) t = true := inB_iff.2 ht
  obtain ⟨m, rfl⟩ := Int.eq_ofNat_of_zero_le hm.1
  obtain ⟨t, rfl⟩ := Int.eq_ofNat_of_zero_le ht.1
  have hm16 : m ≤ 16 := by omega
  have hl : t + m ≤ n := by omega
  clear hm ht
  have HF := hid (bgetF_yes (t := t) (m := m) hv hm16 (by rw [h.len]; exact hl))
  have h0 : (0 : Int) ≤ (t : Int) + (m : Int) := by omega
  have h1 : ((t : Int) + (m : Int)).toNat = t + m := by omega
  have h2 : (t : Int) + (m : Int) ≤ (c : Int) := by omega
  have h3 : (t : Int) ≤ (t : Int) + (m : Int) := by omega
  obtain ⟨D, hD, hrD⟩ := h.suf_at (k := t) (by omega)
  have hrow := hrD.pre (k := m) (by omega)
  obtain ⟨L, hL⟩ : ∃ L, L = (xs.drop t).take m := ⟨_, rfl⟩
  have hvL : everyB 0 1 L = true := by rw [hL]; exact everyB_take (everyB_drop (bitsB_iff.1 hv).1 t) m
  rw [← hL] at hrow HF
  clear hrD hL
  go_enter Try.func15, Try.ntmps15
  go_wp2_with fail
  refine (l1Bits_c _ _ _ _ _ _ h).mono ?_
  rintro e w' ⟨rfl, rfl⟩
  go_wp2_with fail
  refine (l6In_c _ _ _ _).mono ?_
  rintro e w' ⟨rfl, rfl⟩
  go_wp2_with fail
  refine (l6In_c _ _ _ _).mono ?_
  rintro e w' ⟨rfl, rfl⟩
  go_wp2_with fail
  refine (l1Get_c _ _ _ _ _ _ hrow hvL (by omega)).mono ?_
  rintro e w' ⟨rfl, rfl⟩
  go_wp2
  go_ret2
  exact P2.mk HF.out
end Go.Proofs.Ytfpieikheofbgaa
