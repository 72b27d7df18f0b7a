/- Contracts of the reference's l1Put and l1Get. No condition. -/
import Derived.Test.YtfpieikheofbgaaBase
import Derived.Test.YtfpieikheofbgaaPutP
namespace Go.Proofs.Ytfpieikheofbgaa
open Go.RowKit

set_option maxHeartbeats 400000 in
theorem l1Put_c (x : Int) (m : Nat) (w : World) (hx : 0 ≤ x) (hx1 : x ≤ 1000000) (hm : m ≤ 100) : Calls Try.prog 39 #[.int .i64 x, .int .i64 (m : Int)] w (PSl w (putL x m)) := by
  obtain ⟨i0, hi, hz0, hz1, hz2⟩ := info_parts int_info
  go_enter Try.func39, Try.ntmps39
  go_wp2_with (at_make; refine wpList_make_full _ rfl _ _ 22 rfl w.heap.size 3 i0 (.int .i64 0) 1 Try.underlying22 hi hz0 hz1 .i64 .i64 _ _ m rfl rfl rfl rfl (by rw [hz2]; omega) (by unfold maxLen; omega) (Nat.le_refl _) ?_; intro w0 hown0 hgrow0)
  have ho0 := Own.made hown0 (by omega)
  have hb0 : Below w.heap.size w w0 := (Below.refl _ _).grown hgrow0 (Nat.le_refl _) (fun k hk => by cases hk)
  clear hgrow0 hown0 hz2 hz1 hz0 hi
  go_loopw [0, 6] (fun v i wr => ∃ (j : Nat) (y : Int) (tl : List Int), j ≤ m ∧ v = .int .i64 y ∧ i = .int .i64 ((j : Int) - 1) ∧ 0 ≤ y ∧ y ≤ 1000000 ∧ Own wr w.heap.size (some ⟨w.heap.size, 0, none⟩) m m (List.replicate j 0 ++ tl) ∧ putL x m = putL y j ++ tl ∧ Below w.heap.size w wr) (fun _ i _ => ((intOf i) + 1).toNat)
  case atStart => exact ⟨m, x, [], Nat.le_refl _, rfl, rfl, hx, hx1, by rw [List.append_nil]; exact ho0, by rw [List.append_nil], hb0⟩
  case round =>
    obtain ⟨j, y, tl, hj, rfl, rfl, hy, hy1, hown, he, hbel⟩ := hrel
    have HE := hid he
    clear he
    by_cases hj0 : j = 0
    · subst hj0
      have e : putL x m = tl := by rw [HE.out]; rfl
      have hl : tl.length = m := by rw [← e, putL_len]
      go_wp2
      go_ret
      rw [e]
      exact PSl.mk hl (by simpa using hown) hbel
    · obtain ⟨i, rfl⟩ : ∃ i, j = i + 1 := ⟨j - 1, by omega⟩
      have hf := hown.frozenAt i
      have hcl := hown.cellAt (put_at i tl)
      go_wp2
      go_roundw
      case rel =>
        have h2 := hown.stored i (y % 2)
        rw [put_set] at h2
        exact ⟨i, _, _, by omega, rfl, by go_num, by omega, by omega, h2, by rw [HE.out, putL_succ, List.append_assoc]; rfl, hbel.setCell (Nat.le_refl _) _⟩
      case measure => first | (simp [intOf]; done) | (simp [intOf]; omega)

set_option maxHeartbeats 400000 in
theorem l1Get_c (A : Option Addr) (n c B : Nat) (xs : List Int) (w : World) (h : Row w B A n c xs) (hv : everyB 0 1 xs = true) (hn : n ≤ 30) :
    Calls Try.prog 35 #[.slice A n c] w (fun e w' => e = .returned (.int .i64 (getL 0 xs)) ∧ w = w') := by
  go_enter Try.func35, Try.ntmps35
  go_wp2
  go_loop [3, 4] (fun v i => ∃ (k : Nat) (a : Int), k ≤ n ∧ v = .int .i64 a ∧ i = .int .i64 k ∧ 0 ≤ a ∧ a + 1 ≤ 2 ^ k ∧ getL 0 xs = getL a (xs.drop k)) (fun _ i => n - (intOf i).toNat)
  case atStart => exact ⟨0, 0, Nat.zero_le _, rfl, rfl, by omega, by simp, rfl⟩
  case round =>
    obtain ⟨k, a, hk, rfl, rfl, ha0, ha1, he⟩ := hrel
    have HE := hid he
    have HA := hid ha1
    have hp : a + 1 ≤ 1073741824 := Int.le_trans ha1 (pow_small (k := k) (m := 30) (by omega))
    clear he ha1
    by_cases hlt : k < n
    · obtain ⟨b, off, x, rfl, hb, hc, hx, hd⟩ := h.step hlt
      have hxb := everyB_get hv hx
      have HD := hid hd
      clear hd hx
      go_wp2
      go_round
      case rel => exact ⟨k + 1, _, by omega, rfl, by go_num, by omega, by rw [Int.pow_succ]; have := HA.out; omega, by rw [HE.out, HD.out, getL_cons]⟩
      case measure => simp [intOf]; omega
    · have hd := h.full (k := k) (by omega)
      have HD := hid hd
      clear hd
      go_wp2
      go_ret
      exact ⟨by rw [HE.out, HD.out, getL_nil]; rfl, rfl⟩
end Go.Proofs.Ytfpieikheofbgaa
