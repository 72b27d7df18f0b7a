/- Plain laws of reading what was written. No program in sight. No condition. -/
import Derived.Test.YtaaaiagpbhiphaaVarP
namespace Go.Proofs.Ytaaaiagpbhiphaa
theorem vg1 (x : Int) (r : List Int) : vgGo 3 0 0 (x :: r) = if x < 128 then (if (varF (x % 128)).length = 1 then (x % 128, 1, true) else vgNo) else vgGo 2 1 (x % 128) r := by
  by_cases h : x < 128
  · rw [if_pos h]
    have e : (0 : Int) + x % 128 * 128 ^ 0 = x % 128 := by omega
    by_cases hl : (varF (x % 128)).length = 1
    · rw [if_pos hl, vgGo_yes h (by rw [e]; exact hl), e]; rfl
    · rw [if_neg hl, vgGo_no h (by rw [e]; exact hl)]
  · rw [if_neg h, vgGo_more h]
    have e : (0 : Int) + x % 128 * 128 ^ 0 = x % 128 := by omega
    rw [e]
theorem vg2 (a x : Int) (r : List Int) : vgGo 2 1 a (x :: r) = if x < 128 then (if (varF (a + x % 128 * 128)).length = 2 then (a + x % 128 * 128, 2, true) else vgNo) else vgGo 1 2 (a + x % 128 * 128) r := by
  have e : a + x % 128 * 128 ^ 1 = a + x % 128 * 128 := rfl
  by_cases h : x < 128
  · rw [if_pos h]
    by_cases hl : (varF (a + x % 128 * 128)).length = 2
    · rw [if_pos hl, vgGo_yes h (by rw [e]; exact hl), e]; rfl
    · rw [if_neg hl, vgGo_no h (by rw [e]; exact hl)]
  · rw [if_neg h, vgGo_more h, e]
theorem vg3 (a x : Int) (r : List Int) : vgGo 1 2 a (x :: r) = if x < 128 then (if (varF (a + x % 128 * 16384)).length = 3 then (a + x % 128 * 16384, 3, true) else vgNo) else vgNo := by
  have e : a + x % 128 * 128 ^ 2 = a + x % 128 * 16384 := rfl
  by_cases h : x < 128
  · rw [if_pos h]
    by_cases hl : (varF (a + x % 128 * 16384)).length = 3
    · rw [if_pos hl, vgGo_yes h (by rw [e]; exact hl), e]; rfl
    · rw [if_neg hl, vgGo_no h (by rw [e]; exact hl)]
  · rw [if_neg h, vgGo_more h, vgGo_zero]
theorem vgNo_ne {n l : Int} : vgNo ≠ (n, l, true) := by intro h; simp [vgNo] at h
/-- What was read was written. -/
theorem vgGo_ok {L : List Int} (hv : everyB 0 255 L = true) {n l : Int} (h : vgGo 3 0 0 L = (n, l, true)) :
    ∃ bs, l = (bs.length : Int) ∧ L = bs ++ L.drop bs.length ∧ varF n = bs ∧ 0 ≤ n ∧ n ≤ 2097151 := by
  rcases L with _ | ⟨x, r⟩
  · exact absurd (by rw [← h, vgGo_nil]) vgNo_ne
  rw [everyB_cons, Bool.and_eq_true, inB_iff] at hv
  obtain ⟨hx, hv⟩ := hv
  rw [vg1] at h
  by_cases h1 : x < 128
  · rw [if_pos h1] at h
    split at h
    · simp only [Prod.mk.injEq, and_true] at h
      obtain ⟨rfl, rfl⟩ := h
      exact ⟨[x], rfl, rfl, canon0 hx.1 h1, by omega, by omega⟩
    · exact absurd h vgNo_ne
  rw [if_neg h1] at h
  rcases r with _ | ⟨y, r⟩
  · exact absurd (by rw [← h, vgGo_nil]) vgNo_ne
  rw [everyB_cons, Bool.and_eq_true, inB_iff] at hv
  obtain ⟨hy, hv⟩ := hv
  rw [vg2] at h
  by_cases h2 : y < 128
  · rw [if_pos h2] at h
    split at h
    · rename_i hl
      simp only [Prod.mk.injEq, and_true] at h
      obtain ⟨rfl, rfl⟩ := h
      exact ⟨[x, y], rfl, rfl, canon1 (by omega) hx.2 hy.1 h2 hl, by omega, by omega⟩
    · exact absurd h vgNo_ne
  rw [if_neg h2] at h
  rcases r with _ | ⟨z, r⟩
  · exact absurd (by rw [← h, vgGo_nil]) vgNo_ne
  rw [everyB_cons, Bool.and_eq_true, inB_iff] at hv
  obtain ⟨hz, hv⟩ := hv
  rw [vg3] at h
  by_cases h3 : z < 128
  · rw [if_pos h3] at h
    split at h
    · rename_i hl
      simp only [Prod.mk.injEq, and_true] at h
      obtain ⟨rfl, rfl⟩ := h
      exact ⟨[x, y, z], rfl, rfl, canon2 (by omega) hx.2 (by omega) hy.2 hz.1 h3 hl, by omega, by omega⟩
    · exact absurd h vgNo_ne
  rw [if_neg h3] at h
  exact absurd h vgNo_ne
/-- A number that was written is read. -/
theorem vg_put {n : Int} (h0 : 0 ≤ n) (h1 : n ≤ 2097151) : vgF (varF n) 0 = (n, ((varF n).length : Int), true) := by
  have key : everyB 0 255 (varF n) = true ∧ vgGo 3 0 0 (varF n) = (n, ((varF n).length : Int), true) := by
    by_cases a : n ≤ 127
    · rw [varF_one h0 a]
      have e : n % 128 = n := by omega
      refine ⟨by simp [everyB, inB]; omega, ?_⟩
      rw [vg1, if_pos (by omega), if_pos (by rw [e, varF_one h0 a]; rfl), e]; rfl
    · by_cases b : n ≤ 16383
      · rw [varF_two (by omega) b]
        have e : (n % 128 + 128) % 128 + n / 128 % 128 * 128 = n := by omega
        refine ⟨by simp [everyB, inB]; omega, ?_⟩
        rw [vg1, if_neg (by omega), vg2, if_pos (by omega), if_pos (by rw [e, varF_two (by omega) b]; rfl), e]; rfl
      · rw [varF_three (by omega) h1]
        have e : (n % 128 + 128) % 128 + (n / 128 % 128 + 128) % 128 * 128 + n / 128 / 128 % 128 * 16384 = n := by omega
        refine ⟨by simp [everyB, inB]; omega, ?_⟩
        rw [vg1, if_neg (by omega), vg2, if_neg (by omega), vg3, if_pos (by omega), if_pos (by rw [e, varF_three (by omega) h1]; rfl), e]; rfl
  have e := vgF_in (xs := varF n) (t := 0) key.1 (Nat.zero_le _)
  rw [List.drop_zero, key.2, vgEnd_yes] at e
  rw [show (0 : Int) = ((0 : Nat) : Int) from rfl, e]
  simp
/-- A part of a number is none. -/
theorem vg_torn {n : Int} (h0 : 0 ≤ n) (h1 : n ≤ 2097151) : vgGo 3 0 0 ((varF n).take ((varF n).length - 1)) = vgNo := by
  by_cases a : n ≤ 127
  · rw [varF_one h0 a]; exact vgGo_nil _ _ _
  · by_cases b : n ≤ 16383
    · rw [varF_two (by omega) b]
      show vgGo 3 0 0 [n % 128 + 128] = vgNo
      rw [vg1, if_neg (by omega), vgGo_nil]
    · rw [varF_three (by omega) h1]
      show vgGo 3 0 0 [n % 128 + 128, n / 128 % 128 + 128] = vgNo
      rw [vg1, if_neg (by omega), vg2, if_neg (by omega), vgGo_nil]
/-- All that a successful reading says. -/
theorem vgF_ok {xs : List Int} {a n e : Int} (h : vgF xs a = (n, e, true)) :
    ∃ t L : Nat, a = t ∧ e = (t : Int) + L ∧ (varF n).length = L ∧ 0 ≤ n ∧ n ≤ 2097151 ∧ t + L ≤ xs.length ∧ (xs.take (t + L)).drop t = varF n ∧ everyB 0 255 xs = true ∧ 1 ≤ L := by
  by_cases hc : everyB 0 255 xs = true ∧ 0 ≤ a ∧ a ≤ xs.length
  case neg => rw [vgF_out hc] at h; exact absurd h vgNo_ne
  obtain ⟨hv, a0, a1⟩ := hc
  obtain ⟨t, rfl⟩ := Int.eq_ofNat_of_zero_le a0
  rw [vgF_in hv (by omega)] at h
  obtain ⟨r, hr⟩ : ∃ r, vgGo 3 0 0 (xs.drop t) = r := ⟨_, rfl⟩
  rw [hr] at h
  obtain ⟨n', l', ok⟩ := r
  unfold vgEnd at h
  split at h
  case isFalse => exact absurd h vgNo_ne
  rename_i hok
  simp only at hok
  subst hok
  simp only [Prod.mk.injEq, and_true] at h
  obtain ⟨rfl, rfl⟩ := h
  obtain ⟨bs, rfl, hd, hb, n0, n1⟩ := vgGo_ok (everyB_drop hv t) hr
  have hbl : bs.length ≤ (xs.drop t).length := by rw [hd]; simp
  rw [List.length_drop] at hbl
  have hp : 1 ≤ bs.length := by rw [← hb]; rcases varF_len (n := n') ⟨n0, n1⟩ with ⟨_, h⟩ | ⟨_, _, h⟩ | ⟨_, h⟩ <;> omega
  refine ⟨t, bs.length, rfl, rfl, by rw [hb], n0, n1, by omega, ?_, hv, hp⟩
  rw [hb]
  have e2 : (xs.take (t + bs.length)).drop t = (xs.drop t).take bs.length := by rw [List.drop_take]; congr 1; omega
  rw [e2, hd, List.take_left]
theorem vgF_torn {xs : List Int} {t L : Nat} {n : Int} (h0 : 0 ≤ n) (h1 : n ≤ 2097151) (hL : (varF n).length = L) (hx : t + L ≤ xs.length) (hc : (xs.take (t + L)).drop t = varF n) (hv : everyB 0 255 xs = true) (hp : 1 ≤ L) :
    vgF (xs.take (t + L - 1)) (t : Int) = vgNo := by
  rw [vgF_in (everyB_take hv _) (by rw [List.length_take]; omega)]
  have e : (xs.take (t + L - 1)).drop t = (varF n).take (L - 1) := by
    rw [← hc, List.drop_take, List.drop_take, List.take_take]
    congr 1; omega
  have e2 := vg_torn h0 h1
  rw [hL] at e2
  rw [e, e2, vgEnd_no]
end Go.Proofs.Ytaaaiagpbhiphaa
