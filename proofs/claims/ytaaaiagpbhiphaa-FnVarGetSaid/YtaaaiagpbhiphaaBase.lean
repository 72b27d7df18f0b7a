/- Contracts of the smallest functions. No condition. -/
import Derived.Test.YtaaaiagpbhiphaaKit
import Derived.Test.YtaaaiagpbhiphaaPure
namespace Go.Proofs.Ytaaaiagpbhiphaa
open Go.RowKit

theorem within_c (n lo hi : Int) (w : World) : Calls Try.prog 33 #[.int .i64 n, .int .i64 lo, .int .i64 hi] w fun e w' => e = .returned (.bool (inB lo hi n)) ∧ w = w' := by
  go_enter Try.func33, Try.ntmps33
  go_wp2
  all_goals
    go_ret
    exact ⟨by first | (simp [inB, *]; done) | (simp [inB, *]; omega), rfl⟩

theorem l6In_c (n lo hi : Int) (w : World) : Calls Try.prog 32 #[.int .i64 n, .int .i64 lo, .int .i64 hi] w fun e w' => e = .returned (.bool (inB lo hi n)) ∧ w = w' := by
  go_enter Try.func32, Try.ntmps32
  go_wp2
  all_goals
    go_ret
    exact ⟨by first | (simp [inB, *]; done) | (simp [inB, *]; omega), rfl⟩

theorem every_c (A : Option Addr) (n c B : Nat) (xs : List Int) (lo hi : Int) (w : World) (h : Row w B A n c xs) :
    Calls Try.prog 40 #[.slice A n c, .int .i64 lo, .int .i64 hi] w fun e w' => e = .returned (.bool (everyB lo hi xs)) ∧ w = w' := by
  have hs := h.small
  go_enter Try.func40, Try.ntmps40
  go_wp2
  go_loop [11] (fun i => ∃ k : Nat, k ≤ n ∧ i = .int .i64 k ∧ everyB lo hi xs = everyB lo hi (xs.drop k)) (fun i => n - (intOf i).toNat)
  case atStart => exact ⟨0, Nat.zero_le _, rfl, rfl⟩
  case round =>
    obtain ⟨k, hk, rfl, he⟩ := hrel
    have HE := hid he
    clear he
    by_cases hlt : k < n
    · obtain ⟨b, off, x, rfl, hb, hc, _, hd⟩ := h.step hlt
      have HD := hid hd
      clear hd
      by_cases hx : inB lo hi x = true
      · go_wp2_with (go_at_call 33; refine (within_c _ _ _ _).mono ?_; rintro e w' ⟨rfl, rfl⟩)
        go_round
        case rel => exact ⟨k + 1, by omega, by go_num, by rw [HE.out, HD.out, everyB_cons, hx]; rfl⟩
        case measure => simp [intOf]; omega
      · rw [Bool.not_eq_true] at hx
        go_wp2_with (go_at_call 33; refine (within_c _ _ _ _).mono ?_; rintro e w' ⟨rfl, rfl⟩)
        go_ret
        exact ⟨by rw [HE.out, HD.out, everyB_cons, hx]; rfl, rfl⟩
    · have hd := h.full (k := k) (by omega)
      have HD := hid hd
      clear hd
      go_wp2
      go_ret
      exact ⟨by rw [HE.out, HD.out]; rfl, rfl⟩
theorem l1Bytes_c (A : Option Addr) (n c B : Nat) (xs : List Int) (w : World) (h : Row w B A n c xs) :
    Calls Try.prog 37 #[.slice A n c] w fun e w' => e = .returned (.bool (everyB 0 255 xs)) ∧ w = w' := by
  have hs := h.small
  go_enter Try.func37, Try.ntmps37
  go_wp2
  go_loop [3] (fun i => ∃ k : Nat, k ≤ n ∧ i = .int .i64 k ∧ everyB 0 255 xs = everyB 0 255 (xs.drop k)) (fun i => n - (intOf i).toNat)
  case atStart => exact ⟨0, Nat.zero_le _, rfl, rfl⟩
  case round =>
    obtain ⟨k, hk, rfl, he⟩ := hrel
    have HE := hid he
    clear he
    by_cases hlt : k < n
    · obtain ⟨b, off, x, rfl, hb, hc, _, hd⟩ := h.step hlt
      have HD := hid hd
      clear hd
      by_cases hx : inB 0 255 x = true
      · go_wp2_with (go_at_call 32; refine (l6In_c _ _ _ _).mono ?_; rintro e w' ⟨rfl, rfl⟩)
        go_round
        case rel => exact ⟨k + 1, by omega, by go_num, by rw [HE.out, HD.out, everyB_cons, hx]; rfl⟩
        case measure => simp [intOf]; omega
      · rw [Bool.not_eq_true] at hx
        go_wp2_with (go_at_call 32; refine (l6In_c _ _ _ _).mono ?_; rintro e w' ⟨rfl, rfl⟩)
        go_ret
        exact ⟨by rw [HE.out, HD.out, everyB_cons, hx]; rfl, rfl⟩
    · have hd := h.full (k := k) (by omega)
      have HD := hid hd
      clear hd
      go_wp2
      go_ret
      exact ⟨by rw [HE.out, HD.out]; rfl, rfl⟩

theorem bytesOk_c (A : Option Addr) (n c B : Nat) (xs : List Int) (w : World) (h : Row w B A n c xs) :
    Calls Try.prog 36 #[.slice A n c] w fun e w' => e = .returned (.bool (everyB 0 255 xs)) ∧ w = w' := by
  go_enter Try.func36, Try.ntmps36
  go_wp2_with (go_at_call 40; refine (every_c _ _ _ _ _ _ _ _ h).mono ?_; rintro e w' ⟨rfl, rfl⟩)
  go_ret
  exact ⟨rfl, rfl⟩

theorem toIntS_c (A : Option Addr) (n c B : Nat) (xs : List Int) (w : World) (h : Row w B A n c xs) (hB : B ≤ w.heap.size) :
    Calls Try.prog 30 #[.slice A n c] w (PSl w xs) := by
  obtain ⟨i0, hi, hz0, hz1, hz2⟩ := info_parts int_info
  have hs := h.small
  go_enter Try.func30, Try.ntmps30
  go_wp2_with (at_make; refine wpList_make_full _ rfl _ _ 27 rfl w.heap.size 3 i0 (.int .i64 0) 1 Try.underlying27 hi hz0 hz1 .i64 .i64 _ _ n rfl rfl rfl rfl (by rw [hz2]; omega) (by unfold maxLen; omega) (Nat.le_refl _) ?_; intro w0 hown0 hgrow0)
  have ho0 := Own.made hown0 hs
  clear hown0 hz2 hz1 hz0 hi
  have hb0 : Below w.heap.size w w0 := (Below.refl _ _).grown hgrow0 (Nat.le_refl _) (fun k hk => by cases hk)
  clear hgrow0
  go_loopw [4] (fun i wr => ∃ k : Nat, k ≤ n ∧ i = .int .i64 k ∧ Own wr w.heap.size (some ⟨w.heap.size, 0, none⟩) n n (xs.take k ++ List.replicate (n - k) 0) ∧ Below w.heap.size w wr) (fun i _ => n - (intOf i).toNat)
  case atStart => exact ⟨0, Nat.zero_le _, rfl, ho0, hb0⟩
  case round =>
    obtain ⟨k, hk, rfl, hown, hbel⟩ := hrel
    by_cases hlt : k < n
    · obtain ⟨b, off, x, rfl, hb, hc, hx, hd⟩ := (h.below (hbel.mono hB)).step hlt
      have HD := hid hd
      have HX := hid hx
      clear hd hx
      have hf := hown.frozenAt k
      have hcl : wr.cell? ⟨w.heap.size, k, none⟩ = some (.int .i64 0) := hown.cellAt (fill_at h.len hlt)
      go_wp2
      go_roundw
      case rel =>
        refine ⟨k + 1, by omega, by go_num, ?_, hbel.setCell (Nat.le_refl _) _⟩
        have h2 := hown.stored k x
        rw [fill_set h.len hlt HX.out] at h2
        exact h2
      case measure => simp [intOf]; omega
    · obtain rfl : k = n := by omega
      go_wp2
      go_ret
      rw [fill_end h.len] at hown
      exact PSl.mk h.len hown hbel

/-- Equality of two slices. -/
theorem eqIntS_c (A D : Option Addr) (n c B m d B' : Nat) (xs ys : List Int) (w : World) (h : Row w B A n c xs) (h' : Row w B' D m d ys) (hB : B ≤ w.heap.size) (hB' : B' ≤ w.heap.size) :
    Calls Try.prog 22 #[.slice A n c, .slice D m d] w (fun e w' => e = .returned (.bool (xs == ys)) ∧ Below w.heap.size w w') := by
  have hs := h.small
  have hs' := h'.small
  by_cases hnm : n = m
  · subst hnm
    go_enter Try.func22, Try.ntmps22
    go_wp2
    go_loopw [5] (fun i wr => ∃ k : Nat, k ≤ n ∧ i = .int .i64 k ∧ (xs == ys) = (xs.drop k == ys.drop k) ∧ Below w.heap.size w wr) (fun i _ => n - (intOf i).toNat)
    case atStart => exact ⟨0, Nat.zero_le _, rfl, rfl, Below.refl _ _⟩
    case round =>
      obtain ⟨k, hk, rfl, he, hbel⟩ := hrel
      have HE := hid he
      clear he
      by_cases hlt : k < n
      · obtain ⟨b, off, x, rfl, hb, hc, _, hd⟩ := (h.below (hbel.mono hB)).step hlt
        obtain ⟨b', off', y, rfl, hb', hc', _, hd'⟩ := (h'.below (hbel.mono hB')).step hlt
        have HD := hid hd
        have HD' := hid hd'
        clear hd hd'
        by_cases hxy : (x == y) = true
        · have hne : (x != y) = false := by simp [bne, hxy]
          go_wp2
          go_quiet (fail)
          go_wp2
          go_roundw
          case rel => exact ⟨k + 1, by omega, by go_num, by rw [HE.out, HD.out, HD'.out, beq_cons, hxy]; rfl, below_drewN hbel _⟩
          case measure => simp [intOf]; omega
        · rw [Bool.not_eq_true] at hxy
          have hne : (x != y) = true := by simp [bne, hxy]
          go_wp2
          go_quiet (fail)
          go_wp2
          go_ret
          exact ⟨by rw [HE.out, HD.out, HD'.out, beq_cons, hxy]; rfl, below_drewN hbel _⟩
      · have hd := h.full (k := k) (by omega)
        have hd' := h'.full (k := k) (by omega)
        have HD := hid hd
        have HD' := hid hd'
        clear hd hd'
        go_wp2
        go_ret
        exact ⟨by rw [HE.out, HD.out, HD'.out]; rfl, hbel⟩
  · have HE := hid (beq_ne_len (xs := xs) (ys := ys) (by rw [h.len, h'.len]; exact hnm))
    have hne : ((n : Int) != (m : Int)) = true := by simp; omega
    go_enter Try.func22, Try.ntmps22
    go_wp2
    go_ret
    exact ⟨by rw [HE.out]; rfl, Below.refl _ _⟩
/-- Equality of two slices. -/
theorem sameInts_c (A D : Option Addr) (n c B m d B' : Nat) (xs ys : List Int) (w : World) (h : Row w B A n c xs) (h' : Row w B' D m d ys) (hB : B ≤ w.heap.size) (hB' : B' ≤ w.heap.size) :
    Calls Try.prog 27 #[.slice A n c, .slice D m d] w (fun e w' => e = .returned (.bool (xs == ys)) ∧ Below w.heap.size w w') := by
  have hs := h.small
  have hs' := h'.small
  by_cases hnm : n = m
  · subst hnm
    go_enter Try.func27, Try.ntmps27
    go_wp2
    go_loopw [5] (fun i wr => ∃ k : Nat, k ≤ n ∧ i = .int .i64 k ∧ (xs == ys) = (xs.drop k == ys.drop k) ∧ Below w.heap.size w wr) (fun i _ => n - (intOf i).toNat)
    case atStart => exact ⟨0, Nat.zero_le _, rfl, rfl, Below.refl _ _⟩
    case round =>
      obtain ⟨k, hk, rfl, he, hbel⟩ := hrel
      have HE := hid he
      clear he
      by_cases hlt : k < n
      · obtain ⟨b, off, x, rfl, hb, hc, _, hd⟩ := (h.below (hbel.mono hB)).step hlt
        obtain ⟨b', off', y, rfl, hb', hc', _, hd'⟩ := (h'.below (hbel.mono hB')).step hlt
        have HD := hid hd
        have HD' := hid hd'
        clear hd hd'
        by_cases hxy : (x == y) = true
        · have hne : (x != y) = false := by simp [bne, hxy]
          go_wp2
          go_quiet (fail)
          go_wp2
          go_roundw
          case rel => exact ⟨k + 1, by omega, by go_num, by rw [HE.out, HD.out, HD'.out, beq_cons, hxy]; rfl, below_drewN hbel _⟩
          case measure => simp [intOf]; omega
        · rw [Bool.not_eq_true] at hxy
          have hne : (x != y) = true := by simp [bne, hxy]
          go_wp2
          go_quiet (fail)
          go_wp2
          go_ret
          exact ⟨by rw [HE.out, HD.out, HD'.out, beq_cons, hxy]; rfl, below_drewN hbel _⟩
      · have hd := h.full (k := k) (by omega)
        have hd' := h'.full (k := k) (by omega)
        have HD := hid hd
        have HD' := hid hd'
        clear hd hd'
        go_wp2
        go_ret
        exact ⟨by rw [HE.out, HD.out, HD'.out]; rfl, hbel⟩
  · have HE := hid (beq_ne_len (xs := xs) (ys := ys) (by rw [h.len, h'.len]; exact hnm))
    have hne : ((n : Int) != (m : Int)) = true := by simp; omega
    go_enter Try.func27, Try.ntmps27
    go_wp2
    go_ret
    exact ⟨by rw [HE.out]; rfl, Below.refl _ _⟩
/-- Equality of two slices. -/
theorem l2Same_s_c (A D : Option Addr) (n c B m d B' : Nat) (xs ys : List Int) (w : World) (h : Row w B A n c xs) (h' : Row w B' D m d ys) (hB : B ≤ w.heap.size) (hB' : B' ≤ w.heap.size) :
    Calls Try.prog 38 #[.slice A n c, .slice D m d] w (fun e w' => e = .returned (.bool (xs == ys)) ∧ Below w.heap.size w w') := by
  have hs := h.small
  have hs' := h'.small
  by_cases hnm : n = m
  · subst hnm
    go_enter Try.func38, Try.ntmps38
    go_wp2
    go_loopw [5] (fun i wr => ∃ k : Nat, k ≤ n ∧ i = .int .i64 k ∧ (xs == ys) = (xs.drop k == ys.drop k) ∧ Below w.heap.size w wr) (fun i _ => n - (intOf i).toNat)
    case atStart => exact ⟨0, Nat.zero_le _, rfl, rfl, Below.refl _ _⟩
    case round =>
      obtain ⟨k, hk, rfl, he, hbel⟩ := hrel
      have HE := hid he
      clear he
      by_cases hlt : k < n
      · obtain ⟨b, off, x, rfl, hb, hc, _, hd⟩ := (h.below (hbel.mono hB)).step hlt
        obtain ⟨b', off', y, rfl, hb', hc', _, hd'⟩ := (h'.below (hbel.mono hB')).step hlt
        have HD := hid hd
        have HD' := hid hd'
        clear hd hd'
        by_cases hxy : (x == y) = true
        · have hne : (x != y) = false := by simp [bne, hxy]
          go_wp2
          go_quiet (fail)
          go_wp2
          go_roundw
          case rel => exact ⟨k + 1, by omega, by go_num, by rw [HE.out, HD.out, HD'.out, beq_cons, hxy]; rfl, below_drewN hbel _⟩
          case measure => simp [intOf]; omega
        · rw [Bool.not_eq_true] at hxy
          have hne : (x != y) = true := by simp [bne, hxy]
          go_wp2
          go_quiet (fail)
          go_wp2
          go_ret
          exact ⟨by rw [HE.out, HD.out, HD'.out, beq_cons, hxy]; rfl, below_drewN hbel _⟩
      · have hd := h.full (k := k) (by omega)
        have hd' := h'.full (k := k) (by omega)
        have HD := hid hd
        have HD' := hid hd'
        clear hd hd'
        go_wp2
        go_ret
        exact ⟨by rw [HE.out, HD.out, HD'.out]; rfl, hbel⟩
  · have HE := hid (beq_ne_len (xs := xs) (ys := ys) (by rw [h.len, h'.len]; exact hnm))
    have hne : ((n : Int) != (m : Int)) = true := by simp; omega
    go_enter Try.func38, Try.ntmps38
    go_wp2
    go_ret
    exact ⟨by rw [HE.out]; rfl, Below.refl _ _⟩


end Go.Proofs.Ytaaaiagpbhiphaa
