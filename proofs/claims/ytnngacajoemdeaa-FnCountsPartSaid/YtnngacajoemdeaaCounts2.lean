/- Contracts of CountsStarts and CountsOf, of the program and of the reference. No condition. -/
import Derived.Test.YtnngacajoemdeaaCounts
namespace Go.Proofs.Ytnngacajoemdeaa
open Go.RowKit

set_option maxHeartbeats 400000 in
theorem startsOf_c (A : Option Addr) (n c B : Nat) (xs : List Int) (w : World) (h : Row w B A n c xs) (hB : B ≤ w.heap.size) (hn : n ≤ 100) (hv : everyB 0 999 xs = true) :
    Calls Try.prog 37 #[.slice A n c] w (PSl w (startsL 0 xs)) := by
  go_enter Try.func37, Try.ntmps37
  go_wp2
  go_loopw [3, 4, 10] (fun v s i wr => ∃ (k : Nat) (D : Option Addr) (d : Nat) (ys : List Int) (a : Int), k ≤ n ∧ v = .slice D k d ∧ s = .int .i64 a ∧ i = .int .i64 k ∧ 0 ≤ a ∧ a ≤ 999 * k ∧ Own wr w.heap.size D k d ys ∧ startsL 0 xs = ys ++ startsL a (xs.drop k) ∧ Below w.heap.size w wr) (fun _ _ i _ => n - (intOf i).toNat)
  case atStart => exact ⟨0, _, 0, [], 0, Nat.zero_le _, rfl, rfl, rfl, by omega, by omega, Own.lit w [] rfl (by omega) (Nat.le_refl _), rfl, (Below.refl _ _).alloc (Nat.le_refl _) _⟩
  case round =>
    obtain ⟨k, D, d, ys, a, hk, rfl, rfl, rfl, ha0, ha1, hown, he, hbel⟩ := hrel
    have HE := hid he
    clear he
    by_cases hlt : k < n
    · obtain ⟨b, off, x, rfl, hb, hc, hx, hd⟩ := (h.below (hbel.mono hB)).step hlt
      have hxb := everyB_get hv hx
      have HD := hid hd
      have hsz := hbel.size
      clear hd hx
      go_wp2_with (at_builtin; refine wpList_push rfl _ _ rfl rfl hown rfl (by omega) hsz ?_; intro D2 d2 w2 hown2 hg2 hb2)
      go_roundw
      case rel => exact ⟨k + 1, D2, d2, _, _, by omega, rfl, rfl, by go_num, by omega, by omega, hown2, by rw [HE.out, HD.out, startsL_cons, List.append_assoc]; rfl, hbel.trans hb2⟩
      case measure => simp [intOf]; omega
    · obtain rfl : k = n := by omega
      have hd := h.full (k := k) (Nat.le_refl _)
      have e : startsL 0 xs = ys := by rw [HE.out, hd]; exact List.append_nil _
      clear hd
      have HH := hid e
      clear e
      go_wp2
      go_ret
      rw [HH.out]
      exact PSl.mk hown.len hown hbel

theorem CountsStarts_c (A : Option Addr) (n c B : Nat) (xs : List Int) (w : World) (h : Row w B A n c xs) (hB : B ≤ w.heap.size) :
    Calls Try.prog 23 #[.slice A n c] w (PSl w (startsF xs)) := by
  by_cases hv : countsV xs = true
  · have hv' := countsV_iff.1 hv
    rw [show startsF xs = startsL 0 xs from if_pos hv]
    go_enter Try.func23, Try.ntmps23
    go_wp2_with (go_at_call 16; refine (CountsValid_c _ _ _ _ _ _ h).mono ?_; rintro e w' ⟨rfl, rfl⟩)
    refine (startsOf_c _ _ _ _ _ _ h hB (by have := h.len; omega) hv'.2).mono ?_
    rintro e w2 ⟨D, d, rfl, hown, hbel⟩
    go_wp2
    go_ret
    exact ⟨D, d, rfl, hown, hbel⟩
  · rw [show startsF xs = [] from if_neg hv]
    rw [Bool.not_eq_true] at hv
    go_enter Try.func23, Try.ntmps23
    go_wp2_with (go_at_call 16; refine (CountsValid_c _ _ _ _ _ _ h).mono ?_; rintro e w' ⟨rfl, rfl⟩)
    go_ret
    exact PSl.mk rfl (Own.lit w [] (m := 0) rfl (by omega) (Nat.le_refl _)) ((Below.refl _ _).alloc (Nat.le_refl _) _)

set_option maxHeartbeats 400000 in
theorem CountsStarts_s_c (A : Option Addr) (n c B : Nat) (xs : List Int) (w : World) (h : Row w B A n c xs) (hB : B ≤ w.heap.size) :
    Calls Try.prog 22 #[.slice A n c] w (PSl w (startsF xs)) := by
  have hs := h.small
  by_cases hv : countsV xs = true
  · obtain ⟨h8, hev⟩ := countsV_iff.1 hv
    obtain rfl : n = 8 := by rw [← h.len]; exact h8
    rw [show startsF xs = startsL 0 xs from if_pos hv]
    clear h8
    go_enter Try.func22, Try.ntmps22
    go_wp2
    go_loopw [3, 4, 5] (fun v s i wr => ∃ (k : Nat) (D : Option Addr) (d : Nat) (ys : List Int) (a : Int), k ≤ 8 ∧ v = .slice D k d ∧ s = .int .i64 a ∧ i = .int .i64 k ∧ 0 ≤ a ∧ a ≤ 999 * k ∧ Own wr w.heap.size D k d ys ∧ startsL 0 xs = ys ++ startsL a (xs.drop k) ∧ Below w.heap.size w wr) (fun _ _ i _ => 8 - (intOf i).toNat)
    case atStart => exact ⟨0, _, 0, [], 0, Nat.zero_le _, rfl, rfl, rfl, by omega, by omega, Own.lit w [] rfl (by omega) (Nat.le_refl _), rfl, (Below.refl _ _).alloc (Nat.le_refl _) _⟩
    case round =>
      obtain ⟨k, D, d, ys, a, hk, rfl, rfl, rfl, ha0, ha1, hown, he, hbel⟩ := hrel
      have HE := hid he
      clear he
      by_cases hlt : k < 8
      · have hr := h.below (hbel.mono hB)
        obtain ⟨b, off, x, rfl, hb, hc, hx, hd⟩ := hr.step hlt
        have hxb := everyB_get hev hx
        have HD := hid hd
        have hsz := hbel.size
        have hltI : (k : Int) < 8 := by omega
        clear hd hx
        go_wp2_with (first | (go_at_call 14; refine (CountsValid_s_c _ _ _ _ _ _ hr).mono ?_; rintro e w' ⟨rfl, rfl⟩) | (at_builtin; refine wpList_push rfl _ _ rfl rfl hown rfl (by omega) hsz ?_; intro D2 d2 w2 hown2 hg2 hb2; have hc2 := (h.below ((hbel.trans hb2).mono hB)); obtain ⟨b', off', e', -, hcell'⟩ := hc2.at_ (by omega); injection e' with e'; injection e' with e1 e2; subst e1; subst e2; have hc3 := hcell' k x ((List.getElem?_drop (xs := xs) (i := k) (j := 0)) ▸ (by rw [HD.out]; rfl)); clear hcell' hc2))
        go_roundw
        case rel => exact ⟨k + 1, D2, d2, _, _, by omega, rfl, rfl, by go_num, by omega, by omega, hown2, by rw [HE.out, HD.out, startsL_cons, List.append_assoc]; rfl, hbel.trans hb2⟩
        case measure => simp [intOf]; omega
      · obtain rfl : k = 8 := by omega
        have hd := h.full (k := 8) (Nat.le_refl _)
        have e : startsL 0 xs = ys := by rw [HE.out, hd]; exact List.append_nil _
        clear hd
        have HH := hid e
        clear e
        go_wp2
        go_ret
        rw [HH.out]
        exact PSl.mk hown.len hown hbel
  · rw [show startsF xs = [] from if_neg hv]
    rw [Bool.not_eq_true] at hv
    have ho : Own (w.alloc (.cells #[] 3)) w.heap.size (some ⟨w.heap.size, 0, none⟩) 0 0 [] := Own.lit w [] rfl (by omega) (Nat.le_refl _)
    have hb : Below w.heap.size w (w.alloc (.cells #[] 3)) := (Below.refl _ _).alloc (Nat.le_refl _) _
    have hr := h.below (hb.mono hB)
    by_cases hn : n = 0
    · subst hn
      go_enter Try.func22, Try.ntmps22
      go_wp2
      refine wp_loop_rounds 1 ?_
      rw [rounds_succ]
      go_wp2
      go_ret
      exact PSl.mk rfl ho hb
    · have hpos : (0 : Int) < (n : Int) := by omega
      go_enter Try.func22, Try.ntmps22
      go_wp2
      refine wp_loop_rounds 1 ?_
      rw [rounds_succ]
      go_wp2_with (go_at_call 14; refine (CountsValid_s_c _ _ _ _ _ _ hr).mono ?_; rintro e w' ⟨rfl, rfl⟩)
      go_ret
      exact PSl.mk rfl ho hb

set_option maxHeartbeats 400000 in
theorem countsOf_c (A : Option Addr) (n c B : Nat) (xs : List Int) (w : World) (h : Row w B A n c xs) (hB : B ≤ w.heap.size) (hn : n ≤ 40) (hv : everyB 0 7 xs = true) :
    Calls Try.prog 39 #[.slice A n c] w (PSl w (cntL zero8 xs)) := by
  obtain ⟨i0, hi, hz0, hz1, hz2⟩ := info_parts int_info
  go_enter Try.func39, Try.ntmps39
  go_wp2_with (at_make; refine wpList_make_full _ rfl _ _ 23 rfl w.heap.size 3 i0 (.int .i64 0) 1 Try.underlying23 hi hz0 hz1 .i64 .i64 _ _ 8 rfl rfl rfl rfl (by rw [hz2]; omega) (by unfold maxLen; omega) (Nat.le_refl _) ?_; intro w0 hown0 hgrow0)
  have ho0 : Own w0 w.heap.size (some ⟨w.heap.size, 0, none⟩) 8 8 zero8 := Own.made hown0 (by omega)
  have hb0 : Below w.heap.size w w0 := (Below.refl _ _).grown hgrow0 (Nat.le_refl _) (fun k hk => by cases hk)
  clear hgrow0 hown0 hz2 hz1 hz0 hi
  have hz8 : everyB 0 ((0 : Nat) : Int) zero8 = true := by decide
  go_loopw [9] (fun i wr => ∃ (k : Nat) (L : List Int), k ≤ n ∧ i = .int .i64 k ∧ Own wr w.heap.size (some ⟨w.heap.size, 0, none⟩) 8 8 L ∧ everyB 0 (k : Int) L = true ∧ cntL zero8 xs = cntL L (xs.drop k) ∧ Below w.heap.size w wr) (fun i _ => n - (intOf i).toNat)
  case atStart => exact ⟨0, zero8, Nat.zero_le _, rfl, ho0, hz8, rfl, hb0⟩
  case round =>
    obtain ⟨k, L, hk, rfl, hown, hL, he, hbel⟩ := hrel
    have HE := hid he
    have HLE := hid hL
    clear he hL
    by_cases hlt : k < n
    · obtain ⟨b, off, x, rfl, hb, hc, hx, hd⟩ := (h.below (hbel.mono hB)).step hlt
      have hxb := everyB_get hv hx
      have HD := hid hd
      clear hd hx
      obtain ⟨s, rfl⟩ := Int.eq_ofNat_of_zero_le hxb.1
      have hs8 : s < 8 := by omega
      obtain ⟨u, hu⟩ : ∃ u, L[s]? = some u := ⟨_, List.getElem?_eq_getElem (by rw [hown.len]; exact hs8)⟩
      have hub := everyB_get HLE.out hu
      have hcu := hown.cellAt hu
      have hf := hown.frozenAt s
      have h2 := hown.stored s (u + 1)
      have eb : bump L (s : Int) = L.set s (u + 1) := by simp [bump, List.getD, hu]
      rw [← eb] at h2
      have H2 := hid h2
      have H3 := hid (bump_range (s := (s : Int)) HLE.out (by rw [hown.len]; simpa using hs8))
      clear h2 eb hu
      go_wp2
      go_roundw
      case rel => exact ⟨k + 1, _, by omega, by go_num, H2.out, H3.out, by rw [HE.out, HD.out, cntL_cons], hbel.setCell (Nat.le_refl _) _⟩
      case measure => simp [intOf]; omega
    · have hd := h.full (k := k) (by omega)
      have e : cntL zero8 xs = L := by rw [HE.out, hd]; rfl
      clear hd
      have HH := hid e
      clear e
      go_wp2
      go_ret
      rw [HH.out]
      exact PSl.mk hown.len hown hbel

set_option maxHeartbeats 800000 in
theorem l3Counts_c (A : Option Addr) (n c B : Nat) (xs : List Int) (w : World) (h : Row w B A n c xs) (hB : B ≤ w.heap.size) (hn : n ≤ 40) (hv : everyB 0 7 xs = true) :
    Calls Try.prog 38 #[.slice A n c] w (PSl w (cntL zero8 xs)) := by
  obtain ⟨i0, hi, hz0, hz1, hz2⟩ := info_parts int_info
  go_enter Try.func38, Try.ntmps38
  go_wp2_with (at_make; refine wpList_make_full _ rfl _ _ 23 rfl w.heap.size 3 i0 (.int .i64 0) 1 Try.underlying23 hi hz0 hz1 .i64 .i64 _ _ 8 rfl rfl rfl rfl (by rw [hz2]; omega) (by unfold maxLen; omega) (Nat.le_refl _) ?_; intro w0 hown0 hgrow0)
  have ho0 : Own w0 w.heap.size (some ⟨w.heap.size, 0, none⟩) 8 8 zero8 := Own.made hown0 (by omega)
  have hb0 : Below w.heap.size w w0 := (Below.refl _ _).grown hgrow0 (Nat.le_refl _) (fun k hk => by cases hk)
  clear hgrow0 hown0 hz2 hz1 hz0 hi
  have hz8 : everyB 0 ((0 : Nat) : Int) zero8 = true := by decide
  go_loopw [4] (fun i wr => ∃ (k : Nat) (L : List Int), k ≤ n ∧ i = .int .i64 k ∧ Own wr w.heap.size (some ⟨w.heap.size, 0, none⟩) 8 8 L ∧ everyB 0 (k : Int) L = true ∧ cntL zero8 xs = cntL L (xs.drop k) ∧ Below w.heap.size w wr) (fun i _ => n - (intOf i).toNat)
  case atStart => exact ⟨0, zero8, Nat.zero_le _, rfl, ho0, hz8, rfl, hb0⟩
  case round =>
    obtain ⟨k, L, hk, rfl, hown, hL, he, hbel⟩ := hrel
    have HE := hid he
    have HLE := hid hL
    clear he hL
    by_cases hlt : k < n
    · obtain ⟨b, off, x, rfl, hb, hc, hx, hd⟩ := (h.below (hbel.mono hB)).step hlt
      have hxb := everyB_get hv hx
      have HD := hid hd
      clear hd hx
      obtain ⟨s, rfl⟩ := Int.eq_ofNat_of_zero_le hxb.1
      have hs8 : s < 8 := by omega
      have hsI : (s : Int) < 8 := by omega
      have hkI : (k : Int) < (n : Int) := by omega
      obtain ⟨u, hu⟩ : ∃ u, L[s]? = some u := ⟨_, List.getElem?_eq_getElem (by rw [hown.len]; exact hs8)⟩
      have hub := everyB_get HLE.out hu
      have hcu := hown.cellAt hu
      have hf := hown.frozenAt s
      have h2 := (hown.stored s (u + 1)).drewN 1
      have eb : bump L (s : Int) = L.set s (u + 1) := by simp [bump, List.getD, hu]
      rw [← eb] at h2
      have H2 := hid h2
      have H3 := hid (bump_range (s := (s : Int)) HLE.out (by rw [hown.len]; simpa using hs8))
      have hne : ¬ b = w.heap.size := by omega
      clear h2 eb hu
      go_wp2
      go_region
      go_wp2
      go_roundw
      case rel => exact ⟨k + 1, _, by omega, by go_num, H2.out, H3.out, by rw [HE.out, HD.out, cntL_cons], below_drewN (hbel.setCell (p := ⟨w.heap.size, s, none⟩) (Nat.le_refl _) _) 1⟩
      case measure => simp [intOf]; omega
    · have hd := h.full (k := k) (by omega)
      have e : cntL zero8 xs = L := by rw [HE.out, hd]; rfl
      clear hd
      have HH := hid e
      clear e
      go_wp2
      go_ret
      rw [HH.out]
      exact PSl.mk hown.len hown hbel

theorem CountsOf_c (A : Option Addr) (n c B : Nat) (xs : List Int) (w : World) (h : Row w B A n c xs) (hB : B ≤ w.heap.size) :
    Calls Try.prog 27 #[.slice A n c] w (PSl w (countsF xs)) := by
  by_cases hv : listV xs = true
  · have hv' := listV_iff.1 hv
    rw [show countsF xs = cntL zero8 xs from if_pos hv]
    go_enter Try.func27, Try.ntmps27
    go_wp2_with fail
    refine (ListValid_c _ _ _ _ _ _ h).mono ?_
    rintro e w' ⟨rfl, rfl⟩
    go_wp2_with fail
    refine (countsOf_c _ _ _ _ _ _ h hB (by have := h.len; omega) hv'.2).mono ?_
    rintro e w2 ⟨D, d, rfl, hown, hbel⟩
    go_wp2
    go_ret
    exact ⟨D, d, rfl, hown, hbel⟩
  · rw [show countsF xs = [] from if_neg hv]
    rw [Bool.not_eq_true] at hv
    go_enter Try.func27, Try.ntmps27
    go_wp2_with fail
    refine (ListValid_c _ _ _ _ _ _ h).mono ?_
    rintro e w' ⟨rfl, rfl⟩
    go_wp2
    go_ret
    exact PSl.mk rfl (Own.lit w [] (m := 0) rfl (by omega) (Nat.le_refl _)) ((Below.refl _ _).alloc (Nat.le_refl _) _)
theorem CountsOf_s_c (A : Option Addr) (n c B : Nat) (xs : List Int) (w : World) (h : Row w B A n c xs) (hB : B ≤ w.heap.size) :
    Calls Try.prog 26 #[.slice A n c] w (PSl w (countsF xs)) := by
  by_cases hv : listV xs = true
  · have hv' := listV_iff.1 hv
    rw [show countsF xs = cntL zero8 xs from if_pos hv]
    go_enter Try.func26, Try.ntmps26
    go_wp2_with fail
    refine (ListValid_s_c _ _ _ _ _ _ h).mono ?_
    rintro e w' ⟨rfl, rfl⟩
    go_wp2_with fail
    refine (l3Counts_c _ _ _ _ _ _ h hB (by have := h.len; omega) hv'.2).mono ?_
    rintro e w2 ⟨D, d, rfl, hown, hbel⟩
    go_wp2
    go_ret
    exact ⟨D, d, rfl, hown, hbel⟩
  · rw [show countsF xs = [] from if_neg hv]
    rw [Bool.not_eq_true] at hv
    go_enter Try.func26, Try.ntmps26
    go_wp2_with fail
    refine (ListValid_s_c _ _ _ _ _ _ h).mono ?_
    rintro e w' ⟨rfl, rfl⟩
    go_wp2
    go_ret
    exact PSl.mk rfl (Own.lit w [] (m := 0) rfl (by omega) (Nat.le_refl _)) ((Below.refl _ _).alloc (Nat.le_refl _) _)
end Go.Proofs.Ytnngacajoemdeaa
