/- Contracts of PairOf and PairJoin, of the program and of the reference. No condition. -/
import Derived.Test.YtfobmhhikmaggaaBase
import Derived.Test.YtfobmhhikmaggaaSumsP
namespace Go.Proofs.Ytfobmhhikmaggaa
open Go.RowKit

set_option maxHeartbeats 400000 in
theorem PairOf_c (A : Option Addr) (n c B : Nat) (xs : List Int) (w : World) (h : Row w B A n c xs) :
    Calls Try.prog 15 #[.slice A n c] w (P3 w (pairF xs)) := by
  have hs := h.small
  by_cases hv : everyB 0 255 xs = true
  · by_cases hn : n ≤ 400
    · have HP := hid (pairF_yes hv (by rw [h.len]; exact hn))
      go_enter Try.func15, Try.ntmps15
      go_wp2_with (go_at_call 25; refine (bytesOk_c _ _ _ _ _ _ h).mono ?_; rintro e w' ⟨rfl, rfl⟩)
      go_loop [5, 6, 19] (fun s t i => ∃ (k : Nat) (a b : Int), k ≤ n ∧ s = .int .i64 a ∧ t = .int .i64 b ∧ i = .int .i64 k ∧ 0 ≤ a ∧ a ≤ 250 ∧ 0 ≤ b ∧ b ≤ 250 ∧ pairL 1 0 xs = pairL a b (xs.drop k)) (fun _ _ i => n - (intOf i).toNat)
      case atStart => exact ⟨0, 1, 0, Nat.zero_le _, rfl, rfl, rfl, by omega, by omega, by omega, by omega, rfl⟩
      case round =>
        obtain ⟨k, a, b, hk, rfl, rfl, rfl, ha0, ha1, hb0, hb1, he⟩ := hrel
        have HE := hid he
        clear he
        by_cases hlt : k < n
        · obtain ⟨bl, off, x, rfl, hb, hc, hx, hd⟩ := h.step hlt
          have hxb := everyB_get hv hx
          have HD := hid hd
          clear hd hx
          go_wp2
          go_round
          case rel => exact ⟨k + 1, _, _, by omega, rfl, rfl, by go_num, by omega, by omega, by omega, by omega, by rw [HE.out, HD.out]; rfl⟩
          case measure => simp [intOf]; omega
        · have hd := h.full (k := k) (by omega)
          have HD := hid hd
          clear hd
          go_wp2
          go_ret3
          exact P3.mk (by rw [HP.out, HE.out, HD.out]; rfl)
    · have HP := hid (pairF_no (xs := xs) fun _ => by rw [h.len]; exact hn)
      go_enter Try.func15, Try.ntmps15
      go_wp2_with (go_at_call 25; refine (bytesOk_c _ _ _ _ _ _ h).mono ?_; rintro e w' ⟨rfl, rfl⟩)
      go_ret3
      exact P3.mk HP.out
  · rw [Bool.not_eq_true] at hv
    have HP := hid (pairF_no (xs := xs) fun h => by rw [hv] at h; cases h)
    go_enter Try.func15, Try.ntmps15
    go_wp2_with (go_at_call 25; refine (bytesOk_c _ _ _ _ _ _ h).mono ?_; rintro e w' ⟨rfl, rfl⟩)
    go_ret3
    exact P3.mk HP.out

set_option maxHeartbeats 400000 in
theorem PairOf_s_c (A : Option Addr) (n c B : Nat) (xs : List Int) (w : World) (h : Row w B A n c xs) :
    Calls Try.prog 13 #[.slice A n c] w (P3 w (pairF xs)) := by
  have hs := h.small
  by_cases hv : everyB 0 255 xs = true
  · by_cases hn : n ≤ 400
    · have HP := hid (pairF_yes hv (by rw [h.len]; exact hn))
      go_enter Try.func13, Try.ntmps13
      go_wp2_with (go_at_call 24; refine (l1Bytes_c _ _ _ _ _ _ h).mono ?_; rintro e w' ⟨rfl, rfl⟩)
      go_loop [5, 6, 7] (fun s t i => ∃ (k : Nat) (a b : Int), k ≤ n ∧ s = .int .i64 a ∧ t = .int .i64 b ∧ i = .int .i64 k ∧ 0 ≤ a ∧ a ≤ 250 ∧ 0 ≤ b ∧ b ≤ 250 ∧ pairL 1 0 xs = pairL a b (xs.drop k)) (fun _ _ i => n - (intOf i).toNat)
      case atStart => exact ⟨0, 1, 0, Nat.zero_le _, rfl, rfl, rfl, by omega, by omega, by omega, by omega, rfl⟩
      case round =>
        obtain ⟨k, a, b, hk, rfl, rfl, rfl, ha0, ha1, hb0, hb1, he⟩ := hrel
        have HE := hid he
        clear he
        by_cases hlt : k < n
        · obtain ⟨bl, off, x, rfl, hb, hc, hx, hd⟩ := h.step hlt
          have hxb := everyB_get hv hx
          have HD := hid hd
          clear hd hx
          go_wp2
          go_round
          case rel => exact ⟨k + 1, _, _, by omega, rfl, rfl, by go_num, by omega, by omega, by omega, by omega, by rw [HE.out, HD.out]; rfl⟩
          case measure => simp [intOf]; omega
        · have hd := h.full (k := k) (by omega)
          have HD := hid hd
          clear hd
          go_wp2
          go_ret3
          exact P3.mk (by rw [HP.out, HE.out, HD.out]; rfl)
    · have HP := hid (pairF_no (xs := xs) fun _ => by rw [h.len]; exact hn)
      go_enter Try.func13, Try.ntmps13
      go_wp2_with (go_at_call 24; refine (l1Bytes_c _ _ _ _ _ _ h).mono ?_; rintro e w' ⟨rfl, rfl⟩)
      go_ret3
      exact P3.mk HP.out
  · rw [Bool.not_eq_true] at hv
    have HP := hid (pairF_no (xs := xs) fun h => by rw [hv] at h; cases h)
    go_enter Try.func13, Try.ntmps13
    go_wp2_with (go_at_call 24; refine (l1Bytes_c _ _ _ _ _ _ h).mono ?_; rintro e w' ⟨rfl, rfl⟩)
    go_ret3
    exact P3.mk HP.out

theorem PairJoin_s_no (a b c d m : Int) (w : World) (h : joinB a b c d m = false) :
    Calls Try.prog 11 #[.int .i64 a, .int .i64 b, .int .i64 c, .int .i64 d, .int .i64 m] w (P3 w (joinF a b c d m)) := by
  have HP := hid (joinF_no h)
  have HB := hid h
  clear h
  rcases ha : inB 0 250 a with _ | _
  · go_enter Try.func11, Try.ntmps11
    go_wp2_with (go_at_call 21; refine (l6In_c _ _ _ _).mono ?_; rintro e w' ⟨rfl, rfl⟩)
    go_ret3
    exact P3.mk HP.out
  rcases hb : inB 0 250 b with _ | _
  · go_enter Try.func11, Try.ntmps11
    go_wp2_with (go_at_call 21; refine (l6In_c _ _ _ _).mono ?_; rintro e w' ⟨rfl, rfl⟩)
    go_ret3
    exact P3.mk HP.out
  rcases hc : inB 0 250 c with _ | _
  · go_enter Try.func11, Try.ntmps11
    go_wp2_with (go_at_call 21; refine (l6In_c _ _ _ _).mono ?_; rintro e w' ⟨rfl, rfl⟩)
    go_ret3
    exact P3.mk HP.out
  rcases hd : inB 0 250 d with _ | _
  · go_enter Try.func11, Try.ntmps11
    go_wp2_with (go_at_call 21; refine (l6In_c _ _ _ _).mono ?_; rintro e w' ⟨rfl, rfl⟩)
    go_ret3
    exact P3.mk HP.out
  rcases hm : inB 0 400 m with _ | _
  · go_enter Try.func11, Try.ntmps11
    go_wp2_with (go_at_call 21; refine (l6In_c _ _ _ _).mono ?_; rintro e w' ⟨rfl, rfl⟩)
    go_ret3
    exact P3.mk HP.out
  · have := HB.out
    simp [joinB, ha, hb, hc, hd, hm] at this

theorem PairJoin_s_c (a b c d m : Int) (w : World) :
    Calls Try.prog 11 #[.int .i64 a, .int .i64 b, .int .i64 c, .int .i64 d, .int .i64 m] w (P3 w (joinF a b c d m)) := by
  rcases h : joinB a b c d m with _ | _
  · exact PairJoin_s_no a b c d m w h
  · have HP := hid (joinF_yes h)
    have h' := h
    simp only [joinB, Bool.and_eq_true] at h'
    obtain ⟨⟨⟨⟨ha, hb⟩, hc⟩, hd⟩, hm⟩ := h'
    obtain ⟨a0, a1⟩ := inB_iff.1 ha
    obtain ⟨b0, b1⟩ := inB_iff.1 hb
    obtain ⟨c0, c1⟩ := inB_iff.1 hc
    obtain ⟨d0, d1⟩ := inB_iff.1 hd
    obtain ⟨m0, m1⟩ := inB_iff.1 hm
    clear h
    obtain ⟨p0, p1⟩ := mul_bound (a := a + 251 - 1) m0 m1 (by omega) (by omega)
    go_enter Try.func11, Try.ntmps11
    go_wp2_with (go_at_call 21; refine (l6In_c _ _ _ _).mono ?_; rintro e w' ⟨rfl, rfl⟩)
    go_ret3
    refine P3.mk (HP.out.trans ?_)
    rw [show a + c + 250 = a + c + 251 - 1 by omega, show a + 250 = a + 251 - 1 by omega]

theorem PairJoin_c (a b c d m : Int) (w : World) :
    Calls Try.prog 12 #[.int .i64 a, .int .i64 b, .int .i64 c, .int .i64 d, .int .i64 m] w (P3B w (joinF a b c d m)) := by
  have hrow : Row (w.alloc (.cells #[.int .i64 a, .int .i64 b, .int .i64 c, .int .i64 d] 3)) (w.heap.size + 1) (some ⟨w.heap.size, 0, none⟩) 4 4 [a, b, c, d] := by
    have h := (Own.lit (base := w.heap.size) w [a, b, c, d] (m := 4) rfl (by omega) (Nat.le_refl _)).row
    simpa using h
  have hbl : Below w.heap.size w (w.alloc (.cells #[.int .i64 a, .int .i64 b, .int .i64 c, .int .i64 d] 3)) := (Below.refl _ _).alloc (Nat.le_refl _) _
  rcases h4 : everyB 0 250 [a, b, c, d] with _ | _
  · have HP := hid (joinF_no (a := a) (b := b) (c := c) (d := d) (m := m) (by rw [joinB_every, h4]; rfl))
    go_enter Try.func12, Try.ntmps12
    go_wp2_with (go_at_call 22; refine (every_c _ _ _ _ _ _ _ _ hrow).mono ?_; rintro e w' ⟨rfl, rfl⟩)
    go_ret3
    exact P3B.mk HP.out hbl
  rcases hm : inB 0 400 m with _ | _
  · have HP := hid (joinF_no (a := a) (b := b) (c := c) (d := d) (m := m) (by rw [joinB_every, hm, Bool.and_false]))
    go_enter Try.func12, Try.ntmps12
    go_wp2_with (first | (go_at_call 22; refine (every_c _ _ _ _ _ _ _ _ hrow).mono ?_; rintro e w' ⟨rfl, rfl⟩) | (go_at_call 23; refine (within_c _ _ _ _).mono ?_; rintro e w' ⟨rfl, rfl⟩))
    go_ret3
    exact P3B.mk HP.out hbl
  · have HP := hid (joinF_yes (a := a) (b := b) (c := c) (d := d) (m := m) (by rw [joinB_every, h4, hm]; rfl))
    have h' := h4
    simp only [everyB, List.all_cons, Bool.and_eq_true] at h'
    obtain ⟨ha, hb, hc, hd, _⟩ := h'
    obtain ⟨a0, a1⟩ := inB_iff.1 ha
    obtain ⟨b0, b1⟩ := inB_iff.1 hb
    obtain ⟨c0, c1⟩ := inB_iff.1 hc
    obtain ⟨d0, d1⟩ := inB_iff.1 hd
    obtain ⟨m0, m1⟩ := inB_iff.1 hm
    obtain ⟨p0, p1⟩ := mul_bound' (a := a - 1) m0 m1 (by omega) (by omega)
    have p2 : 0 ≤ b + d + m * (a - 1) + m * 251 := by
      have := mul_bound (a := a + 250) m0 m1 (by omega) (by omega)
      rw [join_second]; omega
    clear ha hb hc hd
    go_enter Try.func12, Try.ntmps12
    go_wp2_with (first | (go_at_call 22; refine (every_c _ _ _ _ _ _ _ _ hrow).mono ?_; rintro e w' ⟨rfl, rfl⟩) | (go_at_call 23; refine (within_c _ _ _ _).mono ?_; rintro e w' ⟨rfl, rfl⟩))
    go_ret3
    refine P3B.mk (HP.out.trans ?_) hbl
    rw [join_second, show a + c + 250 = a + c - 1 + 251 by omega]
end Go.Proofs.Ytfobmhhikmaggaa
