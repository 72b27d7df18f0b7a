/- Contracts of CrcOf, of the program and of the reference. No condition. -/
import Derived.Test.YtfobmhhikmaggaaBase
import Derived.Test.YtfobmhhikmaggaaCrcP
import Derived.Test.YtfobmhhikmaggaaBitsL
import Derived.Test.YtfobmhhikmaggaaPut
namespace Go.Proofs.Ytfobmhhikmaggaa
open Go.RowKit

set_option maxHeartbeats 800000 in
theorem CrcOf_c (A : Option Addr) (n c B : Nat) (xs : List Int) (w : World) (h : Row w B A n c xs) :
    Calls Try.prog 20 #[.slice A n c] w (fun e w' => e = .returned (.int .i64 (crcF xs)) ∧ w = w') := by
  have hs := h.small
  by_cases hv : everyB 0 255 xs = true
  · by_cases hn : n ≤ 400
    · have HP := hid (crcF_yes hv (by rw [h.len]; exact hn))
      go_enter Try.func20, Try.ntmps20
      go_wp2_with (go_at_call 25; refine (bytesOk_c _ _ _ _ _ _ h).mono ?_; rintro e w' ⟨rfl, rfl⟩)
      go_loop [3, 18] (fun s i => ∃ (k : Nat) (a : Int), k ≤ n ∧ s = .int .i64 a ∧ i = .int .i64 k ∧ 0 ≤ a ∧ a ≤ 255 ∧ crcL 0 xs = crcL a (xs.drop k)) (fun _ i => n - (intOf i).toNat)
      case atStart => exact ⟨0, 0, Nat.zero_le _, rfl, rfl, by omega, by omega, rfl⟩
      case round =>
        obtain ⟨k, a, hk, rfl, rfl, ha0, ha1, he⟩ := hrel
        have HE := hid he
        clear he
        by_cases hlt : k < n
        · obtain ⟨bl, off, x, rfl, hb, hc, hx, hd⟩ := h.step hlt
          have hxb := everyB_get hv hx
          have HD := hid hd
          clear hd hx
          go_wp2
          go_loop [3, 6] (fun s i => ∃ (j : Nat) (r : Int), j ≤ 8 ∧ s = .int .i64 r ∧ i = .int .i64 ((j : Int) - 1) ∧ 0 ≤ r ∧ r ≤ 255 ∧ crcByte a x = crcGo r x j) (fun _ i => ((intOf i) + 1).toNat)
          case atStart => exact ⟨8, a, by omega, rfl, rfl, ha0, ha1, rfl⟩
          case round =>
            obtain ⟨j, r, hj, rfl, rfl, hr0, hr1, hg⟩ := hrel
            have HG := hid hg
            clear hg
            by_cases hj0 : j = 0
            · subst hj0
              go_wp2
              go_round
              case rel => exact ⟨k + 1, _, by omega, rfl, by go_num, hr0, hr1, by rw [HE.out, HD.out, crcL_cons, HG.out, crcGo_zero]⟩
              case measure => first | (simp [intOf]; done) | (simp [intOf]; omega)
            · obtain ⟨i, rfl⟩ : ∃ i, j = i + 1 := ⟨j - 1, by omega⟩
              obtain ⟨q0, q1⟩ := div_pow hxb.1 i
              have e1 := i64_and1 q0 (by omega)
              have e2 : bits .and .i64 (r * 2) 255 = r % 128 * 2 := by rw [i64_and255 (by omega) (by omega)]; omega
              have e3 := i64_xor7 (a := r % 128 * 2) (by omega) (by omega)
              have hsr := crcStep_range r (x / 2 ^ i % 2)
              by_cases hcmp : r / 128 = x / 2 ^ i % 2
              · have hb1 : (r / 128 != x / 2 ^ i % 2) = false := by simp [hcmp]
                have hst := crcStep_yes hcmp
                rw [hst] at hsr
                have HST := hid hst
                clear hst hcmp
                go_wp2
                go_round
                case rel => exact ⟨i, _, by omega, rfl, rfl, hsr.1, hsr.2, by rw [HG.out, crcGo_succ, HST.out]⟩
                case measure => first | (simp [intOf]; done) | (simp [intOf]; omega)
              · have hb1 : (r / 128 != x / 2 ^ i % 2) = true := by simp [hcmp]
                have hst := crcStep_no hcmp
                rw [hst] at hsr
                have HST := hid hst
                clear hst hcmp
                go_wp2
                go_round
                case rel => exact ⟨i, _, by omega, rfl, rfl, hsr.1, hsr.2, by rw [HG.out, crcGo_succ, HST.out]⟩
                case measure => first | (simp [intOf]; done) | (simp [intOf]; omega)
        · have hd := h.full (k := k) (by omega)
          have HD := hid hd
          clear hd
          go_wp2
          go_ret
          exact ⟨by rw [HP.out, HE.out, HD.out, crcL_nil]; rfl, rfl⟩
    · have HP := hid (crcF_no (xs := xs) fun _ => by rw [h.len]; exact hn)
      go_enter Try.func20, Try.ntmps20
      go_wp2_with (go_at_call 25; refine (bytesOk_c _ _ _ _ _ _ h).mono ?_; rintro e w' ⟨rfl, rfl⟩)
      go_ret
      exact ⟨by rw [HP.out]; rfl, rfl⟩
  · rw [Bool.not_eq_true] at hv
    have HP := hid (crcF_no (xs := xs) fun h => by rw [hv] at h; cases h)
    go_enter Try.func20, Try.ntmps20
    go_wp2_with (go_at_call 25; refine (bytesOk_c _ _ _ _ _ _ h).mono ?_; rintro e w' ⟨rfl, rfl⟩)
    go_ret
    exact ⟨by rw [HP.out]; rfl, rfl⟩
set_option maxHeartbeats 400000 in
theorem l5Flip_c (x : Int) (w : World) (hx : 0 ≤ x) (hx1 : x ≤ 255) : Calls Try.prog 30 #[.int .i64 x] w (fun e w' => e = .returned (.int .i64 (x + 7 - 2 * (x % 8))) ∧ Below w.heap.size w w') := by
  go_enter Try.func30, Try.ntmps30
  go_wp2_with fail
  refine (l1Put_c x 8 w hx (by omega) (by omega)).mono ?_
  rintro e w1 ⟨A1, c1, rfl, hown1, hb1⟩
  rw [putL_len] at hown1
  obtain ⟨g, rfl, hg, hgl⟩ := hown1.at_ (by omega)
  have hl := putL_len 8 x
  have HL := hid hl
  rw [hl]
  clear hl
  go_wp2_with fail
  go_loopw [4] (fun i wr => ∃ j : Nat, j ≤ 3 ∧ i = .int .i64 (5 + (j : Int)) ∧ Own wr w.heap.size (some ⟨g, 0, none⟩) 8 c1 (flipN (putL x 8) j) ∧ Below w.heap.size w wr) (fun i _ => 8 - (intOf i).toNat)
  case atStart => exact ⟨0, by omega, rfl, hown1, hb1⟩
  case round =>
    obtain ⟨j, hj, rfl, hown, hbel⟩ := hrel
    have hlen : (flipN (putL x 8) j).length = 8 := by rw [flipN_len, HL.out]
    have hbits := flipN_bits (putL x 8) (putL_bits _ _) j (by rw [HL.out]; omega)
    have HB := hid hbits
    have HN := hid hlen
    clear hbits hlen
    by_cases hj3 : j = 3
    · subst hj3
      go_wp2_with fail
      refine (l1Get_c _ _ _ _ _ _ hown.row HB.out (by omega)).mono ?_
      rintro e w' ⟨rfl, rfl⟩
      go_wp2
      go_ret
      exact ⟨by rw [flip_eq hx hx1]; rfl, hbel⟩
    · obtain ⟨y, hy⟩ : ∃ y, (flipN (putL x 8) j)[5 + j]? = some y := ⟨_, List.getElem?_eq_getElem (by rw [HN.out]; omega)⟩
      have hyb := everyB_get HB.out hy
      have hcl := hown.cellAt hy
      have hf := hown.frozenAt (5 + j)
      have h2 := hown.stored (5 + j) (1 - y)
      have e : (flipN (putL x 8) j).set (5 + j) (1 - y) = flipN (putL x 8) (j + 1) := by rw [flipN_succ]; simp [List.getD, hy]
      rw [e] at h2
      have H2 := hid h2
      clear e h2 hy
      go_wp2
      go_roundw
      case rel => exact ⟨j + 1, by omega, by go_num, H2.out, hbel.setCell hg _⟩
      case measure => first | (simp [intOf]; done) | (simp [intOf]; omega)

set_option maxHeartbeats 800000 in
theorem CrcOf_s_c (A : Option Addr) (n c B : Nat) (xs : List Int) (w : World) (h : Row w B A n c xs) (hB : B ≤ w.heap.size) :
    Calls Try.prog 19 #[.slice A n c] w (fun e w' => e = .returned (.int .i64 (crcF xs)) ∧ Below w.heap.size w w') := by
  have hs := h.small
  by_cases hv : everyB 0 255 xs = true
  case neg =>
    rw [Bool.not_eq_true] at hv
    have HP := hid (crcF_no (xs := xs) fun h => by rw [hv] at h; cases h)
    go_enter Try.func19, Try.ntmps19
    go_wp2_with (go_at_call 24; refine (l1Bytes_c _ _ _ _ _ _ h).mono ?_; rintro e w' ⟨rfl, rfl⟩)
    go_ret
    exact ⟨by rw [HP.out]; rfl, Below.refl _ _⟩
  by_cases hn : n ≤ 400
  case neg =>
    have HP := hid (crcF_no (xs := xs) fun _ => by rw [h.len]; exact hn)
    go_enter Try.func19, Try.ntmps19
    go_wp2_with (go_at_call 24; refine (l1Bytes_c _ _ _ _ _ _ h).mono ?_; rintro e w' ⟨rfl, rfl⟩)
    go_ret
    exact ⟨by rw [HP.out]; rfl, Below.refl _ _⟩
  have HP := hid (crcF_yes hv (by rw [h.len]; exact hn))
  go_enter Try.func19, Try.ntmps19
  go_wp2_with (go_at_call 24; refine (l1Bytes_c _ _ _ _ _ _ h).mono ?_; rintro e w' ⟨rfl, rfl⟩)
  go_loopw [3, 4] (fun s i wr => ∃ (k : Nat) (a : Int), k ≤ n ∧ s = .int .i64 a ∧ i = .int .i64 k ∧ 0 ≤ a ∧ a ≤ 255 ∧ crcL 0 xs = crcL a (xs.drop k) ∧ Below w.heap.size w wr) (fun _ i _ => n - (intOf i).toNat)
  case atStart => exact ⟨0, 0, Nat.zero_le _, rfl, rfl, by omega, by omega, rfl, Below.refl _ _⟩
  case round =>
    obtain ⟨k, a, hk, rfl, rfl, ha0, ha1, he, hbel⟩ := hrel
    have HE := hid he
    clear he
    by_cases hlt : k < n
    case neg =>
      have hd := h.full (k := k) (by omega)
      have HD := hid hd
      clear hd
      go_wp2
      go_ret
      exact ⟨by rw [HP.out, HE.out, HD.out, crcL_nil]; rfl, hbel⟩
    obtain ⟨bl, off, x, rfl, hb, hc, hx, hd⟩ := (h.below (hbel.mono hB)).step hlt
    have hxb := everyB_get hv hx
    have HD := hid hd
    clear hd hx
    obtain ⟨wo, rfl⟩ : ∃ wo : World, wo = wr := ⟨_, rfl⟩
    go_wp2_with fail
    refine (l1Put_c x 8 wo hxb.1 (by omega) (by omega)).mono ?_
    rintro e w1 ⟨A1, c1, rfl, hown1, hb1⟩
    rw [putL_len] at hown1
    rw [putL_len]
    have hbel1 := hbel.trans (hb1.mono hbel.size)
    have hrow1 := hown1.row
    go_wp2_with fail
    go_loopw [3, 6] (fun s i wr => ∃ (t : Nat) (r : Int), t ≤ 8 ∧ s = .int .i64 r ∧ i = .int .i64 (t : Int) ∧ 0 ≤ r ∧ r ≤ 255 ∧ crcByte a x = crcGo r x (8 - t) ∧ Below w.heap.size w wr ∧ Below w1.heap.size w1 wr) (fun _ i _ => 8 - (intOf i).toNat)
    case atStart => exact ⟨0, a, by omega, rfl, rfl, ha0, ha1, rfl, hbel1, Below.refl _ _⟩
    case round =>
      obtain ⟨t, r, ht, rfl, rfl, hr0, hr1, hg, hbel2, hb2⟩ := hrel
      have HG := hid hg
      clear hg
      by_cases ht8 : t < 8
      case neg =>
        obtain rfl : t = 8 := by omega
        go_wp2
        go_roundw
        case rel => exact ⟨k + 1, _, by omega, rfl, by go_num, hr0, hr1, by rw [HE.out, HD.out, crcL_cons, HG.out]; rfl, hbel2⟩
        case measure => first | (simp [intOf]; done) | (simp [intOf]; omega)
      have hget := putL_get 8 x (7 - t) (by omega)
      rw [show 8 - 1 - (7 - t) = t by omega] at hget
      obtain ⟨bl', off', rfl, hb', hc'⟩ := (hrow1.below hb2).at_ (by omega)
      have hcx := hc' _ _ hget
      clear hc' hget
      have hg8 : crcGo r x (8 - t) = crcGo (crcStep r (x / 2 ^ (7 - t) % 2)) x (8 - (t + 1)) := by rw [show 8 - t = (7 - t) + 1 by omega, crcGo_succ, show 7 - t = 8 - (t + 1) by omega]
      have HG8 := hid (HG.out.trans hg8)
      clear hg8
      generalize x / 2 ^ (7 - t) % 2 = bt at *
      have hsr := crcStep_range r bt
      by_cases hcmp : r / 128 = bt
      · have hbb : (r / 128 != bt) = false := by simp [hcmp]
        have hst := crcStep_yes hcmp
        rw [hst] at hsr
        have HST := hid hst
        clear hst hcmp
        go_wp2
        go_roundw
        case rel => exact ⟨t + 1, _, by omega, rfl, by go_num, hsr.1, hsr.2, by rw [HG8.out, HST.out], hbel2, hb2⟩
        case measure => first | (simp [intOf]; done) | (simp [intOf]; omega)
      · have hbb : (r / 128 != bt) = true := by simp [hcmp]
        have hst := crcStep_no hcmp
        rw [hst] at hsr
        have HST := hid hst
        clear hst hcmp
        go_wp2_with fail
        refine (l5Flip_c (r % 128 * 2) _ (by omega) (by omega)).mono ?_
        rintro e w3 ⟨rfl, hb3⟩
        have hbel3 := hbel2.trans (hb3.mono hbel2.size)
        have hb33 := hb2.trans (hb3.mono hb2.size)
        go_wp2
        go_roundw
        case rel => exact ⟨t + 1, _, by omega, rfl, by go_num, hsr.1, hsr.2, by rw [HG8.out, HST.out], hbel3, hb33⟩
        case measure => first | (simp [intOf]; done) | (simp [intOf]; omega)
end Go.Proofs.Ytfobmhhikmaggaa
