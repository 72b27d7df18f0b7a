/- Contracts of ZigZag, ZagZig and VarPut, of the program and of the reference, and of the draws of numbers. No condition. -/
import Derived.Test.YtaaaiagpbhiphaaBase
import Derived.Test.YtaaaiagpbhiphaaVarP
import Derived.Test.YtaaaiagpbhiphaaDraw
namespace Go.Proofs.Ytaaaiagpbhiphaa
open Go.RowKit

theorem ZigZag_c (n : Int) (w : World) : Calls Try.prog 18 #[.int .i64 n] w (fun e w' => e = .returned (.int .i64 (zzF n)) ∧ w = w') := by
  by_cases h : -1048576 ≤ n ∧ n ≤ 1048575
  · have hb : inB (-1048576) 1048575 n = true := inB_iff.2 h
    obtain ⟨h0, h1⟩ := h
    by_cases hn : n < 0
    · have HZ := hid (show zzF n = -2 * n - 1 by rw [zzF, if_pos ⟨h0, h1⟩, if_pos hn])
      go_enter Try.func18, Try.ntmps18
      go_wp2_with fail
      refine (within_c _ _ _ _).mono ?_
      rintro e w' ⟨rfl, rfl⟩
      go_wp2
      go_ret
      exact ⟨by rw [HZ.out]; rfl, rfl⟩
    · have HZ := hid (show zzF n = 2 * n by rw [zzF, if_pos ⟨h0, h1⟩, if_neg hn])
      go_enter Try.func18, Try.ntmps18
      go_wp2_with fail
      refine (within_c _ _ _ _).mono ?_
      rintro e w' ⟨rfl, rfl⟩
      go_wp2
      go_ret
      exact ⟨by rw [HZ.out]; rfl, rfl⟩
  · have hb : inB (-1048576) 1048575 n = false := inB_false.2 (by omega)
    have HZ := hid (show zzF n = -1 by rw [zzF, if_neg h])
    go_enter Try.func18, Try.ntmps18
    go_wp2_with fail
    refine (within_c _ _ _ _).mono ?_
    rintro e w' ⟨rfl, rfl⟩
    go_wp2
    go_ret
    exact ⟨by rw [HZ.out]; rfl, rfl⟩
theorem ZigZag_s_c (n : Int) (w : World) : Calls Try.prog 17 #[.int .i64 n] w (fun e w' => e = .returned (.int .i64 (zzF n)) ∧ w = w') := by
  by_cases h : -1048576 ≤ n ∧ n ≤ 1048575
  · have hb : inB (-1048576) 1048575 n = true := inB_iff.2 h
    obtain ⟨h0, h1⟩ := h
    by_cases hn : n < 0
    · have HZ := hid (show zzF n = -2 * n - 1 by rw [zzF, if_pos ⟨h0, h1⟩, if_pos hn])
      go_enter Try.func17, Try.ntmps17
      go_wp2_with fail
      refine (l6In_c _ _ _ _).mono ?_
      rintro e w' ⟨rfl, rfl⟩
      go_wp2
      go_ret
      exact ⟨by rw [HZ.out]; rfl, rfl⟩
    · have HZ := hid (show zzF n = 2 * n by rw [zzF, if_pos ⟨h0, h1⟩, if_neg hn])
      go_enter Try.func17, Try.ntmps17
      go_wp2_with fail
      refine (l6In_c _ _ _ _).mono ?_
      rintro e w' ⟨rfl, rfl⟩
      go_wp2
      go_ret
      exact ⟨by rw [HZ.out]; rfl, rfl⟩
  · have hb : inB (-1048576) 1048575 n = false := inB_false.2 (by omega)
    have HZ := hid (show zzF n = -1 by rw [zzF, if_neg h])
    go_enter Try.func17, Try.ntmps17
    go_wp2_with fail
    refine (l6In_c _ _ _ _).mono ?_
    rintro e w' ⟨rfl, rfl⟩
    go_wp2
    go_ret
    exact ⟨by rw [HZ.out]; rfl, rfl⟩

theorem ZagZig_c (n : Int) (w : World) : Calls Try.prog 16 #[.int .i64 n] w (fun e w' => e = .returned (.int .i64 (zgF n)) ∧ w = w') := by
  by_cases h : 0 ≤ n ∧ n ≤ 2097151
  · have hb : inB 0 2097151 n = true := inB_iff.2 h
    obtain ⟨h0, h1⟩ := h
    by_cases hn : n % 2 = 1
    · have HZ := hid (show zgF n = -((n + 1) / 2) by rw [zgF, if_pos ⟨h0, h1⟩, if_pos hn])
      have HD := hid (show wrap64 (-((n + 1).tdiv 2)) = -((n + 1) / 2) by rw [Int.tdiv_eq_ediv_of_nonneg (by omega)]; exact IntWalk.wrap64_in _ (by omega))
      have hnb : (n % 2 == 1) = true := by simp [hn]
      clear hn
      go_enter Try.func16, Try.ntmps16
      go_wp2_with fail
      refine (within_c _ _ _ _).mono ?_
      rintro e w' ⟨rfl, rfl⟩
      go_wp2
      go_ret
      first
        | exact ⟨by rw [HZ.out]; rfl, rfl⟩
        | exact ⟨by rw [HZ.out, ← HD.out]; rfl, rfl⟩
    · have HZ := hid (show zgF n = n / 2 by rw [zgF, if_pos ⟨h0, h1⟩, if_neg hn])
      have hnb : (n % 2 == 1) = false := by simp [hn]
      clear hn
      go_enter Try.func16, Try.ntmps16
      go_wp2_with fail
      refine (within_c _ _ _ _).mono ?_
      rintro e w' ⟨rfl, rfl⟩
      go_wp2
      go_ret
      exact ⟨by rw [HZ.out]; rfl, rfl⟩
  · have hb : inB 0 2097151 n = false := inB_false.2 (by omega)
    have HZ := hid (show zgF n = 0 by rw [zgF, if_neg h])
    go_enter Try.func16, Try.ntmps16
    go_wp2_with fail
    refine (within_c _ _ _ _).mono ?_
    rintro e w' ⟨rfl, rfl⟩
    go_wp2
    go_ret
    exact ⟨by rw [HZ.out]; rfl, rfl⟩
theorem ZagZig_s_c (n : Int) (w : World) : Calls Try.prog 15 #[.int .i64 n] w (fun e w' => e = .returned (.int .i64 (zgF n)) ∧ w = w') := by
  by_cases h : 0 ≤ n ∧ n ≤ 2097151
  · have hb : inB 0 2097151 n = true := inB_iff.2 h
    obtain ⟨h0, h1⟩ := h
    by_cases hn : n % 2 = 1
    · have HZ := hid (show zgF n = -((n + 1) / 2) by rw [zgF, if_pos ⟨h0, h1⟩, if_pos hn])
      have HD := hid (show wrap64 (-((n + 1).tdiv 2)) = -((n + 1) / 2) by rw [Int.tdiv_eq_ediv_of_nonneg (by omega)]; exact IntWalk.wrap64_in _ (by omega))
      have hnb : (n % 2 == 1) = true := by simp [hn]
      clear hn
      go_enter Try.func15, Try.ntmps15
      go_wp2_with fail
      refine (l6In_c _ _ _ _).mono ?_
      rintro e w' ⟨rfl, rfl⟩
      go_wp2
      go_ret
      first
        | exact ⟨by rw [HZ.out]; rfl, rfl⟩
        | exact ⟨by rw [HZ.out, ← HD.out]; rfl, rfl⟩
    · have HZ := hid (show zgF n = n / 2 by rw [zgF, if_pos ⟨h0, h1⟩, if_neg hn])
      have hnb : (n % 2 == 1) = false := by simp [hn]
      clear hn
      go_enter Try.func15, Try.ntmps15
      go_wp2_with fail
      refine (l6In_c _ _ _ _).mono ?_
      rintro e w' ⟨rfl, rfl⟩
      go_wp2
      go_ret
      exact ⟨by rw [HZ.out]; rfl, rfl⟩
  · have hb : inB 0 2097151 n = false := inB_false.2 (by omega)
    have HZ := hid (show zgF n = 0 by rw [zgF, if_neg h])
    go_enter Try.func15, Try.ntmps15
    go_wp2_with fail
    refine (l6In_c _ _ _ _).mono ?_
    rintro e w' ⟨rfl, rfl⟩
    go_wp2
    go_ret
    exact ⟨by rw [HZ.out]; rfl, rfl⟩

set_option maxHeartbeats 400000 in
theorem VarPut_c (n : Int) (w : World) : Calls Try.prog 21 #[.int .i64 n] w (PSl w (varF n)) := by
  have ho : Own (w.alloc (.cells #[] 3)) w.heap.size (some ⟨w.heap.size, 0, none⟩) 0 0 [] := Own.lit w [] rfl (by omega) (Nat.le_refl _)
  have hbl : Below w.heap.size w (w.alloc (.cells #[] 3)) := (Below.refl _ _).alloc (Nat.le_refl _) _
  by_cases h : 0 ≤ n ∧ n ≤ 2097151
  · have hb : inB 0 2097151 n = true := inB_iff.2 h
    rw [varF_yes h]
    obtain ⟨h0, h1⟩ := h
    go_enter Try.func21, Try.ntmps21
    go_wp2_with fail
    refine (within_c _ _ _ _).mono ?_
    rintro e w' ⟨rfl, rfl⟩
    go_wp2_with fail
    go_loopw [0, 3] (fun v s wr => ∃ (f k : Nat) (y : Int) (ys : List Int) (A : Option Addr) (c : Nat), k + f = 2 ∧ v = .int .i64 y ∧ s = .slice A k c ∧ Own wr w.heap.size A k c ys ∧ 0 ≤ y ∧ y ≤ 2097151 ∧ (f = 0 → y ≤ 127) ∧ (f = 1 → y ≤ 16383) ∧ varGo 2 n = ys ++ varGo f y ∧ Below w.heap.size w wr) (fun v _ _ => (intOf v).toNat)
    case atStart => exact ⟨2, 0, n, [], _, 0, rfl, rfl, rfl, ho, h0, h1, (fun e => by cases e), (fun e => by cases e), rfl, hbl⟩
    case round =>
      obtain ⟨f, k, y, ys, A, c, hkf, rfl, rfl, hown, y0, y1, y2, y3, he, hbel⟩ := hrel
      have HE := hid he
      have HK := hid hkf
      have hk2 : k ≤ 2 := by omega
      have hs := hbel.size
      clear he
      by_cases hy : y < 128
      · have hy' : y ≤ 127 := by omega
        have e := varGo_small f hy
        have HF := hid (show varGo 2 n = ys ++ [y] by rw [HE.out, e])
        clear e y2 y3 hkf
        go_wp2_with (at_builtin; refine wpList_push rfl _ _ rfl rfl hown rfl (by omega) hs ?_; intro A2 c2 w2 hown2 hg2 hb2)
        go_ret
        rw [HF.out]
        exact PSl.mk hown2.len hown2 (hbel.trans hb2)
      · obtain ⟨f', rfl⟩ : ∃ f', f = f' + 1 := ⟨f - 1, by omega⟩
        have hy' : 128 ≤ y := by omega
        have HF := hid (show varGo 2 n = (ys ++ [y % 128 + 128]) ++ varGo f' (y / 128) by rw [HE.out, varGo_big f' hy, List.append_assoc]; rfl)
        have B2 := hid (show (f' = 0 → y / 128 ≤ 127) ∧ (f' = 1 → y / 128 ≤ 16383) by omega)
        have hc1 : 128 + y % 128 = y % 128 + 128 := Int.add_comm _ _
        have HC := hid hc1
        clear y2 y3 hkf hc1
        go_wp2_with (at_builtin; refine wpList_push rfl _ _ rfl rfl hown rfl (by omega) hs ?_; intro A2 c2 w2 hown2 hg2 hb2)
        have hown2' := hown2
        first | rw [HC.out] at hown2' | skip
        go_roundw
        case rel => exact ⟨f', k + 1, _, _, A2, c2, by have := HK.out; omega, rfl, rfl, hown2', by omega, by omega, B2.out.1, B2.out.2, HF.out, hbel.trans hb2⟩
        case measure => simp [intOf]; omega
  · have hb : inB 0 2097151 n = false := inB_false.2 (by omega)
    rw [varF_no h]
    clear h
    go_enter Try.func21, Try.ntmps21
    go_wp2_with fail
    refine (within_c _ _ _ _).mono ?_
    rintro e w' ⟨rfl, rfl⟩
    go_wp2
    go_ret
    exact PSl.mk rfl ho hbl
set_option maxHeartbeats 400000 in
theorem VarPut_s_c (n : Int) (w : World) : Calls Try.prog 20 #[.int .i64 n] w (PSl w (varF n)) := by
  have ho : Own (w.alloc (.cells #[] 3)) w.heap.size (some ⟨w.heap.size, 0, none⟩) 0 0 [] := Own.lit w [] rfl (by omega) (Nat.le_refl _)
  have hbl : Below w.heap.size w (w.alloc (.cells #[] 3)) := (Below.refl _ _).alloc (Nat.le_refl _) _
  by_cases h : 0 ≤ n ∧ n ≤ 2097151
  · have hb : inB 0 2097151 n = true := inB_iff.2 h
    rw [varF_yes h]
    obtain ⟨h0, h1⟩ := h
    go_enter Try.func20, Try.ntmps20
    go_wp2_with fail
    refine (l6In_c _ _ _ _).mono ?_
    rintro e w' ⟨rfl, rfl⟩
    go_wp2_with fail
    go_loopw [0, 3] (fun v s wr => ∃ (f k : Nat) (y : Int) (ys : List Int) (A : Option Addr) (c : Nat), k + f = 2 ∧ v = .int .i64 y ∧ s = .slice A k c ∧ Own wr w.heap.size A k c ys ∧ 0 ≤ y ∧ y ≤ 2097151 ∧ (f = 0 → y ≤ 127) ∧ (f = 1 → y ≤ 16383) ∧ varGo 2 n = ys ++ varGo f y ∧ Below w.heap.size w wr) (fun v _ _ => (intOf v).toNat)
    case atStart => exact ⟨2, 0, n, [], _, 0, rfl, rfl, rfl, ho, h0, h1, (fun e => by cases e), (fun e => by cases e), rfl, hbl⟩
    case round =>
      obtain ⟨f, k, y, ys, A, c, hkf, rfl, rfl, hown, y0, y1, y2, y3, he, hbel⟩ := hrel
      have HE := hid he
      have HK := hid hkf
      have hk2 : k ≤ 2 := by omega
      have hs := hbel.size
      clear he
      by_cases hy : y < 128
      · have hy' : y ≤ 127 := by omega
        have e := varGo_small f hy
        have HF := hid (show varGo 2 n = ys ++ [y] by rw [HE.out, e])
        clear e y2 y3 hkf
        go_wp2_with (at_builtin; refine wpList_push rfl _ _ rfl rfl hown rfl (by omega) hs ?_; intro A2 c2 w2 hown2 hg2 hb2)
        go_ret
        rw [HF.out]
        exact PSl.mk hown2.len hown2 (hbel.trans hb2)
      · obtain ⟨f', rfl⟩ : ∃ f', f = f' + 1 := ⟨f - 1, by omega⟩
        have hy' : 128 ≤ y := by omega
        have HF := hid (show varGo 2 n = (ys ++ [y % 128 + 128]) ++ varGo f' (y / 128) by rw [HE.out, varGo_big f' hy, List.append_assoc]; rfl)
        have B2 := hid (show (f' = 0 → y / 128 ≤ 127) ∧ (f' = 1 → y / 128 ≤ 16383) by omega)
        have hc1 : 128 + y % 128 = y % 128 + 128 := Int.add_comm _ _
        have HC := hid hc1
        clear y2 y3 hkf hc1
        go_wp2_with (at_builtin; refine wpList_push rfl _ _ rfl rfl hown rfl (by omega) hs ?_; intro A2 c2 w2 hown2 hg2 hb2)
        have hown2' := hown2
        first | rw [HC.out] at hown2' | skip
        go_roundw
        case rel => exact ⟨f', k + 1, _, _, A2, c2, by have := HK.out; omega, rfl, rfl, hown2', by omega, by omega, B2.out.1, B2.out.2, HF.out, hbel.trans hb2⟩
        case measure => simp [intOf]; omega
  · have hb : inB 0 2097151 n = false := inB_false.2 (by omega)
    rw [varF_no h]
    clear h
    go_enter Try.func20, Try.ntmps20
    go_wp2_with fail
    refine (l6In_c _ _ _ _).mono ?_
    rintro e w' ⟨rfl, rfl⟩
    go_wp2
    go_ret
    exact PSl.mk rfl ho hbl

/-- The call hands back a number from lo to hi; what was there is as it was. -/
def PNum (w : World) (lo hi : Int) (e : Ending) (w' : World) : Prop := ∃ x : Int, e = .returned (.int .i64 x) ∧ lo ≤ x ∧ x ≤ hi ∧ Below w.heap.size w w'
/-- A number out of a list of numbers that the call has just laid. -/
theorem lit_num {w w' : World} {us : List Int} {m g z : Nat} (hm : us.length = m) (hs : m ≤ 1048576) (hgr : (w.alloc (.cells (us.map (Value.int .i64)).toArray 3)).grownBy w' (some g)) (hg : g < w.heap.size) (hz : z < m) :
    ∃ u, us[z]? = some u ∧ w'.cell? ⟨w.heap.size, z, none⟩ = some (.int .i64 u) := by
  have h := (Own.lit (base := 0) w us hm hs (Nat.zero_le _)).kept hgr (.inr (by simp; omega))
  obtain ⟨u, hu⟩ : ∃ u, us[z]? = some u := ⟨_, List.getElem?_eq_getElem (by omega)⟩
  exact ⟨u, hu, h.cellAt hu⟩

set_option maxHeartbeats 800000 in
theorem DrawVarPut_s_c (A : Option Addr) (n c B : Nat) (w : World) (h : BRow w B A n c) (hB : B ≤ w.heap.size) : Calls Try.prog 26 #[.slice A n c] w (PNum w (-1) 3000000) := by
  go_enter Try.func26, Try.ntmps26
  go_wp2_with fail
  refine (l6Open_c A n c B w h hB).mono ?_
  rintro e w1 ⟨g, rfl, hrd1, hg, hb1⟩
  go_wp2_with fail
  refine (pick_c g 0 8 _ hrd1 (by omega)).mono ?_
  rintro e w2 ⟨x, rfl, hx, hrd2, hg2⟩
  have hb2 := hb1.trans (below_grown hg2 hb1.size hg)
  by_cases hx0 : x = 0
  · subst hx0
    have hrd3 := hrd2.alloc (.cells #[.int .i64 (-1), .int .i64 0, .int .i64 127, .int .i64 128, .int .i64 16383, .int .i64 16384, .int .i64 2097151, .int .i64 2097152] 3)
    go_wp2_with fail
    refine (pick_c g _ 8 _ hrd3 (by omega)).mono ?_
    rintro e w3 ⟨z, rfl, hz, hrd4, hg4⟩
    obtain ⟨u, hu, hcu⟩ := lit_num (us := [-1, 0, 127, 128, 16383, 16384, 2097151, 2097152]) (m := 8) (z := z) rfl (by omega) hg4 hrd2.lt (by omega)
    have hub := everyB_get (lo := -1) (hi := 3000000) (by decide) hu
    have hz8 : z < 8 := by omega
    clear hu
    go_wp2
    go_ret
    exact ⟨u, rfl, hub.1, hub.2, (hb2.alloc hb2.size _).trans (below_grown hg4 (by have := hb2.size; simp; omega) hg)⟩
  · have hxb : (((x : Nat) : Int) == 0) = false := by simp; omega
    go_wp2_with fail
    refine (pick_c g _ 250 _ hrd2 (by omega)).mono ?_
    rintro e w3 ⟨y1, rfl, hy1, hrd3, hg3⟩
    go_wp2_with fail
    refine (pick_c g _ 250 _ hrd3 (by omega)).mono ?_
    rintro e w4 ⟨y2, rfl, hy2, hrd4, hg4⟩
    obtain ⟨p0, p1⟩ := mulB (a := (y1 : Int)) (A := 249) (b := 1 + (y2 : Int)) (B := 250) (by omega) (by omega) (by omega) (by omega)
    go_wp2_with fail
    refine (pick_c g _ 2 _ hrd4 (by omega)).mono ?_
    rintro e w5 ⟨y3, rfl, hy3, hrd5, hg5⟩
    go_wp2_with fail
    refine (pick_c g _ 30 _ hrd5 (by omega)).mono ?_
    rintro e w6 ⟨y4, rfl, hy4, hrd6, hg6⟩
    obtain ⟨q0, q1⟩ := mulB (a := (y3 : Int)) (A := 1) (b := (y4 : Int)) (B := 29) (by omega) (by omega) (by omega) (by omega)
    obtain ⟨r0, r1⟩ := mulB (a := (y1 : Int) * (1 + (y2 : Int))) (A := 62250) (b := 1 + (y3 : Int) * (y4 : Int)) (B := 30) (by omega) (by omega) (by omega) (by omega)
    have hb6 := (((hb2.trans (below_grown hg3 hb2.size hg)).trans (below_grown hg4 (by have := hb2.size; have := hg3.size; omega) hg)).trans (below_grown hg5 (by have := hb2.size; have := hg3.size; have := hg4.size; omega) hg)).trans (below_grown hg6 (by have := hb2.size; have := hg3.size; have := hg4.size; have := hg5.size; omega) hg)
    go_wp2
    go_ret
    exact ⟨_, rfl, by omega, by omega, hb6⟩

theorem DrawZagZig_s_c (A : Option Addr) (n c B : Nat) (w : World) (h : BRow w B A n c) (hB : B ≤ w.heap.size) : Calls Try.prog 25 #[.slice A n c] w (PNum w (-1) 3000000) := by
  go_enter Try.func25, Try.ntmps25
  go_wp2_with fail
  refine (DrawVarPut_s_c A n c B w h hB).mono ?_
  rintro e w1 ⟨x, rfl, h0, h1, hb1⟩
  go_wp2
  go_ret
  exact ⟨x, rfl, h0, h1, hb1⟩

set_option maxHeartbeats 800000 in
theorem DrawZigZag_s_c (A : Option Addr) (n c B : Nat) (w : World) (h : BRow w B A n c) (hB : B ≤ w.heap.size) : Calls Try.prog 19 #[.slice A n c] w (PNum w (-3000000) 3000000) := by
  go_enter Try.func19, Try.ntmps19
  go_wp2_with fail
  refine (l6Open_c A n c B w h hB).mono ?_
  rintro e w1 ⟨g, rfl, hrd1, hg, hb1⟩
  go_wp2_with fail
  refine (pick_c g 0 8 _ hrd1 (by omega)).mono ?_
  rintro e w2 ⟨x, rfl, hx, hrd2, hg2⟩
  have hb2 := hb1.trans (below_grown hg2 hb1.size hg)
  by_cases hx0 : x = 0
  · subst hx0
    have hrd3 := hrd2.alloc (.cells #[.int .i64 0, .int .i64 (-1), .int .i64 1048575, .int .i64 1048576, .int .i64 (-1048576), .int .i64 (-1048577)] 3)
    go_wp2_with fail
    refine (pick_c g _ 6 _ hrd3 (by omega)).mono ?_
    rintro e w3 ⟨z, rfl, hz, hrd4, hg4⟩
    obtain ⟨u, hu, hcu⟩ := lit_num (us := [0, -1, 1048575, 1048576, -1048576, -1048577]) (m := 6) (z := z) rfl (by omega) hg4 hrd2.lt (by omega)
    have hub := everyB_get (lo := -3000000) (hi := 3000000) (by decide) hu
    have hz6 : z < 6 := by omega
    clear hu
    go_wp2
    go_ret
    exact ⟨u, rfl, hub.1, hub.2, (hb2.alloc hb2.size _).trans (below_grown hg4 (by have := hb2.size; simp; omega) hg)⟩
  · have hxb : (((x : Nat) : Int) == 0) = false := by simp; omega
    go_wp2_with fail
    refine (pick_c g _ 250 _ hrd2 (by omega)).mono ?_
    rintro e w3 ⟨y1, rfl, hy1, hrd3, hg3⟩
    go_wp2_with fail
    refine (pick_c g _ 250 _ hrd3 (by omega)).mono ?_
    rintro e w4 ⟨y2, rfl, hy2, hrd4, hg4⟩
    have hp : -30000 ≤ ((y1 : Int) - 120) * (1 + (y2 : Int)) ∧ ((y1 : Int) - 120) * (1 + (y2 : Int)) ≤ 62500 := by
      obtain ⟨p0, p1⟩ := mulB (a := (y1 : Int)) (A := 249) (b := 1 + (y2 : Int)) (B := 250) (by omega) (by omega) (by omega) (by omega)
      rw [Int.sub_mul]; omega
    obtain ⟨p0, p1⟩ := hp
    have hb6 := (hb2.trans (below_grown hg3 hb2.size hg)).trans (below_grown hg4 (by have := hb2.size; have := hg3.size; omega) hg)
    go_wp2
    go_ret
    exact ⟨_, rfl, by omega, by omega, hb6⟩
end Go.Proofs.Ytaaaiagpbhiphaa
