/- Contracts of the draws of lists. No condition. -/
import Derived.Test.YtlmbeinifnafaaaDraw
import Derived.Deep.DeepCutAuto
namespace Go.Proofs.Ytlmbeinifnafaaa
open Go.RowKit

/-- What is known of the list under way in l91List: after i rounds at most 8 times i numbers. -/
structure LL (w wr : World) (g p i m : Nat) (A : Option Addr) (c : Nat) (xs : List Int) : Prop where
  own : Own wr w.heap.size A m c xs
  many : m ≤ 8 * i
  rd : ∃ q, q ≤ p + 10 + 4 * i ∧ Rd wr g q
  gr : w.grownBy wr (some g)

/-- A number out of a list of numbers that the call has just laid. -/
theorem lit_cell' {w w' : World} {us : List Int} {m g z : Nat} (hm : us.length = m) (hs : m ≤ 1048576) (hgr : (w.alloc (.cells (us.map (Value.int .i64)).toArray 3)).grownBy w' (some g)) (hg : g < w.heap.size) (hz : z < m) :
    ∃ u, us[z]? = some u ∧ w'.cell? ⟨w.heap.size, z, none⟩ = some (.int .i64 u) := by
  have h := (Own.lit (base := 0) w us hm hs (Nat.zero_le _)).kept hgr (.inr (by simp; omega))
  obtain ⟨u, hu⟩ : ∃ u, us[z]? = some u := ⟨_, List.getElem?_eq_getElem (by omega)⟩
  exact ⟨u, hu, h.cellAt hu⟩

set_option maxRecDepth 100000 in
set_option maxHeartbeats 3200000 in
theorem l91List_c (g p : Nat) (w : World) (h : Rd w g p) (hp : p ≤ 900000) : Calls Try.prog 34 #[.pointer (some ⟨g, 0, none⟩)] w (PDraw w g p 1000) := by
  have hgl := h.lt
  go_enter Try.func34, Try.ntmps34
  go_wp2_with fail
  have hrd0 := h.alloc (.cells #[] 3)
  have hgr0 := grown_alloc (World.grownBy.refl w (some g)) (.cells #[] 3)
  have hown0 : Own (w.alloc (.cells #[] 3)) w.heap.size (some ⟨w.heap.size, 0, none⟩) 0 0 [] := Own.lit w [] rfl (by omega) (Nat.le_refl _)
  refine (pick_c g p 8 _ hrd0 (by omega)).mono ?_
  rintro e w1 ⟨x1, rfl, hx1, hrd1, hg1⟩
  go_wp2_with fail
  refine (pick_c g _ 20 _ hrd1 (by omega)).mono ?_
  rintro e w2 ⟨x2, rfl, hx2, hrd2, hg2⟩
  have hgr2 := grown_trans (grown_trans hgr0 hg1) hg2
  have hown2 := (hown0.grown hg1 hgl).grown hg2 hgl
  go_upto_if 16 with fail
  go_cut [4] (fun v wx => ∃ n : Nat, v = .int .i64 (n : Int) ∧ n ≤ 40 ∧ wx = w2)
  case first =>
    by_cases hx0 : x2 = 0
    · subst hx0
      go_wp2_with fail
      go_meet
      exact ⟨40, rfl, by omega, rfl⟩
    · have hxb : (((x2 : Nat) : Int) == 0) = false := by simp; omega
      go_wp2_with fail
      go_meet
      exact ⟨x1, rfl, by omega, rfl⟩
  case rest =>
    obtain ⟨n, rfl, hn, rfl⟩ := hcut
    go_wp2_with fail
    refine (pick_c g _ 8 _ hrd2 (by omega)).mono ?_
    rintro e w3 ⟨x3, rfl, hx3, hrd3, hg3⟩
    have hgr3 := grown_trans hgr2 hg3
    have hown3 := hown2.grown hg3 hgl
    go_wp2_with fail
    go_loopw [3, 6] (fun v i wr => ∃ (k m : Nat) (A : Option Addr) (c : Nat) (xs : List Int), k ≤ n ∧ i = .int .i64 k ∧ v = .slice A m c ∧ LL w wr g p k m A c xs) (fun _ i _ => n - (intOf i).toNat)
    case atStart => exact ⟨0, 0, _, 0, [], Nat.zero_le _, rfl, rfl, hown3, Nat.zero_le _, ⟨_, by omega, hrd3⟩, hgr3⟩
    case round =>
      obtain ⟨k, m, A, c, xs, hk, rfl, rfl, hll⟩ := hrel
      obtain ⟨q, hq, hrd⟩ := hll.rd
      have hown := hll.own
      have hgr := hll.gr
      have hm := hll.many
      by_cases hlt : k < n
      case neg =>
        go_upto_region 22 with fail
        go_cut [80] (fun v wx => ∃ b : Bool, v = .bool b ∧ (b = true → 40 < m) ∧ Own wx w.heap.size A m c xs ∧ (∃ q', q' ≤ p + 200 ∧ Rd wx g q') ∧ w.grownBy wx (some g))
        case first =>
          by_cases hm4 : 40 < m
          · have hmI : (40 : Int) < (m : Int) := by omega
            go_wp2_with fail
            refine (pick_c g _ 6 _ hrd (by omega)).mono ?_
            rintro e w4 ⟨y, rfl, hy, hrd4, hg4⟩
            go_wp2_with fail
            go_meet
            exact ⟨_, rfl, fun _ => hm4, hown.grown hg4 hgl, ⟨_, by omega, hrd4⟩, grown_trans hgr hg4⟩
          · have hmI : ¬ (40 : Int) < (m : Int) := by omega
            have hmd : decide ((40 : Int) < (m : Int)) = false := by simp; omega
            go_wp2_with fail
            go_meet
            exact ⟨false, rfl, (fun e => by cases e), hown, ⟨_, by omega, hrd⟩, hgr⟩
        case rest =>
          obtain ⟨b, rfl, hb, hownb, ⟨qb, hqb, hrdb⟩, hgrb⟩ := hcut
          clear hrd hgr hown hll hq
          go_upto_if 80 with fail
          go_cut [3] (fun v wx => ∃ (m' : Nat) (A' : Option Addr) (c' : Nat) (xs' : List Int), v = .slice A' m' c' ∧ m' ≤ 320 ∧ Own wx w.heap.size A' m' c' xs' ∧ (∃ q', q' ≤ p + 200 ∧ Rd wx g q') ∧ w.grownBy wx (some g))
          case first =>
            cases b with
            | false =>
              go_wp2_with fail
              go_meet
              exact ⟨m, A, c, xs, rfl, by omega, hownb, ⟨qb, hqb, hrdb⟩, hgrb⟩
            | true =>
              have h40 := hb rfl
              have hcaps := hownb.caps
              obtain ⟨g1, rfl, -⟩ := hownb.at_ (by omega)
              have hcI : (40 : Int) ≤ (c : Int) := by omega
              have hc0 : ¬ c = 0 := by omega
              clear hcaps
              go_wp2_with fail
              go_meet
              exact ⟨40, _, c, _, rfl, by omega, hownb.pre (k := 40) (by omega), ⟨qb, hqb, hrdb⟩, hgrb⟩
          case rest =>
            obtain ⟨m5, A5, c5, xs5, rfl, hm5, hown5, ⟨q5, hq5, hrd5⟩, hgr5⟩ := hcut
            clear hownb hrdb hgrb hb
            by_cases hm0 : m5 = 0
            · subst hm0
              go_wp2
              go_ret
              exact PDraw.mk hown5 (by omega) hrd5 (by omega) hgr5
            · have hmI : (0 : Int) < (m5 : Int) := by omega
              go_wp2_with fail
              refine (pick_c g _ 40 _ hrd5 (by omega)).mono ?_
              rintro e w6 ⟨y, rfl, hy, hrd6, hg6⟩
              have hown6 := hown5.grown hg6 hgl
              have hgr6 := grown_trans hgr5 hg6
              by_cases hy0 : y = 0
              · subst hy0
                go_wp2_with fail
                refine (pick_c g _ _ _ hrd6 (by omega)).mono ?_
                rintro e w7 ⟨x, rfl, hx, hrd7, hg7⟩
                have hown7 := hown6.grown hg7 hgl
                have hgr7 := grown_trans hgr6 hg7
                have hown8 := hown7.alloc (.cells #[.int .i64 (-1), .int .i64 8] 3)
                have hrd8 := hrd7.alloc (.cells #[.int .i64 (-1), .int .i64 8] 3)
                go_wp2_with fail
                refine (pick_c g _ 2 _ hrd8 (by omega)).mono ?_
                rintro e w9 ⟨z, rfl, hz, hrd9, hg9⟩
                have hown9 := hown8.grown hg9 hgl
                have hgr9 := grown_trans (grown_alloc hgr7 _) hg9
                obtain ⟨u, -, hcu⟩ := lit_cell' (us := [-1, 8]) (m := 2) (z := z) rfl (by omega) hg9 hrd7.lt (by omega)
                obtain ⟨g2, rfl, hg2b, hg2l⟩ := hown9.at_ (by omega)
                obtain ⟨t, ht⟩ : ∃ t, xs5[x]? = some t := ⟨_, List.getElem?_eq_getElem (by rw [hown5.len]; omega)⟩
                have hct := hown9.cellAt ht
                have hft := hown9.frozenAt x
                have hz2 : z < 2 := by omega
                have hxm : x < m5 := by omega
                clear ht
                go_wp2
                go_ret
                refine PDraw.mk (hown9.stored x u) (by omega) (hrd9.below ((Below.refl _ _).setCell (Nat.le_refl _) _) (by show g < g2; omega)) (by omega) ?_
                exact grown_below hgr9 ((Below.refl _ _).setCell (p := ⟨g2, x, none⟩) (Nat.le_refl _) _) (by show w.heap.size ≤ g2; omega)
              · have hyb : (((y : Nat) : Int) == 0) = false := by simp; omega
                go_wp2
                go_ret
                exact PDraw.mk hown6 (by omega) hrd6 (by omega) hgr6
      go_wp2_with fail
      refine (pick_c g _ 4 _ hrd (by omega)).mono ?_
      rintro e w4 ⟨y, rfl, hy, hrd4, hg4⟩
      have hown4 := hown.grown hg4 hgl
      have hgr4 := grown_trans hgr hg4
      have hsz4 := hgr4.size
      by_cases hy0 : y = 0
      · subst hy0
        go_wp2_with fail
        refine (pick_c g _ 6 _ hrd4 (by omega)).mono ?_
        rintro e w5 ⟨z, rfl, hz, hrd5, hg5⟩
        go_wp2_with fail
        refine (pick_c g _ _ _ hrd5 (by omega)).mono ?_
        rintro e w6 ⟨sy, rfl, hsy, hrd6, hg6⟩
        have hown6 := (hown4.grown hg5 hgl).grown hg6 hgl
        have hgr6 := grown_trans (grown_trans hgr4 hg5) hg6
        have hz6 : z < 6 := by omega
        go_wp2_with fail
        go_loopw [3, 9] (fun v j wr => ∃ (t : Nat) (A : Option Addr) (c : Nat) (ys : List Int), t ≤ 1 + z ∧ j = .int .i64 t ∧ v = .slice A (m + t) c ∧ Own wr w.heap.size A (m + t) c ys ∧ Rd wr g (q + 1 + 1 + 1) ∧ w.grownBy wr (some g)) (fun _ j _ => 1 + z - (intOf j).toNat)
        case atStart => exact ⟨0, A, c, xs, Nat.zero_le _, rfl, rfl, hown6, hrd6, hgr6⟩
        case round =>
          obtain ⟨t, A', c', ys, ht, rfl, rfl, hown7, hrd7, hgr7⟩ := hrel
          have hsz7 := hgr7.size
          by_cases htz : t < 1 + z
          · go_wp2_with (at_builtin; refine wpList_push rfl _ _ rfl rfl hown7 rfl (by omega) hsz7 ?_; intro A8 c8 w8 hown8 hg8 hb8)
            go_roundw
            case rel => exact ⟨t + 1, A8, c8, _, by omega, by go_num, rfl, hown8, hrd7.below hb8 hgl, grown_below hgr7 hb8 (Nat.le_refl _)⟩
            case measure => simp [intOf]; omega
          · go_wp2
            go_roundw
            case rel => exact ⟨k + 1, m + t, A', c', ys, by omega, by go_num, rfl, hown7, by omega, ⟨_, by omega, hrd7⟩, hgr7⟩
            case measure => simp [intOf]; omega
      have hyb0 : (((y : Nat) : Int) == 0) = false := by simp; omega
      by_cases hy1 : y = 1
      · subst hy1
        by_cases hm1 : 1 < m
        case neg =>
          have hmd : decide ((1 : Int) < (m : Int)) = false := by simp; omega
          have hmI : ¬ (1 : Int) < (m : Int) := by omega
          go_wp2
          go_roundw
          case rel => exact ⟨k + 1, m, A, c, xs, by omega, by go_num, rfl, hown4, by omega, ⟨_, by omega, hrd4⟩, hgr4⟩
          case measure => simp [intOf]; omega
        have hmI : (1 : Int) < (m : Int) := by omega
        go_wp2_with fail
        refine (pick_c g _ _ _ hrd4 (by omega)).mono ?_
        rintro e w5 ⟨z, rfl, hz, hrd5, hg5⟩
        go_wp2_with fail
        refine (pick_c g _ 7 _ hrd5 (by omega)).mono ?_
        rintro e w6 ⟨s7, rfl, hs7, hrd6, hg6⟩
        have hown6 := (hown4.grown hg5 hgl).grown hg6 hgl
        have hgr6 := grown_trans (grown_trans hgr4 hg5) hg6
        have hsz6 := hgr6.size
        obtain ⟨g9, rfl, -⟩ := hown6.at_ (by omega)
        have hcaps := hown6.caps
        have hcm := hcaps.1
        have hcz : ¬ c = z := by omega
        have hcI : (m : Int) ≤ (c : Int) := by omega
        clear hcaps
        by_cases hmin : z + 2 + s7 ≤ m
        · have hminI : (z : Int) + 2 + (s7 : Int) ≤ (m : Int) := by omega
          go_wp2_with (at_builtin; refine wpList_join rfl _ _ rfl rfl hown6 rfl (hown6.row.mid (lo := z) (hi := z + 2 + s7) (by omega) hmin (by omega)) (by omega) hsz6 ?_; intro A8 c8 w8 hown8 hg8 hb8)
          go_roundw
          case rel => exact ⟨k + 1, _, A8, c8, _, by omega, by go_num, rfl, hown8, by omega, ⟨_, by omega, hrd6.below hb8 hgl⟩, grown_below hgr6 hb8 (Nat.le_refl _)⟩
          case measure => simp [intOf]; omega
        · have hminI : (m : Int) < (z : Int) + 2 + (s7 : Int) := by omega
          go_wp2_with (at_builtin; refine wpList_join rfl _ _ rfl rfl hown6 rfl (hown6.row.mid (lo := z) (hi := m) (by omega) (Nat.le_refl _) (by omega)) (by omega) hsz6 ?_; intro A8 c8 w8 hown8 hg8 hb8)
          go_roundw
          case rel => exact ⟨k + 1, _, A8, c8, _, by omega, by go_num, rfl, hown8, by omega, ⟨_, by omega, hrd6.below hb8 hgl⟩, grown_below hgr6 hb8 (Nat.le_refl _)⟩
          case measure => simp [intOf]; omega
      have hyb1 : (((y : Nat) : Int) == 1) = false := by simp; omega
      go_wp2_with fail
      refine (pick_c g _ _ _ hrd4 (by omega)).mono ?_
      rintro e w5 ⟨z, rfl, hz, hrd5, hg5⟩
      have hown5 := hown4.grown hg5 hgl
      have hgr5 := grown_trans hgr4 hg5
      have hsz5 := hgr5.size
      go_wp2_with (at_builtin; refine wpList_push rfl _ _ rfl rfl hown5 rfl (by omega) hsz5 ?_; intro A8 c8 w8 hown8 hg8 hb8)
      go_roundw
      case rel => exact ⟨k + 1, m + 1, A8, c8, _, by omega, by go_num, rfl, hown8, by omega, ⟨_, by omega, hrd5.below hb8 hgl⟩, grown_below hgr5 hb8 (Nat.le_refl _)⟩
      case measure => simp [intOf]; omega

theorem DrawRunsOf_s_c (A : Option Addr) (n c B : Nat) (w : World) (h : BRow w B A n c) (hB : B ≤ w.heap.size) : Calls Try.prog 28 #[.slice A n c] w (PList w 1000) := by
  go_enter Try.func28, Try.ntmps28
  go_wp2_with fail
  refine (l6Open_c A n c B w h hB).mono ?_
  rintro e w1 ⟨g, rfl, hrd1, hg, hb1⟩
  go_wp2_with fail
  refine (l91List_c g 0 _ hrd1 (by omega)).mono ?_
  rintro e w2 ⟨A2, n2, c2, xs, p2, rfl, hown2, hn2, hrd2, hp2, hg2⟩
  go_wp2
  go_ret
  exact ⟨_, _, _, _, rfl, hown2.mono hb1.size, hn2, hb1.trans (below_grown hg2 hb1.size hg)⟩
theorem DrawRunsLongest_s_c (A : Option Addr) (n c B : Nat) (w : World) (h : BRow w B A n c) (hB : B ≤ w.heap.size) : Calls Try.prog 32 #[.slice A n c] w (PList w 1000) := by
  go_enter Try.func32, Try.ntmps32
  go_wp2_with fail
  refine (l6Open_c A n c B w h hB).mono ?_
  rintro e w1 ⟨g, rfl, hrd1, hg, hb1⟩
  go_wp2_with fail
  refine (l91List_c g 0 _ hrd1 (by omega)).mono ?_
  rintro e w2 ⟨A2, n2, c2, xs, p2, rfl, hown2, hn2, hrd2, hp2, hg2⟩
  go_wp2
  go_ret
  exact ⟨_, _, _, _, rfl, hown2.mono hb1.size, hn2, hb1.trans (below_grown hg2 hb1.size hg)⟩
end Go.Proofs.Ytlmbeinifnafaaa
