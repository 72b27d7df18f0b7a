/- Contracts of joined runs: of the program and of the reference. No condition. -/
import Derived.Test.YtlmbeinifnafaaaRuns
import Derived.Test.YtlmbeinifnafaaaPushAt
import Derived.IntWalk
namespace Go.Proofs.Ytlmbeinifnafaaa
open Go.RowKit
set_option linter.unusedVariables false

/-- The symbol of the run before place k. -/
def prevR (rs : List (Int × Int)) (k : Nat) : Option Int := if k = 0 then none else (rs[k - 1]?).map (·.1)
theorem prevR_succ {rs : List (Int × Int)} {k : Nat} {r : Int × Int} (h : rs[k]? = some r) : prevR rs (k + 1) = some r.1 := by
  unfold prevR
  rw [if_neg (by omega), Nat.add_sub_cancel, h]; rfl
theorem rj_step {rs : List (Int × Int)} {k : Nat} {a : Int} {M : Nat} {ys : List Int} (hx : rs[k]? = some (a, (M : Int))) (hd : rs.drop k = (a, (M : Int)) :: rs.drop (k + 1)) (hk : okR (prevR rs k) ys.length (a, (M : Int)) = true) :
    rjA (prevR rs k) ys (rs.drop k) = rjA (prevR rs (k + 1)) (ys ++ List.replicate M a) (rs.drop (k + 1)) := by
  rw [hd, rjA_yes hk, prevR_succ hx, Int.toNat_natCast]
theorem rj_bad {rs : List (Int × Int)} {k : Nat} {r : Int × Int} {ys : List Int} (hd : rs.drop k = r :: rs.drop (k + 1)) (hk : okR (prevR rs k) ys.length r = false) : rjA (prevR rs k) ys (rs.drop k) = ([], false) := by
  rw [hd, rjA_no hk]
theorem rep_push (ys : List Int) (j : Nat) (a : Int) : ys ++ List.replicate (j + 1) a = (ys ++ List.replicate j a) ++ [a] := by
  rw [List.replicate_succ', List.append_assoc]

/-- The inner loop of the program under way: j of M symbols a are behind ys; the box of the run lies in block g0. -/
structure JIn (w wx : World) (g0 t M : Nat) (a : Int) (ys : List Int) (j T : Nat) (E : Option Addr) (e : Nat) : Prop where
  many : j ≤ M
  len : T = t + j
  own : Own wx w.heap.size E T e (ys ++ List.replicate j a)
  ne : E.map (·.block) ≠ some g0
  lt : g0 < wx.heap.size
  cell : wx.cell? ⟨g0, 0, none⟩ = some (.int .i64 a)
  bel : Below w.heap.size w wx
/-- .. of the reference. -/
structure JIs (w wx : World) (t M : Nat) (a : Int) (ys : List Int) (j T : Nat) (E : Option Addr) (e : Nat) : Prop where
  many : j ≤ M
  len : T = t + j
  own : Own wx w.heap.size E T e (ys ++ List.replicate j a)
  bel : Below w.heap.size w wx
theorem Own.litE {W : World} {base H : Nat} (hH : W.heap.size = H) (hb : base ≤ W.heap.size) : Own (W.alloc (.cells #[] 3)) base (some ⟨H, 0, none⟩) 0 0 [] := by
  subst hH
  exact Own.lit W [] rfl (by omega) hb
theorem within_q (n lo hi : Int) (w : World) (k : Nat) : Calls Try.prog 36 #[.int .i64 n, .int .i64 lo, .int .i64 hi] (w.drewN k) fun e w' => e = .returned (.bool (inB lo hi n)) ∧ w' = w.drewN k :=
  (within_c n lo hi _).mono fun _ _ ⟨a, b⟩ => ⟨a, b.symm⟩
set_option maxHeartbeats 6400000 in
theorem RunsJoin_c (A : Option Addr) (n c B : Nat) (rs : List (Int × Int)) (w : World) (h : RowR w B A n c rs) (hB : B ≤ w.heap.size) : Calls Try.prog 12 #[.slice A n c] w (PSlB w (rjF rs)) := by
  have hsm := h.small
  have ho0 : Own (w.alloc (.cells #[] 3)) w.heap.size (some ⟨w.heap.size, 0, none⟩) 0 0 [] := Own.lit w [] rfl (by omega) (Nat.le_refl _)
  have hb0 : Below w.heap.size w (w.alloc (.cells #[] 3)) := (Below.refl _ _).alloc (Nat.le_refl _) _
  go_enter Try.func12, Try.ntmps12
  go_wp2_with fail
  go_loopw [4, 10] (fun v i wr => ∃ (k t : Nat) (D : Option Addr) (d : Nat) (ys : List Int), k ≤ n ∧ t ≤ 40 ∧ v = .slice D t d ∧ i = .int .i64 (k : Int) ∧ Own wr w.heap.size D t d ys ∧ rjF rs = rjA (prevR rs k) ys (rs.drop k) ∧ Below w.heap.size w wr) (fun _ i _ => n - (intOf i).toNat)
  case atStart => exact ⟨0, 0, _, 0, [], Nat.zero_le _, by omega, rfl, rfl, ho0, rfl, hb0⟩
  case round =>
    obtain ⟨k, t, D, d, ys, hk, ht, rfl, rfl, hown, he, hbel⟩ := hrel
    have hsz := hbel.size
    have hyl := hown.len
    by_cases hlt : k < n
    · obtain ⟨b, off, a, q, rfl, hbb, hc1, hc2, hx, hd⟩ := (h.below (hbel.mono hB)).step hlt
      have hkI : (k : Int) < (n : Int) := by omega
      have hnb : ¬ b = wr.heap.size := by omega
      have hnb2 : b < wr.heap.size := by omega
      have q1 : IntKind.i64.wrap (40 - (t : Int)) = 40 - (t : Int) := IntWalk.i64_in _ (by omega)
      rcases h1 : inB 0 7 a with _ | _
      · have HR := hid (he.trans (rj_bad hd (by rw [okR, h1]; rfl)))
        clear he hx hd hyl
        go_wp2_with fail
        go_quiet ((go_at_call 36; exact Calls.quiet_of_same (within_q _ _ _ _ _)))
        go_wp2
        go_ret2
        rw [HR.out]
        have hbq := below_drewN (hbel.alloc hsz (.cells #[.int .i64 a, .int .i64 q] 43)) nq
        exact PSlB.mk rfl (Own.litE (by simp) hbq.size) (hbq.alloc hbq.size _)
      rcases h2 : inB 1 (40 - (t : Int)) q with _ | _
      · have HR := hid (he.trans (rj_bad hd (by rw [okR, hyl, h1, h2]; rfl)))
        clear he hx hd hyl
        go_wp2_with fail
        go_quiet ((go_at_call 36; exact Calls.quiet_of_same (within_q _ _ _ _ _)))
        go_wp2
        go_ret2
        rw [HR.out]
        have hbq := below_drewN (hbel.alloc hsz (.cells #[.int .i64 a, .int .i64 q] 43)) nq
        exact PSlB.mk rfl (Own.litE (by simp) hbq.size) (hbq.alloc hbq.size _)
      have hq := inB_iff.1 h2
      obtain ⟨M, rfl⟩ := Int.eq_ofNat_of_zero_le (by omega : 0 ≤ q)
      have HX := hid hx
      by_cases hk0 : k = 0
      · subst hk0
        have hok : okR (prevR rs 0) ys.length (a, (M : Int)) = true := by rw [okR, hyl, h1, h2]; rfl
        have HR := hid (he.trans (rj_step hx hd hok))
        have hgt : ¬ (0 : Int) < 0 := by omega
        have hgd : decide ((0 : Int) < 0) = false := by simp
        have hc10 : wr.cell? ⟨b, off, none⟩ = some (.int .i64 a) := by simpa using hc1
        have hc20 : wr.cell? ⟨b, off + 1, none⟩ = some (.int .i64 (M : Int)) := by simpa using hc2
        have hn0 : (0 : Int) < (n : Int) := by omega
        have q2 : True := trivial
        have q3 : True := trivial
        clear he hx hd hyl hok
        go_wp2_with fail
        go_quiet ((go_at_call 36; exact Calls.quiet_of_same (within_q _ _ _ _ _)))
        obtain ⟨g0, hg0⟩ : ∃ g0, wr.heap.size = g0 := ⟨_, rfl⟩
        have hbox : (((wr.alloc (.cells #[.int .i64 a, .int .i64 (M : Int)] 43))).drewN nq).cell? ⟨g0, 0, none⟩ = some (.int .i64 a) := by
          rw [← hg0]
          exact cell_of_row _ _ _ _ _ _ (heap_alloc_new wr _)
        have hneD : D.map (·.block) ≠ some g0 := by
          intro e
          have := hown.row
          rcases hown.form with ⟨rfl, _⟩ | ⟨g8, _, rfl, _, h8, _⟩
          · cases e
          · injection e with e; simp only at e; omega
        have hownq := (hown.alloc (.cells #[.int .i64 a, .int .i64 (M : Int)] 43)).drewN nq
        have hbelq := below_drewN (hbel.alloc hsz (.cells #[.int .i64 a, .int .i64 (M : Int)] 43)) nq
        have hszq : g0 < (((wr.alloc (.cells #[.int .i64 a, .int .i64 (M : Int)] 43))).drewN nq).heap.size := by rw [← hg0]; simp
        clear q1 q2 q3
        go_wp2_with fail
        go_loopw [4, 46] (fun v i wx => ∃ (j T : Nat) (E : Option Addr) (e : Nat), v = .slice E T e ∧ i = .int .i64 (j : Int) ∧ JIn w wx g0 t M a ys j T E e) (fun _ i _ => M - (intOf i).toNat)
        case atStart => exact ⟨0, t, D, d, rfl, rfl, Nat.zero_le _, rfl, by rw [List.replicate_zero, List.append_nil]; exact hownq, hneD, hszq, hbox, hbelq⟩
        case round =>
          obtain ⟨j, T, E, e, rfl, rfl, hj, hT, hownx, hneE, hgx, hbx, hbelx⟩ := hrel
          have hszx := hbelx.size
          have HZ := hid hT
          have hTb : T ≤ t + j := by omega
          clear hT
          by_cases hjM : j < M
          · go_wp2_with (at_builtin; refine wpList_push_at rfl _ _ rfl rfl hownx rfl rfl (by omega) hszx ?_; intro E2 e2 w2 hown2 hg2 hb2 hne2)
            go_roundw
            case rel => exact ⟨j + 1, T + 1, E2, e2, by first | rfl | exact ⟨rfl, rfl, rfl⟩, by first | go_num | omega, by omega, by have := HZ.out; omega, by rw [rep_push]; exact hown2, hne2 g0 hgx hneE, Nat.lt_of_lt_of_le hgx hg2.size, hg2.cell hbx (fun e => hneE e.symm), hbelx.trans hb2⟩
            case measure => simp [intOf]; omega
          · obtain rfl : j = M := by omega
            go_wp2
            go_roundw
            case rel => exact ⟨0 + 1, T, E, e, _, by omega, by omega, rfl, by go_num, hownx, HR.out, hbelx⟩
            case measure => simp [intOf]; omega
      obtain ⟨k, rfl⟩ : ∃ r, k = r + 1 := ⟨k - 1, by omega⟩
      obtain ⟨⟨a0, m0⟩, hx0⟩ : ∃ r, rs[k]? = some r := ⟨_, List.getElem?_eq_getElem (by rw [h.len]; omega)⟩
      obtain ⟨b', off', e', -, hcell⟩ := (h.below (hbel.mono hB)).at_ (by omega)
      injection e' with e'; injection e' with e1 e2; subst e1; subst e2
      have hca := (hcell k _ hx0).1
      have hpv : prevR rs (k + 1) = some a0 := prevR_succ hx0
      have hk1 : (0 : Int) < (k : Int) + 1 := by omega
      have hk2 : (k : Int) + 1 < (n : Int) := by omega
      have hk3 : (k : Int) < (n : Int) := by omega
      have hk4 : (0 : Int) ≤ (k : Int) := by omega
      have hk5 : (0 : Int) ≤ (k : Int) + 1 := by omega
      have q2 : IntKind.i64.wrap ((k : Int) + 1 - 1) = (k : Int) := by rw [IntWalk.i64_in _ (by omega)]; omega
      have q3 : IntKind.i64.wrap (k : Int) = (k : Int) := IntWalk.i64_in _ (by omega)
      clear hcell hk0 hx0
      by_cases hea : a0 = a
      · have HR := hid (he.trans (rj_bad hd (by rw [okR, hyl, h1, h2, hpv, hea]; simp)))
        subst hea
        have heb : (a0 == a0) = true := by simp
        clear he hx hd hyl hpv
        go_wp2_with fail
        go_quiet ((go_at_call 36; exact Calls.quiet_of_same (within_q _ _ _ _ _)))
        go_wp2
        go_ret2
        rw [HR.out]
        have hbq := below_drewN (hbel.alloc hsz (.cells #[.int .i64 a0, .int .i64 (M : Int)] 43)) nq
        exact PSlB.mk rfl (Own.litE (by simp) hbq.size) (hbq.alloc hbq.size _)
      · have hok : okR (prevR rs (k + 1)) ys.length (a, (M : Int)) = true := by rw [okR, hyl, h1, h2, hpv]; simp [hea]
        have HR := hid (he.trans (rj_step hx hd hok))
        have heb : (a0 == a) = false := by simpa using hea
        clear he hx hd hyl hok hpv
        go_wp2_with fail
        go_quiet ((go_at_call 36; exact Calls.quiet_of_same (within_q _ _ _ _ _)))
        obtain ⟨g0, hg0⟩ : ∃ g0, wr.heap.size = g0 := ⟨_, rfl⟩
        have hbox : (((wr.alloc (.cells #[.int .i64 a, .int .i64 (M : Int)] 43))).drewN nq).cell? ⟨g0, 0, none⟩ = some (.int .i64 a) := by
          rw [← hg0]
          exact cell_of_row _ _ _ _ _ _ (heap_alloc_new wr _)
        have hneD : D.map (·.block) ≠ some g0 := by
          intro e
          have := hown.row
          rcases hown.form with ⟨rfl, _⟩ | ⟨g8, _, rfl, _, h8, _⟩
          · cases e
          · injection e with e; simp only at e; omega
        have hownq := (hown.alloc (.cells #[.int .i64 a, .int .i64 (M : Int)] 43)).drewN nq
        have hbelq := below_drewN (hbel.alloc hsz (.cells #[.int .i64 a, .int .i64 (M : Int)] 43)) nq
        have hszq : g0 < (((wr.alloc (.cells #[.int .i64 a, .int .i64 (M : Int)] 43))).drewN nq).heap.size := by rw [← hg0]; simp
        clear q1 q2 q3
        go_wp2_with fail
        go_loopw [4, 46] (fun v i wx => ∃ (j T : Nat) (E : Option Addr) (e : Nat), v = .slice E T e ∧ i = .int .i64 (j : Int) ∧ JIn w wx g0 t M a ys j T E e) (fun _ i _ => M - (intOf i).toNat)
        case atStart => exact ⟨0, t, D, d, rfl, rfl, Nat.zero_le _, rfl, by rw [List.replicate_zero, List.append_nil]; exact hownq, hneD, hszq, hbox, hbelq⟩
        case round =>
          obtain ⟨j, T, E, e, rfl, rfl, hj, hT, hownx, hneE, hgx, hbx, hbelx⟩ := hrel
          have hszx := hbelx.size
          have HZ := hid hT
          have hTb : T ≤ t + j := by omega
          clear hT
          by_cases hjM : j < M
          · go_wp2_with (at_builtin; refine wpList_push_at rfl _ _ rfl rfl hownx rfl rfl (by omega) hszx ?_; intro E2 e2 w2 hown2 hg2 hb2 hne2)
            go_roundw
            case rel => exact ⟨j + 1, T + 1, E2, e2, by first | rfl | exact ⟨rfl, rfl, rfl⟩, by first | go_num | omega, by omega, by have := HZ.out; omega, by rw [rep_push]; exact hown2, hne2 g0 hgx hneE, Nat.lt_of_lt_of_le hgx hg2.size, hg2.cell hbx (fun e => hneE e.symm), hbelx.trans hb2⟩
            case measure => simp [intOf]; omega
          · obtain rfl : j = M := by omega
            go_wp2
            go_roundw
            case rel => exact ⟨k + 1 + 1, T, E, e, _, by omega, by omega, rfl, by go_num, hownx, HR.out, hbelx⟩
            case measure => simp [intOf]; omega
    · obtain rfl : k = n := by omega
      have hd := h.full (k := k) (Nat.le_refl _)
      have HR := hid (show rjF rs = (ys, true) by rw [he, hd]; rfl)
      clear he hd
      go_wp2
      go_ret2
      rw [HR.out]
      exact PSlB.mk hyl hown hbel

theorem l6In_q (n lo hi : Int) (w : World) (k : Nat) : Calls Try.prog 37 #[.int .i64 n, .int .i64 lo, .int .i64 hi] (w.drewN k) fun e w' => e = .returned (.bool (inB lo hi n)) ∧ w' = w.drewN k :=
  (l6In_c n lo hi _).mono fun _ _ ⟨a, b⟩ => ⟨a, b.symm⟩
set_option maxHeartbeats 6400000 in
theorem RunsJoin_s_c (A : Option Addr) (n c B : Nat) (rs : List (Int × Int)) (w : World) (h : RowR w B A n c rs) (hB : B ≤ w.heap.size) : Calls Try.prog 13 #[.slice A n c] w (PSlB w (rjF rs)) := by
  have hsm := h.small
  have ho0 : Own (w.alloc (.cells #[] 3)) w.heap.size (some ⟨w.heap.size, 0, none⟩) 0 0 [] := Own.lit w [] rfl (by omega) (Nat.le_refl _)
  have hb0 : Below w.heap.size w (w.alloc (.cells #[] 3)) := (Below.refl _ _).alloc (Nat.le_refl _) _
  go_enter Try.func13, Try.ntmps13
  go_wp2_with fail
  go_loopw [4, 5] (fun v i wr => ∃ (k t : Nat) (D : Option Addr) (d : Nat) (ys : List Int), k ≤ n ∧ t ≤ 40 ∧ v = .slice D t d ∧ i = .int .i64 (k : Int) ∧ Own wr w.heap.size D t d ys ∧ rjF rs = rjA (prevR rs k) ys (rs.drop k) ∧ Below w.heap.size w wr) (fun _ i _ => n - (intOf i).toNat)
  case atStart => exact ⟨0, 0, _, 0, [], Nat.zero_le _, by omega, rfl, rfl, ho0, rfl, hb0⟩
  case round =>
    obtain ⟨k, t, D, d, ys, hk, ht, rfl, rfl, hown, he, hbel⟩ := hrel
    have hsz := hbel.size
    have hyl := hown.len
    by_cases hlt : k < n
    · obtain ⟨b, off, a, q, rfl, hbb, hc1, hc2, hx, hd⟩ := (h.below (hbel.mono hB)).step hlt
      have hkI : (k : Int) < (n : Int) := by omega
      have hnb : ¬ b = wr.heap.size := by omega
      have hnb2 : b < wr.heap.size := by omega
      have q1 : IntKind.i64.wrap (40 - (t : Int)) = 40 - (t : Int) := IntWalk.i64_in _ (by omega)
      rcases h1 : inB 0 7 a with _ | _
      · have HR := hid (he.trans (rj_bad hd (by rw [okR, h1]; rfl)))
        clear he hx hd hyl
        go_wp2_with fail
        go_quiet ((go_at_call 37; exact Calls.quiet_of_same (l6In_q _ _ _ _ _)))
        go_wp2
        go_ret2
        rw [HR.out]
        have hbq := below_drewN hbel nq
        exact PSlB.mk rfl (Own.litE (by simp) hbq.size) (hbq.alloc hbq.size _)
      rcases h2 : inB 1 (40 - (t : Int)) q with _ | _
      · have HR := hid (he.trans (rj_bad hd (by rw [okR, hyl, h1, h2]; rfl)))
        clear he hx hd hyl
        go_wp2_with fail
        go_quiet ((go_at_call 37; exact Calls.quiet_of_same (l6In_q _ _ _ _ _)))
        go_wp2
        go_ret2
        rw [HR.out]
        have hbq := below_drewN hbel nq
        exact PSlB.mk rfl (Own.litE (by simp) hbq.size) (hbq.alloc hbq.size _)
      have hq := inB_iff.1 h2
      obtain ⟨M, rfl⟩ := Int.eq_ofNat_of_zero_le (by omega : 0 ≤ q)
      have HX := hid hx
      by_cases hk0 : k = 0
      · subst hk0
        have hok : okR (prevR rs 0) ys.length (a, (M : Int)) = true := by rw [okR, hyl, h1, h2]; rfl
        have HR := hid (he.trans (rj_step hx hd hok))
        have hgt : ¬ (0 : Int) < 0 := by omega
        have hgd : decide ((0 : Int) < 0) = false := by simp
        have hc10 : wr.cell? ⟨b, off, none⟩ = some (.int .i64 a) := by simpa using hc1
        have hc20 : wr.cell? ⟨b, off + 1, none⟩ = some (.int .i64 (M : Int)) := by simpa using hc2
        have hn0 : (0 : Int) < (n : Int) := by omega
        have q2 : True := trivial
        have q3 : True := trivial
        clear he hx hd hyl hok
        go_wp2_with fail
        go_quiet ((go_at_call 37; exact Calls.quiet_of_same (l6In_q _ _ _ _ _)))
        have hownq := hown.drewN nq
        have hbelq := below_drewN hbel nq
        clear q1 q2 q3
        go_wp2_with fail
        go_loopw [4, 6] (fun v i wx => ∃ (j T : Nat) (E : Option Addr) (e : Nat), v = .slice E T e ∧ i = .int .i64 (j : Int) ∧ JIs w wx t M a ys j T E e) (fun _ i _ => M - (intOf i).toNat)
        case atStart => exact ⟨0, t, D, d, rfl, rfl, Nat.zero_le _, rfl, by rw [List.replicate_zero, List.append_nil]; exact hownq, hbelq⟩
        case round =>
          obtain ⟨j, T, E, e, rfl, rfl, hj, hT, hownx, hbelx⟩ := hrel
          have hszx := hbelx.size
          have HZ := hid hT
          have hTb : T ≤ t + j := by omega
          clear hT
          obtain ⟨b', off', e', -, hcell'⟩ := (h.below (hbelx.mono hB)).at_ (by omega)
          injection e' with e'; injection e' with e1 e2; subst e1; subst e2
          obtain ⟨hz1, hz2⟩ := hcell' 0 _ HX.out
          have hz10 : wr.cell? ⟨b, off, none⟩ = some (.int .i64 a) := by simpa using hz1
          have hz20 : wr.cell? ⟨b, off + 1, none⟩ = some (.int .i64 (M : Int)) := by simpa using hz2
          clear hcell'
          by_cases hjM : j < M
          · go_wp2_with (at_builtin; refine wpList_push rfl _ _ rfl rfl hownx rfl (by omega) hszx ?_; intro E2 e2 w2 hown2 hg2 hb2)
            go_roundw
            case rel => exact ⟨j + 1, T + 1, E2, e2, by first | rfl | exact ⟨rfl, rfl, rfl⟩, by first | go_num | omega, by omega, by have := HZ.out; omega, by rw [rep_push]; exact hown2, hbelx.trans hb2⟩
            case measure => simp [intOf]; omega
          · obtain rfl : j = M := by omega
            go_wp2
            go_roundw
            case rel => exact ⟨0 + 1, T, E, e, _, by omega, by omega, rfl, by go_num, hownx, HR.out, hbelx⟩
            case measure => simp [intOf]; omega
      obtain ⟨k, rfl⟩ : ∃ r, k = r + 1 := ⟨k - 1, by omega⟩
      obtain ⟨⟨a0, m0⟩, hx0⟩ : ∃ r, rs[k]? = some r := ⟨_, List.getElem?_eq_getElem (by rw [h.len]; omega)⟩
      obtain ⟨b', off', e', -, hcell⟩ := (h.below (hbel.mono hB)).at_ (by omega)
      injection e' with e'; injection e' with e1 e2; subst e1; subst e2
      have hca := (hcell k _ hx0).1
      have hpv : prevR rs (k + 1) = some a0 := prevR_succ hx0
      have hk1 : (0 : Int) < (k : Int) + 1 := by omega
      have hk2 : (k : Int) + 1 < (n : Int) := by omega
      have hk3 : (k : Int) < (n : Int) := by omega
      have hk4 : (0 : Int) ≤ (k : Int) := by omega
      have hk5 : (0 : Int) ≤ (k : Int) + 1 := by omega
      have q2 : IntKind.i64.wrap ((k : Int) + 1 - 1) = (k : Int) := by rw [IntWalk.i64_in _ (by omega)]; omega
      have q3 : IntKind.i64.wrap (k : Int) = (k : Int) := IntWalk.i64_in _ (by omega)
      clear hcell hk0 hx0
      by_cases hea : a0 = a
      · have HR := hid (he.trans (rj_bad hd (by rw [okR, hyl, h1, h2, hpv, hea]; simp)))
        subst hea
        have heb : (a0 == a0) = true := by simp
        clear he hx hd hyl hpv
        go_wp2_with fail
        go_quiet ((go_at_call 37; exact Calls.quiet_of_same (l6In_q _ _ _ _ _)))
        go_wp2
        go_ret2
        rw [HR.out]
        have hbq := below_drewN hbel nq
        exact PSlB.mk rfl (Own.litE (by simp) hbq.size) (hbq.alloc hbq.size _)
      · have hok : okR (prevR rs (k + 1)) ys.length (a, (M : Int)) = true := by rw [okR, hyl, h1, h2, hpv]; simp [hea]
        have HR := hid (he.trans (rj_step hx hd hok))
        have heb : (a0 == a) = false := by simpa using hea
        clear he hx hd hyl hok hpv
        go_wp2_with fail
        go_quiet ((go_at_call 37; exact Calls.quiet_of_same (l6In_q _ _ _ _ _)))
        have hownq := hown.drewN nq
        have hbelq := below_drewN hbel nq
        clear q1 q2 q3
        go_wp2_with fail
        go_loopw [4, 6] (fun v i wx => ∃ (j T : Nat) (E : Option Addr) (e : Nat), v = .slice E T e ∧ i = .int .i64 (j : Int) ∧ JIs w wx t M a ys j T E e) (fun _ i _ => M - (intOf i).toNat)
        case atStart => exact ⟨0, t, D, d, rfl, rfl, Nat.zero_le _, rfl, by rw [List.replicate_zero, List.append_nil]; exact hownq, hbelq⟩
        case round =>
          obtain ⟨j, T, E, e, rfl, rfl, hj, hT, hownx, hbelx⟩ := hrel
          have hszx := hbelx.size
          have HZ := hid hT
          have hTb : T ≤ t + j := by omega
          clear hT
          obtain ⟨b', off', e', -, hcell'⟩ := (h.below (hbelx.mono hB)).at_ (by omega)
          injection e' with e'; injection e' with e1 e2; subst e1; subst e2
          obtain ⟨hz1, hz2⟩ := hcell' (k + 1) _ HX.out
          clear hcell'
          by_cases hjM : j < M
          · go_wp2_with (at_builtin; refine wpList_push rfl _ _ rfl rfl hownx rfl (by omega) hszx ?_; intro E2 e2 w2 hown2 hg2 hb2)
            go_roundw
            case rel => exact ⟨j + 1, T + 1, E2, e2, by first | rfl | exact ⟨rfl, rfl, rfl⟩, by first | go_num | omega, by omega, by have := HZ.out; omega, by rw [rep_push]; exact hown2, hbelx.trans hb2⟩
            case measure => simp [intOf]; omega
          · obtain rfl : j = M := by omega
            go_wp2
            go_roundw
            case rel => exact ⟨k + 1 + 1, T, E, e, _, by omega, by omega, rfl, by go_num, hownx, HR.out, hbelx⟩
            case measure => simp [intOf]; omega
    · obtain rfl : k = n := by omega
      have hd := h.full (k := k) (Nat.le_refl _)
      have HR := hid (show rjF rs = (ys, true) by rw [he, hd]; rfl)
      clear he hd
      go_wp2
      go_ret2
      rw [HR.out]
      exact PSlB.mk hyl hown hbel
end Go.Proofs.Ytlmbeinifnafaaa
