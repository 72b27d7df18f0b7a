/- The walks of the laws on the runs of a list. No condition. -/
import Derived.Test.YtlmbeinifnafaaaRuns3
import Derived.Test.YtlmbeinifnafaaaRunsJ
import Derived.Test.YtlmbeinifnafaaaBaseR
import Derived.Test.YtlmbeinifnafaaaDrawL
import Derived.IntWalk
namespace Go.Proofs.Ytlmbeinifnafaaa
open Go.RowKit
set_option linter.unusedVariables false

theorem drop_cons' {xs : List Int} {k : Nat} {x : Int} (h : xs[k]? = some x) : ∃ y, y = x ∧ xs.drop k = x :: xs.drop (k + 1) := by
  have hl := (List.getElem?_eq_some_iff.1 h).1
  have := List.drop_eq_getElem_cons hl
  rw [(List.getElem?_eq_some_iff.1 h).2] at this
  exact ⟨x, rfl, this⟩
/-- How many runs have been seen behind the first k numbers: t, of m in all. -/
def CntSt (xs : List Int) (m k t : Nat) : Prop :=
  if k = 0 then t = 0 ∧ m = (runsL xs).length else t ≤ k ∧ ∃ a, xs[k - 1]? = some a ∧ m = t + chg a (xs.drop k)
theorem runs_chg {xs : List Int} (h : listV xs = true) : CntSt xs (runsF xs).length 0 0 := by
  unfold CntSt
  rw [if_pos rfl, runsF_yes h]
  exact ⟨rfl, rfl⟩
theorem CntSt.le {xs : List Int} {m k t : Nat} (h : CntSt xs m k t) : t ≤ k := by
  unfold CntSt at h
  split at h
  · omega
  · exact h.1
theorem CntSt.first {xs : List Int} {m t : Nat} {x : Int} (h : CntSt xs m 0 t) (hx : xs[0]? = some x) : CntSt xs m 1 (t + 1) := by
  unfold CntSt at h ⊢
  rw [if_pos rfl] at h
  rw [if_neg (by omega)]
  obtain ⟨rfl, hm⟩ := h
  refine ⟨Nat.le_refl _, x, hx, ?_⟩
  cases xs with
  | nil => simp at hx
  | cons y ys =>
    simp at hx; subst hx
    rw [hm, show runsL (y :: ys) = rG y 1 ys from rfl, rG_len]; rfl
theorem CntSt.same {xs : List Int} {m k t : Nat} {x l : Int} (h : CntSt xs m (k + 1) t) (hx : xs[k + 1]? = some x) (hl : xs[k]? = some l) (e : x = l) : CntSt xs m (k + 1 + 1) t := by
  unfold CntSt at h ⊢
  rw [if_neg (by omega)] at h
  rw [if_neg (by omega)]
  obtain ⟨h0, a, ha, hm⟩ := h
  rw [Nat.add_sub_cancel, hl] at ha
  injection ha with ha
  subst ha
  subst e
  obtain ⟨y, hy, hd⟩ := drop_cons' hx
  refine ⟨by omega, x, hx, ?_⟩
  rw [hm, hd, chg, if_pos rfl, Nat.zero_add]
theorem CntSt.other {xs : List Int} {m k t : Nat} {x l : Int} (h : CntSt xs m (k + 1) t) (hx : xs[k + 1]? = some x) (hl : xs[k]? = some l) (e : ¬ x = l) : CntSt xs m (k + 1 + 1) (t + 1) := by
  unfold CntSt at h ⊢
  rw [if_neg (by omega)] at h
  rw [if_neg (by omega)]
  obtain ⟨h0, a, ha, hm⟩ := h
  rw [Nat.add_sub_cancel, hl] at ha
  injection ha with ha
  subst ha
  obtain ⟨y, hy, hd⟩ := drop_cons' hx
  refine ⟨by omega, x, hx, ?_⟩
  rw [hm, hd, chg, if_neg e]; omega
theorem CntSt.done {xs : List Int} {m n t : Nat} (h : CntSt xs m n t) (hl : xs.length = n) : m = t := by
  unfold CntSt at h
  by_cases e : n = 0
  · rw [if_pos e] at h
    rw [List.eq_nil_of_length_eq_zero (hl.trans e)] at h
    rw [h.1, h.2]; rfl
  · rw [if_neg e] at h
    obtain ⟨_, a, _, hm⟩ := h
    rw [List.drop_eq_nil_of_le (by omega)] at hm
    rw [hm]; rfl

set_option maxRecDepth 100000 in
set_option maxHeartbeats 3200000 in
theorem FnRuns_walk (A : Option Addr) (n c : Nat) (w : World) (h : BRow w w.heap.size A n c) : Calls Try.prog 10 #[.slice A n c] w (PTrue w) := by
  by_cases hn : 1048576 < n
  · go_enter Try.func10, Try.ntmps10
    go_wp2
    go_ret
    exact ⟨rfl, Below.refl _ _⟩
  go_enter Try.func10, Try.ntmps10
  go_wp2_with fail
  refine (DrawRunsOf_s_c A n c _ w h (Nat.le_refl _)).mono ?_
  rintro _ w1 ⟨A1, n1, c1, xs, rfl, O1, hn1, b1⟩
  have s1 := b1.size
  have k1 := RunsOf_c A1 n1 c1 _ xs w1 O1.row (Nat.le_refl _)
  have k2 := fun w2 h1 h2 => RunsOf_s_c A1 n1 c1 w1.heap.size xs w2 h1 h2
  have hle := runsF_le xs
  rw [O1.len] at hle
  have hlx := O1.len
  obtain ⟨rs, hrs⟩ : ∃ rs, runsF xs = rs := ⟨_, rfl⟩
  rw [hrs] at k1 k2 hle
  have HRS := hid hrs
  obtain ⟨m, hm⟩ : ∃ m, rs.length = m := ⟨_, rfl⟩
  rw [hm] at hle
  have HM := hid hm
  have HLX := hid hlx
  have hrr : (rs == rs) = true := beq_self_eq_true _
  clear hrs hm hlx
  go_wp2_with fail
  refine k1.mono ?_
  rintro _ w2 ⟨A2, c2, rfl, O2, b2⟩
  clear k1
  have s2 := b2.size
  have k2' := k2 w2 (O1.row.below b2) s2
  clear k2
  rw [HM.out] at O2
  rw [HM.out]
  go_wp2_with fail
  refine k2'.mono ?_
  rintro _ w3 ⟨A3, c3, rfl, O3, b3⟩
  clear k2'
  have s3 := b3.size
  have b13 := b1.trans ((b2.trans (b3.mono s2)).mono s1)
  rw [HM.out] at O3
  rw [HM.out]
  go_wp2_with fail
  refine (sameRuns_c _ _ _ _ _ _ _ _ _ _ w3 (O2.row.below b3) O3.row s3 (Nat.le_refl _)).mono ?_
  rintro _ w4 ⟨rfl, b4⟩
  have s4 := b4.size
  have O4 := (O1.below b2 (Nat.le_refl _)).below (b3.trans (b4.mono s3)) (Nat.le_refl _)
  have R4 := (O2.below b3 (Nat.le_refl _)).below b4 (Nat.le_refl _)
  have b14 := b13.trans (b4.mono (by omega))
  go_wp2_with fail
  refine (ListValid_s_c _ _ _ _ _ w4 O4.row).mono ?_
  rintro _ w' ⟨rfl, rfl⟩
  rcases hv : listV xs with _ | _
  · go_wp2_with fail
    refine (sameRuns_c _ _ _ _ _ _ _ _ _ _ w4 R4.row (O3.row.below b4) (Nat.le_refl _) s4).mono ?_
    rintro _ w5 ⟨rfl, b5⟩
    have hfin := b14.trans (b5.mono (by omega))
    go_wp2
    go_ret
    exact ⟨rfl, hfin⟩
  have h40 := (listV_iff.1 hv).1
  rw [HLX.out] at h40
  have k5 := RunsJoin_c A2 m c2 _ rs w4 R4.row (Nat.le_refl _)
  rw [← HRS.out, rj_runs hv] at k5
  have hXX : (xs == xs) = true := beq_self_eq_true _
  go_wp2_with fail
  refine k5.mono ?_
  rintro _ w5 ⟨A5, c5, rfl, O5, b5⟩
  clear k5
  have s5 := b5.size
  simp only [] at O5
  rw [HLX.out] at O5
  simp only [HLX.out]
  go_wp2_with fail
  refine (sameInts_c _ _ _ _ _ _ _ _ _ _ w5 O5.row (O4.row.below b5) (Nat.le_refl _) s5).mono ?_
  rintro _ w6 ⟨rfl, b6⟩
  have hfin := b14.trans ((b5.trans (b6.mono s5)).mono (by omega : w.heap.size ≤ w4.heap.size))
  go_wp2
  go_ret
  exact ⟨rfl, hfin⟩

set_option maxRecDepth 100000 in
set_option maxHeartbeats 3200000 in
theorem FnRunsCount_walk (A : Option Addr) (n c : Nat) (w : World) (h : BRow w w.heap.size A n c) : Calls Try.prog 6 #[.slice A n c] w (PTrue w) := by
  by_cases hn : 1048576 < n
  · go_enter Try.func6, Try.ntmps6
    go_wp2
    go_ret
    exact ⟨rfl, Below.refl _ _⟩
  go_enter Try.func6, Try.ntmps6
  go_wp2_with fail
  refine (DrawRunsOf_s_c A n c _ w h (Nat.le_refl _)).mono ?_
  rintro _ w1 ⟨A1, n1, c1, xs, rfl, O1, hn1, b1⟩
  have s1 := b1.size
  have k1 := RunsOf_c A1 n1 c1 _ xs w1 O1.row (Nat.le_refl _)
  have k2 := fun w2 h1 h2 => RunsOf_s_c A1 n1 c1 w1.heap.size xs w2 h1 h2
  have hle := runsF_le xs
  rw [O1.len] at hle
  have hlx := O1.len
  obtain ⟨rs, hrs⟩ : ∃ rs, runsF xs = rs := ⟨_, rfl⟩
  rw [hrs] at k1 k2 hle
  have HRS := hid hrs
  obtain ⟨m, hm⟩ : ∃ m, rs.length = m := ⟨_, rfl⟩
  rw [hm] at hle
  have HM := hid hm
  have HLX := hid hlx
  have hrr : (rs == rs) = true := beq_self_eq_true _
  clear hrs hm hlx
  go_wp2_with fail
  refine k1.mono ?_
  rintro _ w2 ⟨A2, c2, rfl, O2, b2⟩
  clear k1
  have s2 := b2.size
  have k2' := k2 w2 (O1.row.below b2) s2
  clear k2
  rw [HM.out] at O2
  rw [HM.out]
  go_wp2_with fail
  refine k2'.mono ?_
  rintro _ w3 ⟨A3, c3, rfl, O3, b3⟩
  clear k2'
  have s3 := b3.size
  have b13 := b1.trans ((b2.trans (b3.mono s2)).mono s1)
  rw [HM.out] at O3
  rw [HM.out]
  go_wp2_with fail
  refine (sameRuns_c _ _ _ _ _ _ _ _ _ _ w3 (O2.row.below b3) O3.row s3 (Nat.le_refl _)).mono ?_
  rintro _ w4 ⟨rfl, b4⟩
  have s4 := b4.size
  have O4 := (O1.below b2 (Nat.le_refl _)).below (b3.trans (b4.mono s3)) (Nat.le_refl _)
  have R4 := (O2.below b3 (Nat.le_refl _)).below b4 (Nat.le_refl _)
  have b14 := b13.trans (b4.mono (by omega))
  go_wp2_with fail
  refine (ListValid_s_c _ _ _ _ _ w4 O4.row).mono ?_
  rintro _ w' ⟨rfl, rfl⟩
  rcases hv : listV xs with _ | _
  · go_wp2_with fail
    refine (sameRuns_c _ _ _ _ _ _ _ _ _ _ w4 R4.row (O3.row.below b4) (Nat.le_refl _) s4).mono ?_
    rintro _ w5 ⟨rfl, b5⟩
    have hfin := b14.trans (b5.mono (by omega))
    go_wp2
    go_ret
    exact ⟨rfl, hfin⟩
  have h40 := (listV_iff.1 hv).1
  rw [HLX.out] at h40
  have hch := runs_chg hv
  rw [HRS.out, HM.out] at hch
  have HCH := hid hch
  clear hch
  go_wp2_with fail
  go_loopw [6, 7] (fun v i wr => ∃ k t j : Nat, k ≤ n1 ∧ v = .int .i64 (t : Int) ∧ i = .int .i64 (k : Int) ∧ CntSt xs m k t ∧ wr = w4.drewN j) (fun _ i _ => n1 - (intOf i).toNat)
  case atStart => exact ⟨0, 0, 0, by omega, rfl, rfl, HCH.out, rfl⟩
  case round =>
    obtain ⟨k, t, j, hk, rfl, rfl, hst, rfl⟩ := hrel
    by_cases hlt : k < n1
    · obtain ⟨x, hx, hd⟩ := drop_cons (xs := xs) (k := k) (by rw [HLX.out]; exact hlt)
      obtain ⟨ga, rfl, -, -⟩ := O4.at_ (by omega)
      have hcx := O4.cellAt hx
      have hkI : (k : Int) < (n1 : Int) := by omega
      have htb := hst.le
      by_cases hk0 : k = 0
      · subst hk0
        have HS := hid (hst.first hx)
        clear hx hd hst
        go_wp2_with fail
        go_quiet (fail)
        go_wp2
        go_roundw
        case rel => exact ⟨1, t + 1, _, by omega, by go_num, by go_num, HS.out, by first | rfl | simp [World.drewN_drewN]⟩
        case measure => simp [intOf]; omega
      · obtain ⟨k, rfl⟩ : ∃ q, k = q + 1 := ⟨k - 1, by omega⟩
        obtain ⟨l, hl⟩ : ∃ l, xs[k]? = some l := ⟨_, List.getElem?_eq_getElem (by rw [HLX.out]; omega)⟩
        have hcl := O4.cellAt hl
        have hk0b : ((k : Int) + 1 == 0) = false := by simp; omega
        have hk1 : (k : Int) + 1 < (n1 : Int) := by omega
        have hk2 : (k : Int) < (n1 : Int) := by omega
        have hk3 : (0 : Int) ≤ (k : Int) := by omega
        have hk4 : (0 : Int) ≤ (k : Int) + 1 := by omega
        have q1 : IntKind.i64.wrap ((k : Int) + 1 - 1) = (k : Int) := by rw [IntWalk.i64_in _ (by omega)]; omega
        have q2 : IntKind.i64.wrap (k : Int) = (k : Int) := IntWalk.i64_in _ (by omega)
        by_cases hxl : x = l
        · have HS := hid (hst.same hx hl hxl)
          subst hxl
          have hne : (x != x) = false := by simp
          clear hx hd hst hl
          go_wp2_with fail
          go_quiet (fail)
          clear q1 q2
          go_wp2
          go_roundw
          case rel => exact ⟨k + 1 + 1, t, _, by omega, by go_num, by go_num, HS.out, by first | rfl | simp [World.drewN_drewN]⟩
          case measure => simp [intOf]; omega
        · have HS := hid (hst.other hx hl hxl)
          have hne : (x != l) = true := by simpa using hxl
          clear hx hd hst hl
          go_wp2_with fail
          go_quiet (fail)
          clear q1 q2
          go_wp2
          go_roundw
          case rel => exact ⟨k + 1 + 1, t + 1, _, by omega, by go_num, by go_num, HS.out, by first | rfl | simp [World.drewN_drewN]⟩
          case measure => simp [intOf]; omega
    · obtain rfl : k = n1 := by omega
      have hmt : m = t := hst.done HLX.out
      subst hmt
      have hmm : ((m : Int) == (m : Int)) = true := beq_self_eq_true _
      clear hst
      go_wp2
      go_ret
      exact ⟨rfl, below_drewN b14 j⟩

set_option maxRecDepth 100000 in
set_option maxHeartbeats 3200000 in
theorem FnRunsDiffer_walk (A : Option Addr) (n c : Nat) (w : World) (h : BRow w w.heap.size A n c) : Calls Try.prog 7 #[.slice A n c] w (PTrue w) := by
  by_cases hn : 1048576 < n
  · go_enter Try.func7, Try.ntmps7
    go_wp2
    go_ret
    exact ⟨rfl, Below.refl _ _⟩
  go_enter Try.func7, Try.ntmps7
  go_wp2_with fail
  refine (DrawRunsOf_s_c A n c _ w h (Nat.le_refl _)).mono ?_
  rintro _ w1 ⟨A1, n1, c1, xs, rfl, O1, hn1, b1⟩
  have s1 := b1.size
  have k1 := RunsOf_c A1 n1 c1 _ xs w1 O1.row (Nat.le_refl _)
  have k2 := fun w2 h1 h2 => RunsOf_s_c A1 n1 c1 w1.heap.size xs w2 h1 h2
  have hle := runsF_le xs
  rw [O1.len] at hle
  have hlx := O1.len
  obtain ⟨rs, hrs⟩ : ∃ rs, runsF xs = rs := ⟨_, rfl⟩
  rw [hrs] at k1 k2 hle
  have HRS := hid hrs
  obtain ⟨m, hm⟩ : ∃ m, rs.length = m := ⟨_, rfl⟩
  rw [hm] at hle
  have HM := hid hm
  have HLX := hid hlx
  have hrr : (rs == rs) = true := beq_self_eq_true _
  clear hrs hm hlx
  go_wp2_with fail
  refine k1.mono ?_
  rintro _ w2 ⟨A2, c2, rfl, O2, b2⟩
  clear k1
  have s2 := b2.size
  have k2' := k2 w2 (O1.row.below b2) s2
  clear k2
  rw [HM.out] at O2
  rw [HM.out]
  go_wp2_with fail
  refine k2'.mono ?_
  rintro _ w3 ⟨A3, c3, rfl, O3, b3⟩
  clear k2'
  have s3 := b3.size
  have b13 := b1.trans ((b2.trans (b3.mono s2)).mono s1)
  rw [HM.out] at O3
  rw [HM.out]
  go_wp2_with fail
  refine (sameRuns_c _ _ _ _ _ _ _ _ _ _ w3 (O2.row.below b3) O3.row s3 (Nat.le_refl _)).mono ?_
  rintro _ w4 ⟨rfl, b4⟩
  have s4 := b4.size
  have O4 := (O1.below b2 (Nat.le_refl _)).below (b3.trans (b4.mono s3)) (Nat.le_refl _)
  have R4 := (O2.below b3 (Nat.le_refl _)).below b4 (Nat.le_refl _)
  have b14 := b13.trans (b4.mono (by omega))
  have his := runsF_is xs
  rw [HRS.out] at his
  have HI := hid his
  clear his
  go_wp2_with fail
  go_loopw [6] (fun i wr => ∃ k j : Nat, k ≤ m ∧ i = .int .i64 (k : Int) ∧ wr = w4.drewN j) (fun i _ => m - (intOf i).toNat)
  case atStart => exact ⟨0, 0, by omega, rfl, rfl⟩
  case round =>
    obtain ⟨k, j, hk, rfl, rfl⟩ := hrel
    by_cases hlt : k < m
    · obtain ⟨⟨a, q⟩, hx⟩ : ∃ r, rs[k]? = some r := ⟨_, List.getElem?_eq_getElem (by rw [HM.out]; exact hlt)⟩
      obtain ⟨ga, rfl, -, -⟩ := R4.at_ (by omega)
      obtain ⟨hc1, hc2⟩ := R4.cells hx
      have hq := HI.out.1 k _ hx
      have hq1 : ¬ q < 1 := by simp only at hq; omega
      have hqd : decide (q < 1) = false := by simpa using hq1
      have hkI : (k : Int) < (m : Int) := by omega
      by_cases hk0 : k = 0
      · subst hk0
        have hc10 : w4.cell? ⟨ga, 0, none⟩ = some (.int .i64 a) := by simpa using hc1
        have hc20 : w4.cell? ⟨ga, 1, none⟩ = some (.int .i64 q) := by simpa using hc2
        have hgd : decide ((0 : Int) < 0) = false := by simp
        have hmI : (0 : Int) < (m : Int) := by omega
        clear hx
        go_wp2_with fail
        go_quiet (fail)
        go_wp2
        go_roundw
        case rel => exact ⟨1, _, by omega, by go_num, by first | rfl | simp [World.drewN_drewN]⟩
        case measure => simp [intOf]; omega
      · obtain ⟨k, rfl⟩ : ∃ q, k = q + 1 := ⟨k - 1, by omega⟩
        obtain ⟨⟨a0, q0⟩, hl⟩ : ∃ r, rs[k]? = some r := ⟨_, List.getElem?_eq_getElem (by rw [HM.out]; omega)⟩
        obtain ⟨hl1, hl2⟩ := R4.cells hl
        have hne := HI.out.2 k _ _ hl hx
        have hnb : (a0 == a) = false := by simpa using hne
        have hk1 : (k : Int) + 1 < (m : Int) := by omega
        have hk2 : (k : Int) < (m : Int) := by omega
        have hk3 : (0 : Int) ≤ (k : Int) := by omega
        have hk4 : (0 : Int) ≤ (k : Int) + 1 := by omega
        have hk5 : (0 : Int) < (k : Int) + 1 := by omega
        have q1 : IntKind.i64.wrap ((k : Int) + 1 - 1) = (k : Int) := by rw [IntWalk.i64_in _ (by omega)]; omega
        have q2 : IntKind.i64.wrap (k : Int) = (k : Int) := IntWalk.i64_in _ (by omega)
        clear hx hl hne
        go_wp2_with fail
        go_quiet (fail)
        clear q1 q2
        go_wp2
        go_roundw
        case rel => exact ⟨k + 1 + 1, _, by omega, by go_num, by first | rfl | simp [World.drewN_drewN]⟩
        case measure => simp [intOf]; omega
    · have hfin : (m : Int) ≤ (n1 : Int) := by omega
      go_wp2
      go_ret
      exact ⟨rfl, below_drewN b14 j⟩

set_option maxRecDepth 100000 in
set_option maxHeartbeats 3200000 in
theorem FnLongest_walk (A : Option Addr) (n c : Nat) (w : World) (h : BRow w w.heap.size A n c) : Calls Try.prog 9 #[.slice A n c] w (PTrue w) := by
  by_cases hn : 1048576 < n
  · go_enter Try.func9, Try.ntmps9
    go_wp2
    go_ret
    exact ⟨rfl, Below.refl _ _⟩
  go_enter Try.func9, Try.ntmps9
  go_wp2_with fail
  refine (DrawRunsLongest_s_c A n c _ w h (Nat.le_refl _)).mono ?_
  rintro _ w1 ⟨A1, n1, c1, xs, rfl, O1, hn1, b1⟩
  have s1 := b1.size
  have k1 := RunsLongest_c A1 n1 c1 _ xs w1 O1.row (Nat.le_refl _)
  obtain ⟨o, ho⟩ : ∃ o, longF xs = o := ⟨_, rfl⟩
  have k2 := fun w2 h1 h2 => RunsLongest_s_c A1 n1 c1 w1.heap.size xs w2 h1 h2
  rw [ho] at k1 k2
  have HO := hid ho
  have hoo : (o == o) = true := beq_self_eq_true _
  have hon : (o != o) = false := by simp
  clear ho
  go_wp2_with fail
  refine k1.mono ?_
  rintro _ w2 ⟨rfl, b2⟩
  clear k1
  have s2 := b2.size
  have k2' := k2 w2 (O1.row.below b2) s2
  clear k2
  go_wp2_with fail
  refine k2'.mono ?_
  rintro _ w3 ⟨rfl, b3⟩
  clear k2'
  have s3 := b3.size
  have b13 := b1.trans ((b2.trans (b3.mono s2)).mono s1)
  have O3 := (O1.below b2 (Nat.le_refl _)).below b3 (Nat.le_refl _)
  by_cases ho0 : o < 0
  · go_wp2
    go_ret
    exact ⟨rfl, b13⟩
  have hv : listV xs = true := by
    refine Classical.byContradiction fun hno => ho0 ?_
    rw [Bool.not_eq_true] at hno
    have := HO.out
    rw [longF_no hno] at this
    omega
  have k4 := RunsOf_c A1 n1 c1 _ xs w3 O3.row (Nat.le_refl _)
  have hge := (mxL_ge (runsF xs) 0).2
  have hany := long_any hv
  have hex := longF_yes hv
  have hle := runsF_le xs
  have h40 := (listV_iff.1 hv).1
  rw [← hex, HO.out] at hge
  rw [HO.out] at hany hex
  obtain ⟨rs, hrs⟩ : ∃ rs, runsF xs = rs := ⟨_, rfl⟩
  rw [hrs] at k4 hge hany hle hex
  obtain ⟨m, hm⟩ : ∃ m, rs.length = m := ⟨_, rfl⟩
  have HM := hid hm
  have hm40 : m ≤ 40 := by omega
  have HG := hid hge
  have HA := hid hany
  have HX := hid hex
  clear hrs hm hge hany hex hle h40
  go_wp2_with fail
  refine k4.mono ?_
  rintro _ w4 ⟨A4, c4, rfl, O4, b4⟩
  clear k4
  have s4 := b4.size
  have b14 := b13.trans (b4.mono (by omega))
  rw [HM.out] at O4
  rw [HM.out]
  by_cases hm0 : m = 0
  · subst hm0
    have hnil : rs = [] := List.eq_nil_of_length_eq_zero HM.out
    obtain rfl : o = 0 := by rw [HX.out, hnil]; rfl
    clear hnil hoo hon
    go_wp2_with fail
    go_loop [7, 8] (fun v i => v = .bool true ∧ i = .int .i64 0) (fun _ _ => 0)
    case atStart => exact ⟨rfl, rfl⟩
    case round =>
      obtain ⟨rfl, rfl⟩ := hrel
      go_wp2
      go_ret
      exact ⟨rfl, b14⟩
  have hmb : ((m : Int) == 0) = false := by simp; omega
  have hne : rs ≠ [] := by
    intro e
    have := HM.out
    rw [e] at this
    exact hm0 this.symm
  have HAN := hid (HA.out hne)
  clear hne
  go_wp2_with fail
  go_loop [7, 8] (fun v i => ∃ (k : Nat) (b : Bool), k ≤ m ∧ v = .bool b ∧ i = .int .i64 (k : Int) ∧ (b || anyQ o (rs.drop k)) = true) (fun _ i => m - (intOf i).toNat)
  case atStart => exact ⟨0, false, by omega, rfl, rfl, by rw [Bool.false_or]; exact HAN.out⟩
  case round =>
    obtain ⟨k, b, hk, rfl, rfl, he⟩ := hrel
    have HE := hid he
    clear he
    by_cases hlt : k < m
    · obtain ⟨⟨a, q⟩, hx, hd⟩ := drop_consR (xs := rs) (k := k) (by rw [HM.out]; exact hlt)
      obtain ⟨ga, rfl, -, -⟩ := O4.at_ (by omega)
      obtain ⟨hc1, hc2⟩ := O4.cells hx
      have hqo := HG.out _ (List.mem_of_getElem? hx)
      have hkI : (k : Int) < (m : Int) := by omega
      have hgt : ¬ o < q := by simp only at hqo; omega
      have HD := hid hd
      clear hx hd hqo
      cases b with
      | true =>
        go_wp2
        go_round
        case rel => exact ⟨k + 1, true, by omega, rfl, by go_num, rfl⟩
        case measure => simp [intOf]; omega
      | false =>
        rcases hq : q == o with _ | _
        · have HN := hid (show (false || anyQ o (rs.drop (k + 1))) = true by have := HE.out; rw [HD.out, anyQ, List.any_cons, hq] at this; exact this)
          go_wp2
          go_round
          case rel => exact ⟨k + 1, false, by omega, rfl, by go_num, HN.out⟩
          case measure => simp [intOf]; omega
        · go_wp2
          go_round
          case rel => exact ⟨k + 1, true, by omega, rfl, by go_num, rfl⟩
          case measure => simp [intOf]; omega
    · have hd : rs.drop k = [] := List.drop_eq_nil_of_le (by rw [HM.out]; omega)
      have hb : b = true := by have := HE.out; rw [hd] at this; simpa [anyQ] using this
      subst hb
      clear hd
      go_wp2
      go_ret
      exact ⟨rfl, b14⟩
end Go.Proofs.Ytlmbeinifnafaaa
