/- Contracts of the longest run: of the program and of the reference. No condition. -/
import Derived.Test.YtlmbeinifnafaaaRuns2
namespace Go.Proofs.Ytlmbeinifnafaaa
open Go.RowKit
set_option linter.unusedVariables false

theorem mxL_cons (y : Int) (r : Int × Int) (rs : List (Int × Int)) : mxL y (r :: rs) = mxL (max y r.2) rs := rfl
set_option maxHeartbeats 800000 in
theorem RunsLongest_c (A : Option Addr) (n c B : Nat) (xs : List Int) (w : World) (h : Row w B A n c xs) (hB : B ≤ w.heap.size) : Calls Try.prog 20 #[.slice A n c] w (fun e w' => e = .returned (.int .i64 (longF xs)) ∧ Below w.heap.size w w') := by
  rcases hv : listV xs with _ | _
  · rw [longF_no hv]
    go_enter Try.func20, Try.ntmps20
    go_wp2_with fail
    refine (ListValid_c A n c B xs _ h).mono ?_
    rintro e w' ⟨rfl, rfl⟩
    go_wp2
    go_ret
    exact ⟨rfl, Below.refl _ _⟩
  · rw [longF_yes hv]
    have hl40 : (runsF xs).length ≤ 40 := Nat.le_trans (runsF_le xs) (listV_iff.1 hv).1
    go_enter Try.func20, Try.ntmps20
    go_wp2_with fail
    refine (ListValid_c A n c B xs _ h).mono ?_
    rintro e w' ⟨rfl, rfl⟩
    go_wp2_with fail
    refine (RunsOf_c A n c B xs w h hB).mono ?_
    rintro e w1 ⟨D, d, rfl, hown, hb1⟩
    have hrow := hown.row
    have hs1 := hb1.size
    obtain ⟨rs, hrs⟩ : ∃ rs, runsF xs = rs := ⟨_, rfl⟩
    rw [hrs] at hrow hl40 ⊢
    obtain ⟨m, hm⟩ : ∃ m, rs.length = m := ⟨_, rfl⟩
    rw [hm]
    rw [hm] at hrow hl40
    have HRS := hid hrs
    clear hrs hown hm
    go_wp2_with fail
    go_loopw [3, 12] (fun v i wr => ∃ (k : Nat) (y : Int), k ≤ m ∧ v = .int .i64 y ∧ i = .int .i64 (k : Int) ∧ mxL 0 rs = mxL y (rs.drop k) ∧ Below w1.heap.size w1 wr) (fun _ i _ => m - (intOf i).toNat)
    case atStart => exact ⟨0, 0, Nat.zero_le _, rfl, rfl, rfl, Below.refl _ _⟩
    case round =>
      obtain ⟨k, y, hk, rfl, rfl, he, hbel⟩ := hrel
      have HE := hid he
      have hsz := hbel.size
      clear he
      by_cases hlt : k < m
      · obtain ⟨b, off, a, q, rfl, hbb, hc1, hc2, hx, hd⟩ := (hrow.below hbel).step hlt
        have HD := hid hd
        clear hx hd
        by_cases hyq : y < q
        · have HM := hid (show max y q = q by omega)
          go_wp2
          all_goals
            go_roundw
            case rel => exact ⟨k + 1, q, by omega, rfl, by go_num, by rw [HE.out, HD.out, mxL_cons, HM.out], hbel.alloc hsz _⟩
            case measure => simp [intOf]; omega
        · have HM := hid (show max y q = y by omega)
          go_wp2
          all_goals
            go_roundw
            case rel => exact ⟨k + 1, y, by omega, rfl, by go_num, by rw [HE.out, HD.out, mxL_cons, HM.out], hbel.alloc hsz _⟩
            case measure => simp [intOf]; omega
      · have hd := hrow.full (k := k) (by omega)
        have e : mxL 0 rs = y := by rw [HE.out, hd]; rfl
        have HS := hid e
        clear hd e
        go_wp2
        go_ret
        exact ⟨by rw [HRS.out, HS.out]; rfl, hb1.trans (hbel.mono hs1)⟩

set_option maxHeartbeats 800000 in
theorem RunsLongest_s_c (A : Option Addr) (n c B : Nat) (xs : List Int) (w : World) (h : Row w B A n c xs) (hB : B ≤ w.heap.size) : Calls Try.prog 18 #[.slice A n c] w (fun e w' => e = .returned (.int .i64 (longF xs)) ∧ Below w.heap.size w w') := by
  rcases hv : listV xs with _ | _
  · rw [longF_no hv]
    go_enter Try.func18, Try.ntmps18
    go_wp2_with fail
    refine (ListValid_s_c A n c B xs _ h).mono ?_
    rintro e w' ⟨rfl, rfl⟩
    go_wp2
    go_ret
    exact ⟨rfl, Below.refl _ _⟩
  · rw [longF_yes hv]
    have hl40 : (runsF xs).length ≤ 40 := Nat.le_trans (runsF_le xs) (listV_iff.1 hv).1
    have h40 := (listV_iff.1 hv).1
    rw [h.len] at h40
    rw [runsF_yes hv] at hl40 ⊢
    go_enter Try.func18, Try.ntmps18
    go_wp2_with fail
    refine (ListValid_s_c A n c B xs _ h).mono ?_
    rintro e w' ⟨rfl, rfl⟩
    go_wp2_with fail
    refine (l4Runs_c A n c B xs w h hB h40).mono ?_
    rintro e w1 ⟨D, d, rfl, hown, hb1⟩
    have hrow := hown.row
    have hs1 := hb1.size
    obtain ⟨rs, hrs⟩ : ∃ rs, runsL xs = rs := ⟨_, rfl⟩
    rw [hrs] at hrow hl40 ⊢
    obtain ⟨m, hm⟩ : ∃ m, rs.length = m := ⟨_, rfl⟩
    rw [hm]
    rw [hm] at hrow hl40
    have HRS := hid hrs
    clear hrs hown hm
    go_wp2_with fail
    go_loopw [3, 5] (fun v i wr => ∃ (k : Nat) (y : Int), k ≤ m ∧ v = .int .i64 y ∧ i = .int .i64 (k : Int) ∧ mxL 0 rs = mxL y (rs.drop k) ∧ wr = w1) (fun _ i _ => m - (intOf i).toNat)
    case atStart => exact ⟨0, 0, Nat.zero_le _, rfl, rfl, rfl, rfl⟩
    case round =>
      obtain ⟨k, y, hk, rfl, rfl, he, rfl⟩ := hrel
      have HE := hid he
      clear he
      by_cases hlt : k < m
      · obtain ⟨b, off, a, q, rfl, hbb, hc1, hc2, hx, hd⟩ := hrow.step hlt
        have HD := hid hd
        clear hx hd
        by_cases hyq : y < q
        · have HM := hid (show max y q = q by omega)
          go_wp2
          all_goals
            go_roundw
            case rel => exact ⟨k + 1, q, by omega, rfl, by go_num, by rw [HE.out, HD.out, mxL_cons, HM.out], trivial⟩
            case measure => simp [intOf]; omega
        · have HM := hid (show max y q = y by omega)
          go_wp2
          all_goals
            go_roundw
            case rel => exact ⟨k + 1, y, by omega, rfl, by go_num, by rw [HE.out, HD.out, mxL_cons, HM.out], trivial⟩
            case measure => simp [intOf]; omega
      · have hd := hrow.full (k := k) (by omega)
        have e : mxL 0 rs = y := by rw [HE.out, hd]; rfl
        have HS := hid e
        clear hd e
        go_wp2
        go_ret
        exact ⟨by rw [HRS.out, HS.out]; rfl, hb1⟩
end Go.Proofs.Ytlmbeinifnafaaa
