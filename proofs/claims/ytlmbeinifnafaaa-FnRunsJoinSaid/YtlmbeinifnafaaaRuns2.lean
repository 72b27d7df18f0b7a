/- Contracts of the reference's runs of a list, and of the longest run. No condition. -/
import Derived.Test.YtlmbeinifnafaaaRuns
import Derived.IntWalk
namespace Go.Proofs.Ytlmbeinifnafaaa
open Go.RowKit
set_option linter.unusedVariables false

set_option maxHeartbeats 1600000 in
theorem l4Runs_c (A : Option Addr) (n c B : Nat) (xs : List Int) (w : World) (h : Row w B A n c xs) (hB : B ≤ w.heap.size) (h40 : n ≤ 40) : Calls Try.prog 39 #[.slice A n c] w (PSR w (runsL xs)) := by
  have hsm := h.small
  have ho0 : OwnR (w.alloc (.cells #[] 43)) w.heap.size (some ⟨w.heap.size, 0, none⟩) 0 0 [] := OwnR.empty w (Nat.le_refl _)
  have hb0 : Below w.heap.size w (w.alloc (.cells #[] 43)) := (Below.refl _ _).alloc (Nat.le_refl _) _
  go_enter Try.func39, Try.ntmps39
  go_wp2_with fail
  go_loopw [3, 4] (fun v i wr => ∃ (k m : Nat) (D : Option Addr) (d : Nat) (rs : List (Int × Int)), k ≤ n ∧ m ≤ k ∧ v = .slice D m d ∧ i = .int .i64 (k : Int) ∧ OwnR wr w.heap.size D m d rs ∧ RunSt xs k rs ∧ Below w.heap.size w wr) (fun _ i _ => n - (intOf i).toNat)
  case atStart => exact ⟨0, 0, _, 0, [], Nat.zero_le _, Nat.le_refl _, rfl, rfl, ho0, rfl, hb0⟩
  case round =>
    obtain ⟨k, m, D, d, rs, hk, hmk, rfl, rfl, hown, hst, hbel⟩ := hrel
    have hsz := hbel.size
    have hml := hown.len
    have HM := hid hml
    clear hml
    by_cases hlt : k < n
    · obtain ⟨b, off, x, rfl, hbb, hcx, hx, hd⟩ := (h.below (hbel.mono hB)).step hlt
      have hkI : (k : Int) < (n : Int) := by omega
      by_cases hk0 : k = 0
      · subst hk0
        obtain rfl : m = 0 := by omega
        obtain rfl : rs = [] := by simpa [RunSt] using hst
        have HR := hid (RunSt.first hx)
        have hcx0 : wr.cell? ⟨b, off, none⟩ = some (.int .i64 x) := hcx
        have hnI : (0 : Int) < (n : Int) := by omega
        clear hx hd hst
        go_wp2_with fail
        go_quiet (fail)
        have hownq := hown.drewN nq
        go_wp2_with (at_builtin; refine wpList_pushR rfl _ _ rfl rfl hownq rfl (by omega) hsz ?_; intro D2 d2 w2 hown2 hg2 hb2)
        go_roundw
        case rel => exact ⟨1, 1, _, d2, [(x, 1)], by omega, by omega, rfl, by go_num, hown2, HR.out, (below_drewN hbel nq).trans hb2⟩
        case measure => simp [intOf]; omega
      · obtain ⟨k, rfl⟩ : ∃ q, k = q + 1 := ⟨k - 1, by omega⟩
        obtain ⟨rs', a, q, rfl, ha, hq1, hq2, he⟩ := hst.pos
        obtain ⟨b', off', e', -, hcell⟩ := (h.below (hbel.mono hB)).at_ (by omega)
        injection e' with e'; injection e' with e1 e2; subst e1; subst e2
        have hca := hcell k a ha
        have hk0b : (0 : Int) < (k : Int) + 1 := by omega
        have hk1 : (k : Int) + 1 < (n : Int) := by omega
        have hk2 : (k : Int) < (n : Int) := by omega
        have hk3 : (0 : Int) ≤ (k : Int) := by omega
        have hk4 : (0 : Int) ≤ (k : Int) + 1 := by omega
        have hw1 : IntKind.i64.wrap ((k : Int) + 1 - 1) = (k : Int) := by rw [IntWalk.i64_in _ (by omega)]; omega
        have hw2 : ((k : Int) + 1).toNat = k + 1 := by omega
        clear hcell ha hst hk0
        by_cases hxa : x = a
        · subst hxa
          have hne : (x == x) = true := by simp
          obtain ⟨m, rfl⟩ : ∃ r, m = r + 1 := ⟨rs'.length, by have := HM.out; rw [List.length_append] at this; exact this.symm⟩
          have hml : rs'.length = m := by have := HM.out; rw [List.length_append] at this; simpa using this
          obtain ⟨g2, rfl, hg2b, -⟩ := hown.at_ (by omega)
          have hcl := hown.cells (get_last hml)
          have hc2 := hcl.2
          have hf2 := hown.frozenAt (m * 2 + 1)
          have hst2 := hown.stored2 (get_last hml) (q + 1)
          rw [set_last hml] at hst2
          have HS := hid hst2
          have HR := hid (RunSt.same hx hq1 hq2 hd he)
          clear hcl hst2 hx hd he hml
          go_wp2_with fail
          go_quiet (fail)
          clear hw1 hw2
          have hmI : (0 : Int) ≤ (m : Int) := by omega
          have hmI2 : (m : Int) < (m : Int) + 1 := by omega
          go_wp2
          go_roundw
          case rel => exact ⟨k + 1 + 1, m + 1, _, d, _, by omega, by omega, rfl, by go_num, HS.out.drewN nq, HR.out, below_drewN (hbel.setCell (p := ⟨g2, m * 2 + 1, none⟩) hg2b _) nq⟩
          case measure => simp [intOf]; omega
        · have hne : (x == a) = false := by simpa using hxa
          have HR := hid (RunSt.other hx hxa hd he)
          clear hx hd he
          go_wp2_with fail
          go_quiet (fail)
          clear hw1 hw2
          have hownq := hown.drewN nq
          go_wp2_with (at_builtin; refine wpList_pushR rfl _ _ rfl rfl hownq rfl (by omega) hsz ?_; intro D2 d2 w2 hown2 hg2 hb2)
          go_roundw
          case rel => exact ⟨k + 1 + 1, m + 1, _, d2, _, by omega, by omega, rfl, by go_num, hown2, HR.out, (below_drewN hbel nq).trans hb2⟩
          case measure => simp [intOf]; omega
    · obtain rfl : k = n := by omega
      have HH := hid (hst.done h.len)
      go_wp2
      go_ret
      rw [HH.out]
      exact PSR.mk HM.out hown hbel

theorem RunsOf_s_c (A : Option Addr) (n c B : Nat) (xs : List Int) (w : World) (h : Row w B A n c xs) (hB : B ≤ w.heap.size) : Calls Try.prog 29 #[.slice A n c] w (PSR w (runsF xs)) := by
  rcases hv : listV xs with _ | _
  · rw [runsF_no hv]
    go_enter Try.func29, Try.ntmps29
    go_wp2_with fail
    refine (ListValid_s_c A n c B xs _ h).mono ?_
    rintro e w' ⟨rfl, rfl⟩
    go_wp2
    go_ret
    exact PSR.mk rfl (OwnR.empty w (Nat.le_refl _)) ((Below.refl _ _).alloc (Nat.le_refl _) _)
  · rw [runsF_yes hv]
    have h40 := (listV_iff.1 hv).1
    rw [h.len] at h40
    go_enter Try.func29, Try.ntmps29
    go_wp2_with fail
    refine (ListValid_s_c A n c B xs _ h).mono ?_
    rintro e w' ⟨rfl, rfl⟩
    go_wp2_with fail
    refine (l4Runs_c A n c B xs w h hB h40).mono ?_
    rintro e w2 ⟨D, d, rfl, hown, hbel⟩
    go_wp2
    go_ret
    exact ⟨D, d, rfl, hown, hbel⟩
end Go.Proofs.Ytlmbeinifnafaaa
