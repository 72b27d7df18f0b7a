/- Contracts of the runs of a list: of the program and of the reference. No condition. -/
import Derived.Test.YtlmbeinifnafaaaCounts
import Derived.Test.YtlmbeinifnafaaaKitR
import Derived.Test.YtlmbeinifnafaaaRunsP
namespace Go.Proofs.Ytlmbeinifnafaaa
open Go.RowKit
set_option linter.unusedVariables false

/-- The runs under way behind the first k numbers. -/
def RunSt (xs : List Int) (k : Nat) (rs : List (Int × Int)) : Prop :=
  if k = 0 then rs = [] else ∃ rs' a q, rs = rs' ++ [(a, q)] ∧ xs[k - 1]? = some a ∧ 1 ≤ q ∧ q ≤ (k : Int) ∧ runsL xs = rs' ++ rG a q (xs.drop k)
theorem RunSt.first {xs : List Int} {x : Int} (h : xs[0]? = some x) : RunSt xs 1 [(x, 1)] := by
  unfold RunSt
  rw [if_neg (by omega)]
  refine ⟨[], x, 1, rfl, h, by omega, by omega, ?_⟩
  cases xs with
  | nil => simp at h
  | cons y ys => simp at h; subst h; rfl
theorem RunSt.pos {xs : List Int} {k : Nat} {rs : List (Int × Int)} (h : RunSt xs (k + 1) rs) : ∃ rs' a q, rs = rs' ++ [(a, q)] ∧ xs[k]? = some a ∧ 1 ≤ q ∧ q ≤ (k : Int) + 1 ∧ runsL xs = rs' ++ rG a q (xs.drop (k + 1)) := by
  unfold RunSt at h
  rw [if_neg (by omega)] at h
  obtain ⟨rs', a, q, h1, h2, h3, h4, h5⟩ := h
  exact ⟨rs', a, q, h1, h2, h3, by omega, h5⟩
theorem RunSt.same {xs : List Int} {k : Nat} {rs' : List (Int × Int)} {a q : Int} (hx : xs[k + 1]? = some a) (hq : 1 ≤ q) (hq2 : q ≤ (k : Int) + 1) (hd : xs.drop (k + 1) = a :: xs.drop (k + 1 + 1)) (he : runsL xs = rs' ++ rG a q (xs.drop (k + 1))) :
    RunSt xs (k + 1 + 1) (rs' ++ [(a, q + 1)]) := by
  unfold RunSt
  rw [if_neg (by omega)]
  exact ⟨rs', a, q + 1, rfl, hx, by omega, by omega, by rw [he, hd, rG_same rfl]⟩
theorem RunSt.other {xs : List Int} {k : Nat} {rs' : List (Int × Int)} {a q x : Int} (hx : xs[k + 1]? = some x) (hne : ¬ x = a) (hd : xs.drop (k + 1) = x :: xs.drop (k + 1 + 1)) (he : runsL xs = rs' ++ rG a q (xs.drop (k + 1))) :
    RunSt xs (k + 1 + 1) (rs' ++ [(a, q)] ++ [(x, 1)]) := by
  unfold RunSt
  rw [if_neg (by omega)]
  exact ⟨rs' ++ [(a, q)], x, 1, rfl, hx, by omega, by omega, by rw [he, hd, rG_other hne, List.append_assoc]; rfl⟩
theorem RunSt.done {xs : List Int} {n : Nat} {rs : List (Int × Int)} (h : RunSt xs n rs) (hl : xs.length = n) : runsL xs = rs := by
  unfold RunSt at h
  by_cases e : n = 0
  · rw [if_pos e] at h
    subst h
    rw [List.eq_nil_of_length_eq_zero (hl.trans e)]; rfl
  · rw [if_neg e] at h
    obtain ⟨rs', a, q, h1, h2, h3, h4, h5⟩ := h
    rw [h5, List.drop_eq_nil_of_le (by omega), h1]; rfl
theorem set_last {rs : List (Int × Int)} {r s : Int × Int} {m : Nat} (hm : rs.length = m) : (rs ++ [r]).set m s = rs ++ [s] := by
  subst hm
  rw [List.set_append_right _ _ (Nat.le_refl _), Nat.sub_self]; rfl
theorem get_last {rs : List (Int × Int)} {r : Int × Int} {m : Nat} (hm : rs.length = m) : (rs ++ [r])[m]? = some r := by
  subst hm
  rw [List.getElem?_append_right (Nat.le_refl _), Nat.sub_self]; rfl

set_option maxHeartbeats 1600000 in
theorem RunsOf_c (A : Option Addr) (n c B : Nat) (xs : List Int) (w : World) (h : Row w B A n c xs) (hB : B ≤ w.heap.size) : Calls Try.prog 16 #[.slice A n c] w (PSR w (runsF xs)) := by
  have hsm := h.small
  have ho0 : OwnR (w.alloc (.cells #[] 43)) w.heap.size (some ⟨w.heap.size, 0, none⟩) 0 0 [] := OwnR.empty w (Nat.le_refl _)
  have hb0 : Below w.heap.size w (w.alloc (.cells #[] 43)) := (Below.refl _ _).alloc (Nat.le_refl _) _
  rcases hv : listV xs with _ | _
  · rw [runsF_no hv]
    go_enter Try.func16, Try.ntmps16
    go_wp2_with fail
    refine (ListValid_c A n c B xs _ (h.below (hb0.mono hB))).mono ?_
    rintro e w' ⟨rfl, rfl⟩
    go_wp2
    go_ret
    exact PSR.mk rfl ho0 hb0
  · rw [runsF_yes hv]
    obtain ⟨h40, hev⟩ := listV_iff.1 hv
    rw [h.len] at h40
    go_enter Try.func16, Try.ntmps16
    go_wp2_with fail
    refine (ListValid_c A n c B xs _ (h.below (hb0.mono hB))).mono ?_
    rintro e w' ⟨rfl, rfl⟩
    go_wp2_with fail
    go_loopw [3, 13] (fun v i wr => ∃ (k m : Nat) (D : Option Addr) (d : Nat) (rs : List (Int × Int)), k ≤ n ∧ m ≤ k ∧ v = .slice D m d ∧ i = .int .i64 (k : Int) ∧ OwnR wr w.heap.size D m d rs ∧ RunSt xs k rs ∧ Below w.heap.size w wr) (fun _ i _ => n - (intOf i).toNat)
    case atStart => exact ⟨0, 0, _, 0, [], Nat.zero_le _, Nat.le_refl _, rfl, rfl, ho0, rfl, hb0⟩
    case round =>
      obtain ⟨k, m, D, d, rs, hk, hmk, rfl, rfl, hown, hst, hbel⟩ := hrel
      have hsz := hbel.size
      have hml := hown.len
      have HM := hid hml
      clear hml
      by_cases hlt : k < n
      · obtain ⟨b, off, x, rfl, hbb, hcx, hx, hd⟩ := (h.below (hbel.mono hB)).step hlt
        have hkI : (k : Int) < (n : Int) := by omega
        by_cases hk0 : k = 0
        · subst hk0
          obtain rfl : m = 0 := by omega
          obtain rfl : rs = [] := by simpa [RunSt] using hst
          have HR := hid (RunSt.first hx)
          have hcx0 : wr.cell? ⟨b, off, none⟩ = some (.int .i64 x) := hcx
          clear hx hd hst
          go_wp2_with (at_builtin; refine wpList_pushR rfl _ _ rfl rfl hown rfl (by omega) hsz ?_; intro D2 d2 w2 hown2 hg2 hb2; obtain ⟨g2, rfl, hg2b, -⟩ := hown2.at_ (by omega); have hcl := hown2.cells (j := 0) (a := x) (m := 0) rfl; have hc2 := hcl.2; have hf2 := hown2.frozenAt 1; have HS := hid (hown2.stored2 (j := 0) (a := x) (m := 0) rfl 1); clear hcl)
          go_roundw
          case rel => exact ⟨1, 1, _, d2, [(x, 1)], by omega, by omega, rfl, by go_num, HS.out, HR.out, (hbel.trans hb2).setCell (p := ⟨g2, 1, none⟩) hg2b _⟩
          case measure => simp [intOf]; omega
        · obtain ⟨k, rfl⟩ : ∃ q, k = q + 1 := ⟨k - 1, by omega⟩
          obtain ⟨rs', a, q, rfl, ha, hq1, hq2, he⟩ := hst.pos
          obtain ⟨b', off', e', -, hcell⟩ := (h.below (hbel.mono hB)).at_ (by omega)
          injection e' with e'; injection e' with e1 e2; subst e1; subst e2
          have hca := hcell k a ha
          have hk0b : ((k : Int) + 1 == 0) = false := by simp; omega
          have hk1 : (k : Int) + 1 < (n : Int) := by omega
          clear hcell ha hst hk0
          by_cases hxa : x = a
          · subst hxa
            have hne : (x != x) = false := by simp
            obtain ⟨m, rfl⟩ : ∃ r, m = r + 1 := ⟨rs'.length, by have := HM.out; rw [List.length_append] at this; exact this.symm⟩
            have hml : rs'.length = m := by have := HM.out; rw [List.length_append] at this; simpa using this
            obtain ⟨g2, rfl, hg2b, -⟩ := hown.at_ (by omega)
            have hcl := hown.cells (get_last hml)
            have hc2 := hcl.2
            have hf2 := hown.frozenAt (m * 2 + 1)
            have hst2 := hown.stored2 (get_last hml) (q + 1)
            rw [set_last hml] at hst2
            have HS := hid hst2
            have HR := hid (RunSt.same hx hq1 hq2 hd he)
            have hmI : (0 : Int) ≤ (m : Int) := by omega
            have hmI2 : (m : Int) < (m : Int) + 1 := by omega
            clear hcl hst2 hx hd he hml
            go_wp2
            go_roundw
            case rel => exact ⟨k + 1 + 1, m + 1, _, d, _, by omega, by omega, rfl, by go_num, HS.out, HR.out, hbel.setCell (p := ⟨g2, m * 2 + 1, none⟩) hg2b _⟩
            case measure => simp [intOf]; omega
          · have hne : (a != x) = true := by simpa using fun e : a = x => hxa e.symm
            have HR := hid (RunSt.other hx hxa hd he)
            have hmI : (0 : Int) ≤ (m : Int) := by omega
            have hmI2 : (m : Int) < (m : Int) + 1 := by omega
            clear hx hd he
            go_wp2_with (at_builtin; refine wpList_pushR rfl _ _ rfl rfl hown rfl (by omega) hsz ?_; intro D2 d2 w2 hown2 hg2 hb2; obtain ⟨g2, rfl, hg2b, -⟩ := hown2.at_ (by omega); have hcl := hown2.cells (j := m) (a := x) (m := 0) (get_last HM.out); have hc2 := hcl.2; have hf2 := hown2.frozenAt (m * 2 + 1); have HS := hid (set_last (r := (x, 0)) (s := (x, 1)) HM.out ▸ hown2.stored2 (j := m) (a := x) (m := 0) (get_last HM.out) 1); clear hcl)
            go_roundw
            case rel => exact ⟨k + 1 + 1, m + 1, _, d2, _, by omega, by omega, rfl, by go_num, HS.out, HR.out, (hbel.trans hb2).setCell (p := ⟨g2, m * 2 + 1, none⟩) hg2b _⟩
            case measure => simp [intOf]; omega
      · obtain rfl : k = n := by omega
        have HH := hid (hst.done h.len)
        go_wp2
        go_ret
        rw [HH.out]
        exact PSR.mk HM.out hown hbel
end Go.Proofs.Ytlmbeinifnafaaa
