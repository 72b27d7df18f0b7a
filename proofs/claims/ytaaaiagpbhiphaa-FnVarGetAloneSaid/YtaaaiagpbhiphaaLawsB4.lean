/- The walks of the laws on VarPut and VarGet. No condition. -/
import Derived.Test.YtaaaiagpbhiphaaVarGetL
import Derived.Test.YtaaaiagpbhiphaaDrawV
import Derived.Test.YtaaaiagpbhiphaaMark
import Derived.Deep.RegionWith
namespace Go.Proofs.Ytaaaiagpbhiphaa
open Go.RowKit

set_option maxRecDepth 100000 in
set_option maxHeartbeats 3200000 in
theorem FnVarGetAlone_walk (A : Option Addr) (n c : Nat) (w : World) (h : BRow w w.heap.size A n c) : Calls Try.prog 12 #[.slice A n c] w (PTrue w) := by
  by_cases hn : 1048576 < n
  · go_enter Try.func12, Try.ntmps12
    go_wp2
    go_ret
    exact ⟨rfl, Below.refl _ _⟩
  go_enter Try.func12, Try.ntmps12
  go_wp2_with fail
  refine (DrawVarGet_s_c A n c _ w h (Nat.le_refl _)).mono ?_
  rintro e w1 ⟨A1, n1, c1, xs, a, rfl, O1, hn1, b1⟩
  have s1 := b1.size
  obtain ⟨⟨o, e, ok⟩, hR⟩ : ∃ r, vgF xs a = r := ⟨_, rfl⟩
  have k1 := VarGet_c A1 n1 c1 _ xs a w1 O1.row
  rw [hR] at k1
  have HR := hid hR
  clear hR
  have hoo : (o == o) = true := beq_self_eq_true _
  have hee : (e == e) = true := beq_self_eq_true _
  have hoo' : (o != o) = false := by simp
  have hee' : (e != e) = false := by simp
  go_wp2_with fail
  refine k1.mono ?_
  rintro _ w2 ⟨rfl, b2⟩
  have s2 := b2.size
  have k2 := VarGet_s_c A1 n1 c1 _ xs a w2 (O1.row.below b2) s2
  rw [HR.out] at k2
  clear k1
  go_wp2_with fail
  refine k2.mono ?_
  rintro _ w3 ⟨rfl, b3⟩
  have s3 := b3.size
  clear k2
  have O3 := (O1.below b2 (Nat.le_refl _)).below b3 (Nat.le_refl _)
  have b13 := b1.trans ((b2.trans (b3.mono s2)).mono s1)
  have s13 := b13.size
  cases ok with
  | false =>
    go_wp2
    go_ret
    exact ⟨rfl, b13⟩
  | true =>
    obtain ⟨t, L, rfl, rfl, hL, o0, o1, hle, hcut, hv, hp⟩ := vgF_ok HR.out
    obtain ⟨E, hE⟩ : ∃ E : Nat, t + L = E := ⟨_, rfl⟩
    have hEI : (t : Int) + (L : Int) = (E : Int) := by omega
    rw [hEI] at hee hee' ⊢
    rw [hE] at hcut hle
    rw [O3.len] at hle
    obtain ⟨g, rfl, hg1, hg2⟩ := O3.at_ (by omega)
    have hcaps := O3.caps
    have hcm := hcaps.2
    unfold maxLen at hcm
    have hct : ¬ c1 = t := by omega
    have hcI : (E : Int) ≤ (c1 : Int) := by omega
    have hnI : (E : Int) ≤ (n1 : Int) := by omega
    have htI : (t : Int) ≤ (E : Int) := by omega
    have htI2 : (t : Int) < (E : Int) := by omega
    have hEt : (E : Int) - (t : Int) = (L : Int) := by omega
    have hETN : E - t = L := by omega
    have hrow : ∀ M, M = L → Row w3 w3.heap.size (some ⟨g, t, none⟩) M (c1 - t) (varF o) := fun M hM => by
      have := O3.row.mid (lo := t) (hi := E) (L := M) (by omega) hle (by omega)
      rw [hcut] at this; exact this
    have HE := hid hE
    have HL := hid hL
    have HCUT := hid hcut
    have HV := hid hv
    clear hE hEI hL hcut hv hle
    have k4 := VarGet_c (some ⟨g, t, none⟩) L (c1 - t) _ (varF o) 0 w3 (hrow L rfl)
    rw [vg_put o0 o1, HL.out] at k4
    have hLL : ((L : Int) == (L : Int)) = true := beq_self_eq_true _
    go_wp2_with fail
    first | rw [hETN] | skip
    refine k4.mono ?_
    rintro _ w4 ⟨rfl, b4⟩
    clear k4
    go_wp2
    go_ret
    exact ⟨rfl, b13.trans (b4.mono s13)⟩

set_option maxRecDepth 100000 in
set_option maxHeartbeats 3200000 in
theorem FnVarGetTorn_walk (A : Option Addr) (n c : Nat) (w : World) (h : BRow w w.heap.size A n c) : Calls Try.prog 13 #[.slice A n c] w (PTrue w) := by
  by_cases hn : 1048576 < n
  · go_enter Try.func13, Try.ntmps13
    go_wp2
    go_ret
    exact ⟨rfl, Below.refl _ _⟩
  go_enter Try.func13, Try.ntmps13
  go_wp2_with fail
  refine (DrawVarGet_s_c A n c _ w h (Nat.le_refl _)).mono ?_
  rintro e w1 ⟨A1, n1, c1, xs, a, rfl, O1, hn1, b1⟩
  have s1 := b1.size
  obtain ⟨⟨o, e, ok⟩, hR⟩ : ∃ r, vgF xs a = r := ⟨_, rfl⟩
  have k1 := VarGet_c A1 n1 c1 _ xs a w1 O1.row
  rw [hR] at k1
  have HR := hid hR
  clear hR
  have hoo : (o == o) = true := beq_self_eq_true _
  have hee : (e == e) = true := beq_self_eq_true _
  have hoo' : (o != o) = false := by simp
  have hee' : (e != e) = false := by simp
  go_wp2_with fail
  refine k1.mono ?_
  rintro _ w2 ⟨rfl, b2⟩
  have s2 := b2.size
  have k2 := VarGet_s_c A1 n1 c1 _ xs a w2 (O1.row.below b2) s2
  rw [HR.out] at k2
  clear k1
  go_wp2_with fail
  refine k2.mono ?_
  rintro _ w3 ⟨rfl, b3⟩
  have s3 := b3.size
  clear k2
  have O3 := (O1.below b2 (Nat.le_refl _)).below b3 (Nat.le_refl _)
  have b13 := b1.trans ((b2.trans (b3.mono s2)).mono s1)
  have s13 := b13.size
  cases ok with
  | false =>
    go_wp2
    go_ret
    exact ⟨rfl, b13⟩
  | true =>
    obtain ⟨t, L, rfl, rfl, hL, o0, o1, hle, hcut, hv, hp⟩ := vgF_ok HR.out
    obtain ⟨E, hE⟩ : ∃ E : Nat, t + L = E := ⟨_, rfl⟩
    have hEI : (t : Int) + (L : Int) = (E : Int) := by omega
    rw [hEI] at hee hee' ⊢
    rw [hE] at hcut hle
    rw [O3.len] at hle
    obtain ⟨g, rfl, hg1, hg2⟩ := O3.at_ (by omega)
    have hcaps := O3.caps
    have hcm := hcaps.2
    unfold maxLen at hcm
    have hct : ¬ c1 = t := by omega
    have hcI : (E : Int) ≤ (c1 : Int) := by omega
    have hnI : (E : Int) ≤ (n1 : Int) := by omega
    have htI : (t : Int) ≤ (E : Int) := by omega
    have htI2 : (t : Int) < (E : Int) := by omega
    have hEt : (E : Int) - (t : Int) = (L : Int) := by omega
    have hETN : E - t = L := by omega
    have hrow : ∀ M, M = L → Row w3 w3.heap.size (some ⟨g, t, none⟩) M (c1 - t) (varF o) := fun M hM => by
      have := O3.row.mid (lo := t) (hi := E) (L := M) (by omega) hle (by omega)
      rw [hcut] at this; exact this
    have HE := hid hE
    have HL := hid hL
    have HCUT := hid hcut
    have HV := hid hv
    clear hE hEI hL hcut hv hle
    obtain ⟨F, rfl⟩ : ∃ F, E = F + 1 := ⟨E - 1, by omega⟩
    have hF := vgF_torn (xs := xs) (t := t) (L := L) (n := o) o0 o1 HL.out (by have := O3.len; have := HE.out; omega) (by rw [HE.out]; exact HCUT.out) HV.out hp
    rw [HE.out, Nat.add_sub_cancel] at hF
    have k4 := VarGet_c (some ⟨g, 0, none⟩) F c1 _ (xs.take F) (t : Int) w3 (O3.row.pre (k := F) (by omega))
    rw [hF] at k4
    have hFc : (F : Int) ≤ (c1 : Int) := by omega
    have hc0 : ¬ c1 = 0 := by omega
    clear hF
    go_wp2_with fail
    refine k4.mono ?_
    rintro _ w4 ⟨rfl, b4⟩
    clear k4
    go_wp2
    go_ret
    exact ⟨rfl, b13.trans (b4.mono s13)⟩


end Go.Proofs.Ytaaaiagpbhiphaa
