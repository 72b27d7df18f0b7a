/- The walk of the law on VarGet. No condition. -/
import Derived.Test.YtaaaiagpbhiphaaVarGetL
import Derived.Test.YtaaaiagpbhiphaaDrawV
import Derived.Test.YtaaaiagpbhiphaaMark
import Derived.Test.YtaaaiagpbhiphaaRegF
namespace Go.Proofs.Ytaaaiagpbhiphaa
open Go.RowKit
set_option linter.unusedVariables false

/-- Kept while all that was there is as it was. -/
def Still (f : Value → World → Prop) : Prop := ∀ v w w', Below w.heap.size w w' → f v w → f v w'
theorem FEq.still (x : Value) : Still (FEq x) := fun _ _ _ _ h => h
def FOwn (b n : Nat) (xs : List Int) (v : Value) (w : World) : Prop := ∃ (A : Option Addr) (c : Nat), v = .slice A n c ∧ Own w b A n c xs
theorem FOwn.still (b n : Nat) (xs : List Int) : Still (FOwn b n xs) := fun _ _ _ hb ⟨A, c, e, h⟩ => ⟨A, c, e, h.below hb (Nat.le_refl _)⟩
theorem byNo.still : ∀ (Fs : List (Value → World → Prop)), (∀ f ∈ Fs, Still f) → ∀ (i : Nat) (v : Value) (w w' : World), Below w.heap.size w w' → byNo Fs i v w → byNo Fs i v w'
  | [], _, i, v, w, w', _, _ => trivial
  | f :: Fs, h, 0, v, w, w', hg, hf => h f List.mem_cons_self v w w' hg hf
  | f :: Fs, h, i + 1, v, w, w', hg, hf => byNo.still Fs (fun x hx => h x (List.mem_cons_of_mem _ hx)) i v w w' hg hf

set_option maxRecDepth 100000 in
set_option maxHeartbeats 3200000 in
theorem FnVarGet_walk (A : Option Addr) (n c : Nat) (w : World) (h : BRow w w.heap.size A n c) : Calls Try.prog 14 #[.slice A n c] w (PTrue w) := by
  by_cases hn : 1048576 < n
  · go_enter Try.func14, Try.ntmps14
    go_wp2
    go_ret
    exact ⟨rfl, Below.refl _ _⟩
  go_enter Try.func14, Try.ntmps14
  go_wp2_with fail
  refine (DrawVarGet_s_c A n c _ w h (Nat.le_refl _)).mono ?_
  rintro e w1 ⟨A1, n1, c1, xs, a, rfl, O1, hn1, b1⟩
  have s1 := b1.size
  obtain ⟨⟨o, e, ok⟩, hR⟩ : ∃ r, vgF xs a = r := ⟨_, rfl⟩
  have k1 := VarGet_c A1 n1 c1 _ xs a w1 O1.row
  rw [hR] at k1
  have HR := hid hR
  clear hR
  have hoo : (o == o) = true := beq_self_eq_true _
  have hee : (e == e) = true := beq_self_eq_true _
  have hoo' : (o != o) = false := by simp
  have hee' : (e != e) = false := by simp
  go_wp2_with fail
  refine k1.mono ?_
  rintro _ w2 ⟨rfl, b2⟩
  have s2 := b2.size
  have k2 := VarGet_s_c A1 n1 c1 _ xs a w2 (O1.row.below b2) s2
  rw [HR.out] at k2
  clear k1
  go_wp2_with fail
  refine k2.mono ?_
  rintro _ w3 ⟨rfl, b3⟩
  have s3 := b3.size
  clear k2
  have O3 := (O1.below b2 (Nat.le_refl _)).below b3 (Nat.le_refl _)
  have b13 := b1.trans ((b2.trans (b3.mono s2)).mono s1)
  have s13 := b13.size
  cases ok with
  | false =>
    go_wp2
    go_ret
    exact ⟨rfl, b13⟩
  | true =>
    obtain ⟨t, L, rfl, rfl, hL, o0, o1, hle, hcut, hv, hp⟩ := vgF_ok HR.out
    obtain ⟨E, hE⟩ : ∃ E : Nat, t + L = E := ⟨_, rfl⟩
    have hEI : (t : Int) + (L : Int) = (E : Int) := by omega
    rw [hEI] at hee hee' ⊢
    rw [hE] at hcut hle
    rw [O3.len] at hle
    obtain ⟨g, rfl, hg1, hg2⟩ := O3.at_ (by omega)
    have hcaps := O3.caps
    have hcm := hcaps.2
    unfold maxLen at hcm
    have hct : ¬ c1 = t := by omega
    have hcI : (E : Int) ≤ (c1 : Int) := by omega
    have hnI : (E : Int) ≤ (n1 : Int) := by omega
    have htI : (t : Int) ≤ (E : Int) := by omega
    have htI2 : (t : Int) < (E : Int) := by omega
    have hEt : (E : Int) - (t : Int) = (L : Int) := by omega
    have hETN : E - t = L := by omega
    have hrow : Row w3 w3.heap.size (some ⟨g, t, none⟩) L (c1 - t) (varF o) := by
      have := O3.row.mid (lo := t) (hi := E) (L := L) (by omega) hle (by omega)
      rw [hcut] at this; exact this
    have HE := hid hE
    have HL := hid hL
    have HCUT := hid hcut
    have HV := hid hv
    clear hE hEI hL hcut hv hle
    have hrr : (varF o == varF o) = true := beq_self_eq_true _
    go_wp2_with fail
    refine wp_region_flowL (by kernel_rfl) (by kernel_rfl) [63, 64, 65, 66, 67, 68, 69, 70, 71, 72, 73, 74, 75, 76, 77, 78, 79, 80, 2] (by kernel_rfl) (by decide) (fun x y => Below x.heap.size x y) (fun _ x => Below w3.heap.size w3 x)
      (byNo [FEq (.int .i64 (E : Int)), FEq (.int .i64 (t : Int)), FEq (.bool true), FEq (.bool true), FEq (.int .i64 (E : Int)), FEq (.slice (some ⟨g, 0, none⟩) n1 c1), FEq (.int .i64 (n1 : Int)), FEq (.bool true), FEq (.bool true), FEq (.bool true), FEq (.int .i64 o), FOwn w3.heap.size L (varF o), FEq (.slice (some ⟨g, 0, none⟩) n1 c1), FEq (.int .i64 (t : Int)), FEq (.int .i64 (E : Int)), FEq (.slice (some ⟨g, t, none⟩) L (c1 - t)), FEq (.bool true), FEq (.bool true), FEq (.bool true)])
      (byNo.still _ (by simp [FEq.still, FOwn.still])) (Below.refl w3.heap.size w3).drew ⟨?_, ?_, ?_, ?_, ?_, ?_, ?_, ?_, ?_, ?_, ?_, ?_, ?_, ?_, ?_, ?_, ?_, ?_, ?_, trivial⟩ ?_
    · intro vs Ls x hi hW hdep
      intro K hK
      simp only [puts, Act.put, List.setIfInBounds_toArray, List.set_cons_zero, List.set_cons_succ]
      go_simp
      exact hK (.int .i64 (E : Int)) x _ (by simp only [puts, Act.put, List.setIfInBounds_toArray, List.set_cons_zero, List.set_cons_succ]) (Below.refl _ _) hW rfl
    · intro vs Ls x hi hW hdep
      intro K hK
      simp only [puts, Act.put, List.setIfInBounds_toArray, List.set_cons_zero, List.set_cons_succ]
      go_simp
      exact hK (.int .i64 (t : Int)) x _ (by simp only [puts, Act.put, List.setIfInBounds_toArray, List.set_cons_zero, List.set_cons_succ]) (Below.refl _ _) hW rfl
    · intro vs Ls x hi hW hdep
      have e0 : FEq (.int .i64 (E : Int)) (vs 0) x := hdep ⟨0, .data⟩ (by simp) rfl
      unfold FEq at e0
      have e1 : FEq (.int .i64 (t : Int)) (vs 1) x := hdep ⟨1, .data⟩ (by simp) rfl
      unfold FEq at e1
      intro K hK
      simp only [puts, Act.put, List.setIfInBounds_toArray, List.set_cons_zero, List.set_cons_succ]
      simp only [e0, e1]
      go_simp
      exact hK (.bool true) x _ (by simp only [puts, Act.put, List.setIfInBounds_toArray, List.set_cons_zero, List.set_cons_succ] <;> simp only [e0, e1]) (Below.refl _ _) hW rfl
    · intro vs Ls x hi hW hdep
      have e2 : FEq (.bool true) (vs 2) x := hdep ⟨2, .data⟩ (by simp) rfl
      unfold FEq at e2
      intro K hK
      simp only [puts, Act.put, List.setIfInBounds_toArray, List.set_cons_zero, List.set_cons_succ]
      simp only [e2]
      go_simp
      exact hK (.bool true) x _ (by simp only [puts, Act.put, List.setIfInBounds_toArray, List.set_cons_zero, List.set_cons_succ] <;> simp only [e2]) (Below.refl _ _) hW rfl
    · intro vs Ls x hi hW hdep
      have e3 : FEq (.bool true) (vs 3) x := hdep ⟨3, .guard⟩ (by simp) rfl
      unfold FEq at e3
      intro K hK
      simp only [puts, Act.put, List.setIfInBounds_toArray, List.set_cons_zero, List.set_cons_succ]
      simp only [e3]
      rw [if_pos (by simp [Region.wanted, yielded])]
      go_simp
      exact hK (.int .i64 (E : Int)) x _ (by simp only [puts, Act.put, List.setIfInBounds_toArray, List.set_cons_zero, List.set_cons_succ] <;> simp only [e3]) (Below.refl _ _) hW rfl
    · intro vs Ls x hi hW hdep
      have e3 : FEq (.bool true) (vs 3) x := hdep ⟨3, .guard⟩ (by simp) rfl
      unfold FEq at e3
      intro K hK
      simp only [puts, Act.put, List.setIfInBounds_toArray, List.set_cons_zero, List.set_cons_succ]
      simp only [e3]
      rw [if_pos (by simp [Region.wanted, yielded])]
      go_simp
      exact hK (.slice (some ⟨g, 0, none⟩) n1 c1) x _ (by simp only [puts, Act.put, List.setIfInBounds_toArray, List.set_cons_zero, List.set_cons_succ] <;> simp only [e3]) (Below.refl _ _) hW rfl
    · intro vs Ls x hi hW hdep
      have e5 : FEq (.slice (some ⟨g, 0, none⟩) n1 c1) (vs 5) x := hdep ⟨5, .data⟩ (by simp) rfl
      unfold FEq at e5
      have e3 : FEq (.bool true) (vs 3) x := hdep ⟨3, .guard⟩ (by simp) rfl
      unfold FEq at e3
      intro K hK
      simp only [puts, Act.put, List.setIfInBounds_toArray, List.set_cons_zero, List.set_cons_succ]
      simp only [e5, e3]
      rw [if_pos (by simp [Region.wanted, yielded])]
      go_simp
      exact hK (.int .i64 (n1 : Int)) x _ (by simp only [puts, Act.put, List.setIfInBounds_toArray, List.set_cons_zero, List.set_cons_succ] <;> simp only [e5, e3]) (Below.refl _ _) hW rfl
    · intro vs Ls x hi hW hdep
      have e4 : FEq (.int .i64 (E : Int)) (vs 4) x := hdep ⟨4, .data⟩ (by simp) rfl
      unfold FEq at e4
      have e6 : FEq (.int .i64 (n1 : Int)) (vs 6) x := hdep ⟨6, .data⟩ (by simp) rfl
      unfold FEq at e6
      have e3 : FEq (.bool true) (vs 3) x := hdep ⟨3, .guard⟩ (by simp) rfl
      unfold FEq at e3
      intro K hK
      simp only [puts, Act.put, List.setIfInBounds_toArray, List.set_cons_zero, List.set_cons_succ]
      simp only [e4, e6, e3]
      rw [if_pos (by simp [Region.wanted, yielded])]
      go_simp
      exact hK (.bool true) x _ (by simp only [puts, Act.put, List.setIfInBounds_toArray, List.set_cons_zero, List.set_cons_succ] <;> simp only [e4, e6, e3]) (Below.refl _ _) hW rfl
    · intro vs Ls x hi hW hdep
      have e3 : FEq (.bool true) (vs 3) x := hdep ⟨3, .data⟩ (by simp) rfl
      unfold FEq at e3
      have e7 : FEq (.bool true) (vs 7) x := hdep ⟨7, .data⟩ (by simp) rfl
      unfold FEq at e7
      intro K hK
      simp only [puts, Act.put, List.setIfInBounds_toArray, List.set_cons_zero, List.set_cons_succ]
      simp only [e3, e7]
      go_simp
      exact hK (.bool true) x _ (by simp only [puts, Act.put, List.setIfInBounds_toArray, List.set_cons_zero, List.set_cons_succ] <;> simp only [e3, e7]) (Below.refl _ _) hW rfl
    · intro vs Ls x hi hW hdep
      have e8 : FEq (.bool true) (vs 8) x := hdep ⟨8, .data⟩ (by simp) rfl
      unfold FEq at e8
      intro K hK
      simp only [puts, Act.put, List.setIfInBounds_toArray, List.set_cons_zero, List.set_cons_succ]
      simp only [e8]
      go_simp
      exact hK (.bool true) x _ (by simp only [puts, Act.put, List.setIfInBounds_toArray, List.set_cons_zero, List.set_cons_succ] <;> simp only [e8]) (Below.refl _ _) hW rfl
    · intro vs Ls x hi hW hdep
      have e9 : FEq (.bool true) (vs 9) x := hdep ⟨9, .guard⟩ (by simp) rfl
      unfold FEq at e9
      intro K hK
      simp only [puts, Act.put, List.setIfInBounds_toArray, List.set_cons_zero, List.set_cons_succ]
      simp only [e9]
      rw [if_pos (by simp [Region.wanted, yielded])]
      go_simp
      exact hK (.int .i64 o) x _ (by simp only [puts, Act.put, List.setIfInBounds_toArray, List.set_cons_zero, List.set_cons_succ] <;> simp only [e9]) (Below.refl _ _) hW rfl
    · intro vs Ls x hi hW hdep
      have e10 : FEq (.int .i64 o) (vs 10) x := hdep ⟨10, .data⟩ (by simp) rfl
      unfold FEq at e10
      have e9 : FEq (.bool true) (vs 9) x := hdep ⟨9, .guard⟩ (by simp) rfl
      unfold FEq at e9
      intro K hK
      simp only [puts, Act.put, List.setIfInBounds_toArray, List.set_cons_zero, List.set_cons_succ]
      simp only [e10, e9]
      rw [if_pos (by simp [Region.wanted, yielded])]
      go_simp
      refine (VarPut_c o x).mono ?_
      rintro _ x' ⟨A4, c4, rfl, O4, b4⟩
      rw [HL.out] at *
      exact hK (.slice A4 L c4) x' _ (by simp only [puts, Act.put, List.setIfInBounds_toArray, List.set_cons_zero, List.set_cons_succ] <;> simp only [e10, e9]) b4 (hW.trans (b4.mono hW.size)) ⟨A4, c4, rfl, O4.mono hW.size⟩
    · intro vs Ls x hi hW hdep
      have e9 : FEq (.bool true) (vs 9) x := hdep ⟨9, .guard⟩ (by simp) rfl
      unfold FEq at e9
      intro K hK
      simp only [puts, Act.put, List.setIfInBounds_toArray, List.set_cons_zero, List.set_cons_succ]
      simp only [e9]
      rw [if_pos (by simp [Region.wanted, yielded])]
      go_simp
      exact hK (.slice (some ⟨g, 0, none⟩) n1 c1) x _ (by simp only [puts, Act.put, List.setIfInBounds_toArray, List.set_cons_zero, List.set_cons_succ] <;> simp only [e9]) (Below.refl _ _) hW rfl
    · intro vs Ls x hi hW hdep
      have e9 : FEq (.bool true) (vs 9) x := hdep ⟨9, .guard⟩ (by simp) rfl
      unfold FEq at e9
      intro K hK
      simp only [puts, Act.put, List.setIfInBounds_toArray, List.set_cons_zero, List.set_cons_succ]
      simp only [e9]
      rw [if_pos (by simp [Region.wanted, yielded])]
      go_simp
      exact hK (.int .i64 (t : Int)) x _ (by simp only [puts, Act.put, List.setIfInBounds_toArray, List.set_cons_zero, List.set_cons_succ] <;> simp only [e9]) (Below.refl _ _) hW rfl
    · intro vs Ls x hi hW hdep
      have e9 : FEq (.bool true) (vs 9) x := hdep ⟨9, .guard⟩ (by simp) rfl
      unfold FEq at e9
      intro K hK
      simp only [puts, Act.put, List.setIfInBounds_toArray, List.set_cons_zero, List.set_cons_succ]
      simp only [e9]
      rw [if_pos (by simp [Region.wanted, yielded])]
      go_simp
      exact hK (.int .i64 (E : Int)) x _ (by simp only [puts, Act.put, List.setIfInBounds_toArray, List.set_cons_zero, List.set_cons_succ] <;> simp only [e9]) (Below.refl _ _) hW rfl
    · intro vs Ls x hi hW hdep
      have e12 : FEq (.slice (some ⟨g, 0, none⟩) n1 c1) (vs 12) x := hdep ⟨12, .data⟩ (by simp) rfl
      unfold FEq at e12
      have e13 : FEq (.int .i64 (t : Int)) (vs 13) x := hdep ⟨13, .data⟩ (by simp) rfl
      unfold FEq at e13
      have e14 : FEq (.int .i64 (E : Int)) (vs 14) x := hdep ⟨14, .data⟩ (by simp) rfl
      unfold FEq at e14
      have e9 : FEq (.bool true) (vs 9) x := hdep ⟨9, .guard⟩ (by simp) rfl
      unfold FEq at e9
      intro K hK
      simp only [puts, Act.put, List.setIfInBounds_toArray, List.set_cons_zero, List.set_cons_succ]
      simp only [e12, e13, e14, e9]
      rw [if_pos (by simp [Region.wanted, yielded])]
      go_simp
      exact hK (.slice (some ⟨g, t, none⟩) L (c1 - t)) x _ (by simp only [puts, Act.put, List.setIfInBounds_toArray, List.set_cons_zero, List.set_cons_succ] <;> simp only [e12, e13, e14, e9]) (Below.refl _ _) hW rfl
    · intro vs Ls x hi hW hdep
      have d11 := hdep ⟨11, .data⟩ (by simp) rfl
      simp only [byNo, List.getD_cons_succ, List.getD_cons_zero] at d11
      obtain ⟨A4, c4, e11, O4⟩ := d11
      have e15 : FEq (.slice (some ⟨g, t, none⟩) L (c1 - t)) (vs 15) x := hdep ⟨15, .data⟩ (by simp) rfl
      unfold FEq at e15
      have e9 : FEq (.bool true) (vs 9) x := hdep ⟨9, .guard⟩ (by simp) rfl
      unfold FEq at e9
      intro K hK
      simp only [puts, Act.put, List.setIfInBounds_toArray, List.set_cons_zero, List.set_cons_succ]
      simp only [e11, e15, e9]
      rw [if_pos (by simp [Region.wanted, yielded])]
      go_simp
      refine (sameInts_c _ _ _ _ _ _ _ _ _ _ x O4.row (hrow.below hW) (Nat.le_refl _) hW.size).mono ?_
      rintro _ x' ⟨rfl, b5⟩
      rw [hrr]
      exact hK (.bool true) x' _ (by simp only [puts, Act.put, List.setIfInBounds_toArray, List.set_cons_zero, List.set_cons_succ] <;> simp only [e11, e15, e9]) b5 (hW.trans (b5.mono hW.size)) rfl
    · intro vs Ls x hi hW hdep
      have e9 : FEq (.bool true) (vs 9) x := hdep ⟨9, .data⟩ (by simp) rfl
      unfold FEq at e9
      have e16 : FEq (.bool true) (vs 16) x := hdep ⟨16, .data⟩ (by simp) rfl
      unfold FEq at e16
      intro K hK
      simp only [puts, Act.put, List.setIfInBounds_toArray, List.set_cons_zero, List.set_cons_succ]
      simp only [e9, e16]
      go_simp
      exact hK (.bool true) x _ (by simp only [puts, Act.put, List.setIfInBounds_toArray, List.set_cons_zero, List.set_cons_succ] <;> simp only [e9, e16]) (Below.refl _ _) hW rfl
    · intro vs Ls x hi hW hdep
      have e17 : FEq (.bool true) (vs 17) x := hdep ⟨17, .data⟩ (by simp) rfl
      unfold FEq at e17
      intro K hK
      simp only [puts, Act.put, List.setIfInBounds_toArray, List.set_cons_zero, List.set_cons_succ]
      simp only [e17]
      go_simp
      exact hK (.bool true) x _ (by simp only [puts, Act.put, List.setIfInBounds_toArray, List.set_cons_zero, List.set_cons_succ] <;> simp only [e17]) (Below.refl _ _) hW rfl
    · intro vs Ls x hall hL hW
      have e18 : FEq (.bool true) (vs 18) x := hall 18 (by decide)
      unfold FEq at e18
      simp only [puts, Act.put, List.setIfInBounds_toArray, List.set_cons_zero, List.set_cons_succ]
      simp only [e18]
      clear hall
      go_wp2
      go_ret
      exact ⟨rfl, b13.trans (hW.mono s13)⟩


end Go.Proofs.Ytaaaiagpbhiphaa
