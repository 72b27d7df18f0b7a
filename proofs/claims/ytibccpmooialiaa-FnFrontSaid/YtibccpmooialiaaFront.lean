/- Contracts of the program's moves to the front. No condition. -/
import Derived.Test.YtibccpmooialiaaCounts
import Derived.Test.YtibccpmooialiaaFrontK
import Derived.Test.YtibccpmooialiaaRegF
import Derived.IntWalk
namespace Go.Proofs.Ytibccpmooialiaa
open Go.RowKit
set_option linter.unusedVariables false

theorem setCell_grown' (w : World) (g o : Nat) (v : Value) : w.grownBy (w.setCell ⟨g, o, none⟩ v) (some g) :=
  ⟨rfl, rfl, rfl, by simp, fun k _ hk => Below.heap_setCell _ _ _ _ (fun e => hk (by rw [e]))⟩
theorem grown_drewN' {a b : World} {row : Option Nat} (h : a.grownBy b row) (n : Nat) : a.grownBy (b.drewN n) row := ⟨h.os, h.tape, h.output, h.size, h.block⟩
theorem below_of_grown {a b : World} {B g : Nat} (h : a.grownBy b (some g)) (hB : B ≤ a.heap.size) (hg : B ≤ g) : Below B a b :=
  ⟨h.os, h.tape, h.output, h.size, fun k hk => h.block k (by omega) (fun e => by injection e; omega)⟩

set_option maxHeartbeats 3200000 in
theorem moved_no (A : Option Addr) (n c B : Nat) (xs : List Int) (q : Bool) (w : World) (h : Row w B A n c xs) (hB : B ≤ w.heap.size) (hv : listV xs = false) : Calls Try.prog 24 #[.slice A n c, .bool q] w (PSl w []) := by
  go_enter Try.func24, Try.ntmps24
  go_wp2_with fail
  have ho : Own (w.alloc (.cells #[] 3)) w.heap.size (some ⟨w.heap.size, 0, none⟩) 0 0 [] := Own.lit w [] rfl (by omega) (Nat.le_refl _)
  have hb : Below w.heap.size w (w.alloc (.cells #[] 3)) := (Below.refl _ _).alloc (Nat.le_refl _) _
  refine (ListValid_c A n c B xs _ (h.below (hb.mono hB))).mono ?_
  rintro e w' ⟨rfl, rfl⟩
  go_wp2
  go_ret
  exact PSl.mk rfl ho hb



set_option maxHeartbeats 3200000 in
theorem moved_front (A : Option Addr) (n c B : Nat) (xs : List Int) (w : World) (h : Row w B A n c xs) (hB : B ≤ w.heap.size) (hv : listV xs = true) : Calls Try.prog 24 #[.slice A n c, .bool false] w (PSl w (frontL ord8 xs)) := by
  obtain ⟨h40, hev⟩ := listV_iff.1 hv
  rw [h.len] at h40
  go_enter Try.func24, Try.ntmps24
  go_wp2_with fail
  have ho : Own (w.alloc (.cells #[] 3)) w.heap.size (some ⟨w.heap.size, 0, none⟩) 0 0 [] := Own.lit w [] rfl (by omega) (Nat.le_refl _)
  have hb : Below w.heap.size w (w.alloc (.cells #[] 3)) := (Below.refl _ _).alloc (Nat.le_refl _) _
  refine (ListValid_c A n c B xs _ (h.below (hb.mono hB))).mono ?_
  rintro e w' ⟨rfl, rfl⟩
  have ho2 := ho.alloc (.cells (ord8.map (Value.int .i64)).toArray 3)
  have hb2 := hb.alloc (by simp) (.cells (ord8.map (Value.int .i64)).toArray 3)
  have hor : Own ((w.alloc (.cells #[] 3)).alloc (.cells (ord8.map (Value.int .i64)).toArray 3)) w.heap.size (some ⟨w.heap.size + 1, 0, none⟩) 8 8 ord8 := by
    have := Own.lit (base := w.heap.size) (w.alloc (.cells #[] 3)) ord8 (m := 8) rfl (by omega) (by simp)
    simpa using this
  obtain ⟨g, hg⟩ : ∃ g, w.heap.size + 1 = g := ⟨_, rfl⟩
  rw [hg] at hor
  have hgb : w.heap.size < g := by omega
  have hne0 : (some (⟨w.heap.size, 0, none⟩ : Addr)).map (·.block) ≠ some g := by
    intro e; simp at e; omega
  go_wp2_with fail
  clear hg
  go_loopw [5, 19] (fun v i wr => ∃ (k : Nat) (D : Option Addr) (d : Nat) (ys o : List Int), k ≤ n ∧ v = .slice D k d ∧ i = .int .i64 (k : Int) ∧ Own wr w.heap.size D k d ys ∧ Own wr w.heap.size (some ⟨g, 0, none⟩) 8 8 o ∧ Ord o ∧ frontL ord8 xs = ys ++ frontL o (xs.drop k) ∧ D.map (·.block) ≠ some g ∧ Below w.heap.size w wr) (fun _ i _ => n - (intOf i).toNat)
  case atStart => exact ⟨0, _, 0, [], ord8, Nat.zero_le _, rfl, rfl, ho2, hor, ord8_ord, rfl, hne0, hb2⟩
  case round =>
    obtain ⟨k, D, d, ys, o, hk, rfl, rfl, hown, hord, hO, he, hne, hbel⟩ := hrel
    have HE := hid he
    have hsz := hbel.size
    clear he
    obtain ⟨wo, hwo⟩ : ∃ wo : World, wo = wr := ⟨_, rfl⟩
    subst hwo
    by_cases hlt : k < n
    · obtain ⟨b, off, x, rfl, hbb, hcx, hx, hd⟩ := (h.below (hbel.mono hB)).step hlt
      have hxb := everyB_get hev hx
      have HD := hid hd
      clear hd hx
      obtain ⟨hp1, hp2⟩ := hO.place hxb
      have hpb := fun (j : Nat) (y : Int) => place_before (s := x) (o := o) (j := j) (x := y)
      obtain ⟨p, hp⟩ : ∃ p, place x o = p := ⟨_, rfl⟩
      have HF := hid (show frontL o (x :: xs.drop (k + 1)) = (p : Int) :: frontL (toF o p) (xs.drop (k + 1)) by rw [frontL_cons, hp])
      rw [hp] at hp1 hp2 hpb
      clear hp
      have HP := hid hp1
      have hcp := hord.cellAt hp1
      clear hp1
      go_wp2_with fail
      go_loop [9] (fun i => ∃ j : Nat, j ≤ p ∧ i = .int .i64 (j : Int)) (fun i => p - (intOf i).toNat)
      case atStart => exact ⟨0, Nat.zero_le _, rfl⟩
      case round =>
        obtain ⟨j, hj, rfl⟩ := hrel
        by_cases hjp : j < p
        · obtain ⟨y, hy⟩ : ∃ y, o[j]? = some y := ⟨_, List.getElem?_eq_getElem (by rw [hO.len]; omega)⟩
          have hcy := hord.cellAt hy
          have hyx : (y != x) = true := by have := hpb j y hjp hy; simpa using this
          clear hy hpb
          go_wp2
          go_round
          case rel => exact ⟨j + 1, by omega, by go_num⟩
          case measure => simp [intOf]; omega
        · obtain rfl : j = p := by omega
          obtain ⟨x0, hx0⟩ : ∃ x0 : Int, x0 = x := ⟨_, rfl⟩
          subst hx0
          have hxx : (x0 != x0) = false := by simp
          have q1 : IntKind.i64.wrap ((j : Int) + 1) = (j : Int) + 1 := IntWalk.i64_in _ (by omega)
          have q2 : (1 : Int) ≤ (j : Int) + 1 := by omega
          have q3 : (j : Int) + 1 ≤ 8 := by omega
          have q4 : ((j : Int) + 1).toNat = j + 1 := by omega
          have q5 : (0 : Int) ≤ (j : Int) := by omega
          have q6 : (j : Int) ≤ 8 := by omega
          have q7 : (0 : Int) ≤ (j : Int) + 1 := by omega
          clear hpb
          go_wp2_with fail
          refine wp_region_flowL (by kernel_rfl) (by kernel_rfl) [38, 39, 40, 41, 42, 43, 44, 45] (by kernel_rfl) (by decide) (fun x y => x.grownBy y (some g)) (fun L x => if L 7 = true then wo.grownBy x (some g) ∧ Own x w.heap.size (some ⟨g, 0, none⟩) 8 8 (splice o 1 (o.take j)) else x = wo.drew)
            (byNo [FEq (.slice (some ⟨g, 0, none⟩) 8 8), FEq (.int .i64 (j : Int)), FEq (.int .i64 ((j : Int) + 1)), FEq (.slice (some ⟨g, 1, none⟩) j 7), FEq (.slice (some ⟨g, 0, none⟩) 8 8), FEq (.int .i64 (j : Int)), FEq (.slice (some ⟨g, 0, none⟩) j 8), FEq (.int .i64 (j : Int))])
            (byNo.kept _ (by simp [FEq.kept])) rfl ⟨?_, ?_, ?_, ?_, ?_, ?_, ?_, ?_, trivial⟩ ?_
          · intro vs L x hi hW hdep
            intro K hK
            simp only [puts, Act.put, List.setIfInBounds_toArray, List.set_cons_zero, List.set_cons_succ]
            go_simp
            exact hK (.slice (some ⟨g, 0, none⟩) 8 8) x _ (by simp only [puts, Act.put, List.setIfInBounds_toArray, List.set_cons_zero, List.set_cons_succ]) (World.grownBy.refl _ _) (by simpa [upd] using hW) rfl
          · intro vs L x hi hW hdep
            intro K hK
            simp only [puts, Act.put, List.setIfInBounds_toArray, List.set_cons_zero, List.set_cons_succ]
            go_simp
            exact hK (.int .i64 (j : Int)) x _ (by simp only [puts, Act.put, List.setIfInBounds_toArray, List.set_cons_zero, List.set_cons_succ]) (World.grownBy.refl _ _) (by simpa [upd] using hW) rfl
          · intro vs L x hi hW hdep
            have e0 : FEq (.int .i64 (j : Int)) (vs 1) x := hdep ⟨1, .data⟩ (by simp) rfl
            unfold FEq at e0
            intro K hK
            simp only [puts, Act.put, List.setIfInBounds_toArray, List.set_cons_zero, List.set_cons_succ]
            simp only [e0]
            go_simp
            exact hK (.int .i64 ((j : Int) + 1)) x _ (by simp only [puts, Act.put, List.setIfInBounds_toArray, List.set_cons_zero, List.set_cons_succ] <;> simp only [e0]) (World.grownBy.refl _ _) (by simpa [upd] using hW) rfl
          · intro vs L x hi hW hdep
            have e0 : FEq (.slice (some ⟨g, 0, none⟩) 8 8) (vs 0) x := hdep ⟨0, .data⟩ (by simp) rfl
            unfold FEq at e0
            have e1 : FEq (.int .i64 ((j : Int) + 1)) (vs 2) x := hdep ⟨2, .data⟩ (by simp) rfl
            unfold FEq at e1
            intro K hK
            simp only [puts, Act.put, List.setIfInBounds_toArray, List.set_cons_zero, List.set_cons_succ]
            simp only [e0, e1]
            go_simp
            exact hK (.slice (some ⟨g, 1, none⟩) j 7) x _ (by simp only [puts, Act.put, List.setIfInBounds_toArray, List.set_cons_zero, List.set_cons_succ] <;> simp only [e0, e1]) (World.grownBy.refl _ _) (by simpa [upd] using hW) rfl
          · intro vs L x hi hW hdep
            intro K hK
            simp only [puts, Act.put, List.setIfInBounds_toArray, List.set_cons_zero, List.set_cons_succ]
            go_simp
            exact hK (.slice (some ⟨g, 0, none⟩) 8 8) x _ (by simp only [puts, Act.put, List.setIfInBounds_toArray, List.set_cons_zero, List.set_cons_succ]) (World.grownBy.refl _ _) (by simpa [upd] using hW) rfl
          · intro vs L x hi hW hdep
            intro K hK
            simp only [puts, Act.put, List.setIfInBounds_toArray, List.set_cons_zero, List.set_cons_succ]
            go_simp
            exact hK (.int .i64 (j : Int)) x _ (by simp only [puts, Act.put, List.setIfInBounds_toArray, List.set_cons_zero, List.set_cons_succ]) (World.grownBy.refl _ _) (by simpa [upd] using hW) rfl
          · intro vs L x hi hW hdep
            have e0 : FEq (.slice (some ⟨g, 0, none⟩) 8 8) (vs 4) x := hdep ⟨4, .data⟩ (by simp) rfl
            unfold FEq at e0
            have e1 : FEq (.int .i64 (j : Int)) (vs 5) x := hdep ⟨5, .data⟩ (by simp) rfl
            unfold FEq at e1
            intro K hK
            simp only [puts, Act.put, List.setIfInBounds_toArray, List.set_cons_zero, List.set_cons_succ]
            simp only [e0, e1]
            go_simp
            exact hK (.slice (some ⟨g, 0, none⟩) j 8) x _ (by simp only [puts, Act.put, List.setIfInBounds_toArray, List.set_cons_zero, List.set_cons_succ] <;> simp only [e0, e1]) (World.grownBy.refl _ _) (by simpa [upd] using hW) rfl
          · intro vs L x hi hW hdep
            have e0 : FEq (.slice (some ⟨g, 1, none⟩) j 7) (vs 3) x := hdep ⟨3, .data⟩ (by simp) rfl
            unfold FEq at e0
            have e1 : FEq (.slice (some ⟨g, 0, none⟩) j 8) (vs 6) x := hdep ⟨6, .data⟩ (by simp) rfl
            unfold FEq at e1
            simp only [hi] at hW
            obtain rfl : x = wo.drew := by simpa using hW
            intro K hK
            simp only [puts, Act.put, List.setIfInBounds_toArray, List.set_cons_zero, List.set_cons_succ]
            simp only [e0, e1]
            rw [if_pos (by rfl)]
            refine wp_shift (p := j) (g := g) (dp := some ⟨g, 1, none⟩) (sp := some ⟨g, 0, none⟩) (dCap := 7) (sCap := 8) (.tmp 41) (.tmp 44) (by rfl) (by rfl) (by rfl) (fun _ => rfl) (fun _ => rfl) (hord.drewN 1) hp2 ?_
            intro w4 hown4 hg4
            exact hK (.int .i64 (j : Int)) w4 _ (by simp only [puts, Act.put, List.setIfInBounds_toArray, List.set_cons_zero, List.set_cons_succ]; simp only [e0, e1]) hg4 (by simp only [upd_self, if_true]; exact ⟨grown_trans (grown_drewN' (World.grownBy.refl _ _) 1) hg4, hown4⟩) rfl
          · intro vs L x hall hL hW
            have e0 : FEq (.slice (some ⟨g, 0, none⟩) 8 8) (vs 0) x := hall 0 (by decide)
            unfold FEq at e0
            have e1 : FEq (.int .i64 (j : Int)) (vs 1) x := hall 1 (by decide)
            unfold FEq at e1
            have e4 : FEq (.slice (some ⟨g, 0, none⟩) 8 8) (vs 4) x := hall 4 (by decide)
            unfold FEq at e4
            have e5 : FEq (.int .i64 (j : Int)) (vs 5) x := hall 5 (by decide)
            unfold FEq at e5
            have e7 : FEq (.int .i64 (j : Int)) (vs 7) x := hall 7 (by decide)
            unfold FEq at e7
            have hl7 : L 7 = true := hL 7 (by decide)
            simp only [hl7, if_true] at hW
            obtain ⟨hg4, hown4⟩ := hW
            have ho0 : ∃ y, (splice o 1 (o.take j))[0]? = some y := ⟨_, List.getElem?_eq_getElem (by rw [hown4.len]; omega)⟩
            obtain ⟨y, hy⟩ := ho0
            have hcy := hown4.cellAt hy
            have hfy := hown4.frozenAt 0
            have hst := hown4.stored 0 x0
            rw [shift_set HP.out] at hst
            have hg5 := grown_trans hg4 (setCell_grown' x g 0 (.int .i64 x0))
            have hout5 : Own (x.setCell ⟨g, 0, none⟩ (.int .i64 x0)) w.heap.size D k d ys := hown.kept hg5 (.inr hne)
            have hb5 : Below w.heap.size w (x.setCell ⟨g, 0, none⟩ (.int .i64 x0)) := hbel.trans (below_of_grown hg5 hsz (by omega))
            have hz5 := hb5.size
            have hst5 := hst.blk.2
            have HST := hid hst
            clear hst hy hall hL
            simp only [puts, Act.put, List.setIfInBounds_toArray, List.set_cons_zero, List.set_cons_succ]
            simp only [e0, e1, e4, e5, e7]
            clear hord
            go_wp2_with (at_builtin; refine wpList_push_at rfl _ _ rfl rfl hout5 rfl (by simp) (by omega) hz5 ?_; intro D6 d6 w6 hown6 hg6 hb6 hne6)
            go_roundw
            case rel => exact ⟨k + 1, D6, d6, _, toF o j, by omega, rfl, by go_num, hown6, HST.out.kept hg6 (.inr (fun e => hne e.symm)), hO.front hp2, by rw [HE.out, HD.out, HF.out, List.append_assoc]; rfl, hne6 g hst5 hne, hb5.trans hb6⟩
            case measure => simp [intOf]; omega
    · obtain rfl : k = n := by omega
      have hd := h.full (k := k) (Nat.le_refl _)
      have e : frontL ord8 xs = ys := by rw [HE.out, hd]; exact List.append_nil _
      clear hd
      have HH := hid e
      clear e
      go_wp2
      go_ret
      rw [HH.out]
      exact PSl.mk hown.len hown hbel

set_option maxHeartbeats 3200000 in
theorem moved_back (A : Option Addr) (n c B : Nat) (xs : List Int) (w : World) (h : Row w B A n c xs) (hB : B ≤ w.heap.size) (hv : listV xs = true) : Calls Try.prog 24 #[.slice A n c, .bool true] w (PSl w (backL ord8 xs)) := by
  obtain ⟨h40, hev⟩ := listV_iff.1 hv
  rw [h.len] at h40
  go_enter Try.func24, Try.ntmps24
  go_wp2_with fail
  have ho : Own (w.alloc (.cells #[] 3)) w.heap.size (some ⟨w.heap.size, 0, none⟩) 0 0 [] := Own.lit w [] rfl (by omega) (Nat.le_refl _)
  have hb : Below w.heap.size w (w.alloc (.cells #[] 3)) := (Below.refl _ _).alloc (Nat.le_refl _) _
  refine (ListValid_c A n c B xs _ (h.below (hb.mono hB))).mono ?_
  rintro e w' ⟨rfl, rfl⟩
  have ho2 := ho.alloc (.cells (ord8.map (Value.int .i64)).toArray 3)
  have hb2 := hb.alloc (by simp) (.cells (ord8.map (Value.int .i64)).toArray 3)
  have hor : Own ((w.alloc (.cells #[] 3)).alloc (.cells (ord8.map (Value.int .i64)).toArray 3)) w.heap.size (some ⟨w.heap.size + 1, 0, none⟩) 8 8 ord8 := by
    have := Own.lit (base := w.heap.size) (w.alloc (.cells #[] 3)) ord8 (m := 8) rfl (by omega) (by simp)
    simpa using this
  obtain ⟨g, hg⟩ : ∃ g, w.heap.size + 1 = g := ⟨_, rfl⟩
  rw [hg] at hor
  have hgb : w.heap.size < g := by omega
  have hne0 : (some (⟨w.heap.size, 0, none⟩ : Addr)).map (·.block) ≠ some g := by
    intro e; simp at e; omega
  go_wp2_with fail
  clear hg
  go_loopw [5, 19] (fun v i wr => ∃ (k : Nat) (D : Option Addr) (d : Nat) (ys o : List Int), k ≤ n ∧ v = .slice D k d ∧ i = .int .i64 (k : Int) ∧ Own wr w.heap.size D k d ys ∧ Own wr w.heap.size (some ⟨g, 0, none⟩) 8 8 o ∧ Ord o ∧ backL ord8 xs = ys ++ backL o (xs.drop k) ∧ D.map (·.block) ≠ some g ∧ Below w.heap.size w wr) (fun _ i _ => n - (intOf i).toNat)
  case atStart => exact ⟨0, _, 0, [], ord8, Nat.zero_le _, rfl, rfl, ho2, hor, ord8_ord, rfl, hne0, hb2⟩
  case round =>
    obtain ⟨k, D, d, ys, o, hk, rfl, rfl, hown, hord, hO, he, hne, hbel⟩ := hrel
    have HE := hid he
    have hsz := hbel.size
    clear he
    obtain ⟨wo, hwo⟩ : ∃ wo : World, wo = wr := ⟨_, rfl⟩
    subst hwo
    by_cases hlt : k < n
    · obtain ⟨b, off, x, rfl, hbb, hcx, hx, hd⟩ := (h.below (hbel.mono hB)).step hlt
      have hxb := everyB_get hev hx
      have HD := hid hd
      clear hd hx
      obtain ⟨p, rfl⟩ := Int.eq_ofNat_of_zero_le hxb.1
      have hp2 : p < 8 := by omega
      obtain ⟨x0, hp1⟩ : ∃ x0, o[p]? = some x0 := ⟨_, List.getElem?_eq_getElem (by rw [hO.len]; exact hp2)⟩
      have HF := hid (show backL o ((p : Int) :: xs.drop (k + 1)) = x0 :: backL (toF o p) (xs.drop (k + 1)) by rw [backL_cons, Int.toNat_natCast]; simp [List.getD, hp1])
      have HP := hid hp1
      have hcp := hord.cellAt hp1
      clear hp1
      have q1 : IntKind.i64.wrap ((p : Int) + 1) = (p : Int) + 1 := IntWalk.i64_in _ (by omega)
      have q2 : (1 : Int) ≤ (p : Int) + 1 := by omega
      have q3 : (p : Int) + 1 ≤ 8 := by omega
      have q4 : ((p : Int) + 1).toNat = p + 1 := by omega
      have q5 : (0 : Int) ≤ (p : Int) := by omega
      have q6 : (p : Int) ≤ 8 := by omega
      have q7 : (0 : Int) ≤ (p : Int) + 1 := by omega
      go_wp2_with fail
      refine wp_region_flowL (by kernel_rfl) (by kernel_rfl) [38, 39, 40, 41, 42, 43, 44, 45] (by kernel_rfl) (by decide) (fun x y => x.grownBy y (some g)) (fun L x => if L 7 = true then wo.grownBy x (some g) ∧ Own x w.heap.size (some ⟨g, 0, none⟩) 8 8 (splice o 1 (o.take p)) else x = wo.drew)
        (byNo [FEq (.slice (some ⟨g, 0, none⟩) 8 8), FEq (.int .i64 (p : Int)), FEq (.int .i64 ((p : Int) + 1)), FEq (.slice (some ⟨g, 1, none⟩) p 7), FEq (.slice (some ⟨g, 0, none⟩) 8 8), FEq (.int .i64 (p : Int)), FEq (.slice (some ⟨g, 0, none⟩) p 8), FEq (.int .i64 (p : Int))])
        (byNo.kept _ (by simp [FEq.kept])) rfl ⟨?_, ?_, ?_, ?_, ?_, ?_, ?_, ?_, trivial⟩ ?_
      · intro vs L x hi hW hdep
        intro K hK
        simp only [puts, Act.put, List.setIfInBounds_toArray, List.set_cons_zero, List.set_cons_succ]
        go_simp
        exact hK (.slice (some ⟨g, 0, none⟩) 8 8) x _ (by simp only [puts, Act.put, List.setIfInBounds_toArray, List.set_cons_zero, List.set_cons_succ]) (World.grownBy.refl _ _) (by simpa [upd] using hW) rfl
      · intro vs L x hi hW hdep
        intro K hK
        simp only [puts, Act.put, List.setIfInBounds_toArray, List.set_cons_zero, List.set_cons_succ]
        go_simp
        exact hK (.int .i64 (p : Int)) x _ (by simp only [puts, Act.put, List.setIfInBounds_toArray, List.set_cons_zero, List.set_cons_succ]) (World.grownBy.refl _ _) (by simpa [upd] using hW) rfl
      · intro vs L x hi hW hdep
        have e0 : FEq (.int .i64 (p : Int)) (vs 1) x := hdep ⟨1, .data⟩ (by simp) rfl
        unfold FEq at e0
        intro K hK
        simp only [puts, Act.put, List.setIfInBounds_toArray, List.set_cons_zero, List.set_cons_succ]
        simp only [e0]
        go_simp
        exact hK (.int .i64 ((p : Int) + 1)) x _ (by simp only [puts, Act.put, List.setIfInBounds_toArray, List.set_cons_zero, List.set_cons_succ] <;> simp only [e0]) (World.grownBy.refl _ _) (by simpa [upd] using hW) rfl
      · intro vs L x hi hW hdep
        have e0 : FEq (.slice (some ⟨g, 0, none⟩) 8 8) (vs 0) x := hdep ⟨0, .data⟩ (by simp) rfl
        unfold FEq at e0
        have e1 : FEq (.int .i64 ((p : Int) + 1)) (vs 2) x := hdep ⟨2, .data⟩ (by simp) rfl
        unfold FEq at e1
        intro K hK
        simp only [puts, Act.put, List.setIfInBounds_toArray, List.set_cons_zero, List.set_cons_succ]
        simp only [e0, e1]
        go_simp
        exact hK (.slice (some ⟨g, 1, none⟩) p 7) x _ (by simp only [puts, Act.put, List.setIfInBounds_toArray, List.set_cons_zero, List.set_cons_succ] <;> simp only [e0, e1]) (World.grownBy.refl _ _) (by simpa [upd] using hW) rfl
      · intro vs L x hi hW hdep
        intro K hK
        simp only [puts, Act.put, List.setIfInBounds_toArray, List.set_cons_zero, List.set_cons_succ]
        go_simp
        exact hK (.slice (some ⟨g, 0, none⟩) 8 8) x _ (by simp only [puts, Act.put, List.setIfInBounds_toArray, List.set_cons_zero, List.set_cons_succ]) (World.grownBy.refl _ _) (by simpa [upd] using hW) rfl
      · intro vs L x hi hW hdep
        intro K hK
        simp only [puts, Act.put, List.setIfInBounds_toArray, List.set_cons_zero, List.set_cons_succ]
        go_simp
        exact hK (.int .i64 (p : Int)) x _ (by simp only [puts, Act.put, List.setIfInBounds_toArray, List.set_cons_zero, List.set_cons_succ]) (World.grownBy.refl _ _) (by simpa [upd] using hW) rfl
      · intro vs L x hi hW hdep
        have e0 : FEq (.slice (some ⟨g, 0, none⟩) 8 8) (vs 4) x := hdep ⟨4, .data⟩ (by simp) rfl
        unfold FEq at e0
        have e1 : FEq (.int .i64 (p : Int)) (vs 5) x := hdep ⟨5, .data⟩ (by simp) rfl
        unfold FEq at e1
        intro K hK
        simp only [puts, Act.put, List.setIfInBounds_toArray, List.set_cons_zero, List.set_cons_succ]
        simp only [e0, e1]
        go_simp
        exact hK (.slice (some ⟨g, 0, none⟩) p 8) x _ (by simp only [puts, Act.put, List.setIfInBounds_toArray, List.set_cons_zero, List.set_cons_succ] <;> simp only [e0, e1]) (World.grownBy.refl _ _) (by simpa [upd] using hW) rfl
      · intro vs L x hi hW hdep
        have e0 : FEq (.slice (some ⟨g, 1, none⟩) p 7) (vs 3) x := hdep ⟨3, .data⟩ (by simp) rfl
        unfold FEq at e0
        have e1 : FEq (.slice (some ⟨g, 0, none⟩) p 8) (vs 6) x := hdep ⟨6, .data⟩ (by simp) rfl
        unfold FEq at e1
        simp only [hi] at hW
        obtain rfl : x = wo.drew := by simpa using hW
        intro K hK
        simp only [puts, Act.put, List.setIfInBounds_toArray, List.set_cons_zero, List.set_cons_succ]
        simp only [e0, e1]
        rw [if_pos (by rfl)]
        refine wp_shift (p := p) (g := g) (dp := some ⟨g, 1, none⟩) (sp := some ⟨g, 0, none⟩) (dCap := 7) (sCap := 8) (.tmp 41) (.tmp 44) (by rfl) (by rfl) (by rfl) (fun _ => rfl) (fun _ => rfl) (hord.drewN 1) hp2 ?_
        intro w4 hown4 hg4
        exact hK (.int .i64 (p : Int)) w4 _ (by simp only [puts, Act.put, List.setIfInBounds_toArray, List.set_cons_zero, List.set_cons_succ]; simp only [e0, e1]) hg4 (by simp only [upd_self, if_true]; exact ⟨grown_trans (grown_drewN' (World.grownBy.refl _ _) 1) hg4, hown4⟩) rfl
      · intro vs L x hall hL hW
        have e0 : FEq (.slice (some ⟨g, 0, none⟩) 8 8) (vs 0) x := hall 0 (by decide)
        unfold FEq at e0
        have e1 : FEq (.int .i64 (p : Int)) (vs 1) x := hall 1 (by decide)
        unfold FEq at e1
        have e4 : FEq (.slice (some ⟨g, 0, none⟩) 8 8) (vs 4) x := hall 4 (by decide)
        unfold FEq at e4
        have e5 : FEq (.int .i64 (p : Int)) (vs 5) x := hall 5 (by decide)
        unfold FEq at e5
        have e7 : FEq (.int .i64 (p : Int)) (vs 7) x := hall 7 (by decide)
        unfold FEq at e7
        have hl7 : L 7 = true := hL 7 (by decide)
        simp only [hl7, if_true] at hW
        obtain ⟨hg4, hown4⟩ := hW
        have ho0 : ∃ y, (splice o 1 (o.take p))[0]? = some y := ⟨_, List.getElem?_eq_getElem (by rw [hown4.len]; omega)⟩
        obtain ⟨y, hy⟩ := ho0
        have hcy := hown4.cellAt hy
        have hfy := hown4.frozenAt 0
        have hst := hown4.stored 0 x0
        rw [shift_set HP.out] at hst
        have hg5 := grown_trans hg4 (setCell_grown' x g 0 (.int .i64 x0))
        have hout5 : Own (x.setCell ⟨g, 0, none⟩ (.int .i64 x0)) w.heap.size D k d ys := hown.kept hg5 (.inr hne)
        have hb5 : Below w.heap.size w (x.setCell ⟨g, 0, none⟩ (.int .i64 x0)) := hbel.trans (below_of_grown hg5 hsz (by omega))
        have hz5 := hb5.size
        have hst5 := hst.blk.2
        have HST := hid hst
        clear hst hy hall hL
        simp only [puts, Act.put, List.setIfInBounds_toArray, List.set_cons_zero, List.set_cons_succ]
        simp only [e0, e1, e4, e5, e7]
        clear hord
        go_wp2_with (at_builtin; refine wpList_push_at rfl _ _ rfl rfl hout5 rfl (by simp) (by omega) hz5 ?_; intro D6 d6 w6 hown6 hg6 hb6 hne6)
        go_roundw
        case rel => exact ⟨k + 1, D6, d6, _, toF o p, by omega, rfl, by go_num, hown6, HST.out.kept hg6 (.inr (fun e => hne e.symm)), hO.front hp2, by rw [HE.out, HD.out, HF.out, List.append_assoc]; rfl, hne6 g hst5 hne, hb5.trans hb6⟩
        case measure => simp [intOf]; omega
    · obtain rfl : k = n := by omega
      have hd := h.full (k := k) (Nat.le_refl _)
      have e : backL ord8 xs = ys := by rw [HE.out, hd]; exact List.append_nil _
      clear hd
      have HH := hid e
      clear e
      go_wp2
      go_ret
      rw [HH.out]
      exact PSl.mk hown.len hown hbel

theorem FrontOf_c (A : Option Addr) (n c B : Nat) (xs : List Int) (w : World) (h : Row w B A n c xs) (hB : B ≤ w.heap.size) : Calls Try.prog 16 #[.slice A n c] w (PSl w (frontF xs)) := by
  rcases hv : listV xs with _ | _
  · rw [frontF_no hv]
    go_enter Try.func16, Try.ntmps16
    go_wp2_with fail
    refine (moved_no A n c B xs false w h hB hv).mono ?_
    rintro e w2 ⟨D, d, rfl, hown, hbel⟩
    go_wp2
    go_ret
    exact ⟨D, d, rfl, hown, hbel⟩
  · rw [frontF_yes hv]
    go_enter Try.func16, Try.ntmps16
    go_wp2_with fail
    refine (moved_front A n c B xs w h hB hv).mono ?_
    rintro e w2 ⟨D, d, rfl, hown, hbel⟩
    go_wp2
    go_ret
    exact ⟨D, d, rfl, hown, hbel⟩
theorem FrontBack_c (A : Option Addr) (n c B : Nat) (xs : List Int) (w : World) (h : Row w B A n c xs) (hB : B ≤ w.heap.size) : Calls Try.prog 11 #[.slice A n c] w (PSl w (backF xs)) := by
  rcases hv : listV xs with _ | _
  · rw [backF_no hv]
    go_enter Try.func11, Try.ntmps11
    go_wp2_with fail
    refine (moved_no A n c B xs true w h hB hv).mono ?_
    rintro e w2 ⟨D, d, rfl, hown, hbel⟩
    go_wp2
    go_ret
    exact ⟨D, d, rfl, hown, hbel⟩
  · rw [backF_yes hv]
    go_enter Try.func11, Try.ntmps11
    go_wp2_with fail
    refine (moved_back A n c B xs w h hB hv).mono ?_
    rintro e w2 ⟨D, d, rfl, hown, hbel⟩
    go_wp2
    go_ret
    exact ⟨D, d, rfl, hown, hbel⟩
end Go.Proofs.Ytibccpmooialiaa
