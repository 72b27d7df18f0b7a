/- Contracts of the reference's moves to the front. No condition. -/
import Derived.Test.YtibccpmooialiaaCounts
import Derived.Test.YtibccpmooialiaaFrontK
namespace Go.Proofs.Ytibccpmooialiaa
open Go.RowKit
set_option linter.unusedVariables false

theorem ord8_take : ∀ k : Nat, k < 8 → ord8.take (k + 1) = ord8.take k ++ [(k : Int)] := by decide
theorem erase_step {o : List Int} {k p : Nat} {y : Int} (hy : o[k]? = some y) : (o.take (k + 1)).eraseIdx p = if k = p then (o.take k).eraseIdx p else (o.take k).eraseIdx p ++ [y] := by
  have hk : k < o.length := (List.getElem?_eq_some_iff.1 hy).1
  have hl : (o.take k).length = k := by rw [List.length_take]; omega
  rw [List.take_add_one, hy]
  show (o.take k ++ [y]).eraseIdx p = _
  by_cases e : k = p
  · subst e
    have r : (o.take k).eraseIdx k = o.take k := List.eraseIdx_of_length_le (by omega)
    rw [if_pos rfl, r, List.eraseIdx_append_of_length_le (by omega), hl, Nat.sub_self]
    exact List.append_nil _
  · rw [if_neg e]
    by_cases h : k < p
    · rw [List.eraseIdx_of_length_le (by rw [List.length_append, hl]; show k + 1 ≤ p; omega), List.eraseIdx_of_length_le (by omega)]
    · rw [List.eraseIdx_append_of_lt_length (by omega)]

set_option maxHeartbeats 800000 in
theorem l4Order_c (w : World) : Calls Try.prog 22 #[] w (PSl w ord8) := by
  go_enter Try.func22, Try.ntmps22
  go_wp2
  go_loopw [1, 2] (fun v i wr => ∃ (k : Nat) (D : Option Addr) (d : Nat), k ≤ 8 ∧ v = .slice D k d ∧ i = .int .i64 (k : Int) ∧ Own wr w.heap.size D k d (ord8.take k) ∧ Below w.heap.size w wr) (fun _ i _ => 8 - (intOf i).toNat)
  case atStart => exact ⟨0, _, 0, Nat.zero_le _, rfl, rfl, Own.lit w [] rfl (by omega) (Nat.le_refl _), (Below.refl _ _).alloc (Nat.le_refl _) _⟩
  case round =>
    obtain ⟨k, D, d, hk, rfl, rfl, hown, hbel⟩ := hrel
    have hsz := hbel.size
    by_cases hlt : k < 8
    · have HT := hid (ord8_take k hlt)
      go_wp2_with (at_builtin; refine wpList_push rfl _ _ rfl rfl hown rfl (by omega) hsz ?_; intro D2 d2 w2 hown2 hg2 hb2)
      go_roundw
      case rel => exact ⟨k + 1, D2, d2, by omega, rfl, by go_num, by rw [HT.out]; exact hown2, hbel.trans hb2⟩
      case measure => simp [intOf]; omega
    · obtain rfl : k = 8 := by omega
      go_wp2
      go_ret
      exact PSl.mk rfl hown hbel

theorem l4Place_c (A : Option Addr) (n c B : Nat) (o : List Int) (s : Int) (w : World) (h : Row w B A n c o) (hs : s ∈ o) :
    Calls Try.prog 25 #[.slice A n c, .int .i64 s] w (fun e w' => e = .returned (.int .i64 (place s o : Nat)) ∧ w = w') := by
  have hsm := h.small
  have hp1 := place_at hs
  have hp2 : place s o < n := by have := (List.getElem?_eq_some_iff.1 hp1).1; rw [h.len] at this; exact this
  obtain ⟨b, off, rfl, hb, hcell⟩ := h.at_ (by omega)
  have hcp := hcell _ _ hp1
  have hpb := fun (j : Nat) (y : Int) => place_before (s := s) (o := o) (j := j) (x := y)
  have hol := h.len
  obtain ⟨p, hp⟩ : ∃ p, place s o = p := ⟨_, rfl⟩
  rw [hp] at hcp hp2 hpb ⊢
  clear hp1 hp
  have HL := hid hol
  clear hol
  go_enter Try.func25, Try.ntmps25
  go_wp2
  go_loop [5] (fun i => ∃ j : Nat, j ≤ p ∧ i = .int .i64 (j : Int)) (fun i => p - (intOf i).toNat)
  case atStart => exact ⟨0, Nat.zero_le _, rfl⟩
  case round =>
    obtain ⟨j, hj, rfl⟩ := hrel
    have hjI : (j : Int) < (n : Int) := by omega
    by_cases hjp : j < p
    · obtain ⟨y, hy⟩ : ∃ y, o[j]? = some y := ⟨_, List.getElem?_eq_getElem (by rw [HL.out]; omega)⟩
      have hcy := hcell _ _ hy
      have hyx : (y != s) = true := by have := hpb j y hjp hy; simpa using this
      clear hy hpb hcell
      go_wp2
      go_round
      case rel => exact ⟨j + 1, by omega, by go_num⟩
      case measure => simp [intOf]; omega
    · obtain rfl : j = p := by omega
      have hss : (s != s) = false := by simp
      clear hpb hcell
      go_wp2
      go_ret
      exact ⟨rfl, rfl⟩

set_option maxHeartbeats 800000 in
theorem l4Front_c (A : Option Addr) (c B : Nat) (o : List Int) (p : Nat) (w : World) (h : Row w B A 8 c o) (hB : B ≤ w.heap.size) (hp : p < 8) :
    Calls Try.prog 23 #[.slice A 8 c, .int .i64 (p : Int)] w (PSl w (toF o p)) := by
  obtain ⟨b, off, x0, rfl, hb, hcx, hx, -⟩ := h.step hp
  have hpI : (p : Int) < 8 := by omega
  have hfin : toF o p = x0 :: (o.take 8).eraseIdx p := by
    have e8 : o.take 8 = o := List.take_of_length_le (by rw [h.len]; exact Nat.le_refl _)
    rw [e8, toF, List.eraseIdx_eq_take_drop_succ]
    simp [List.getD, hx]
  have HF := hid hfin
  clear hx hfin
  have ho0 : Own (w.alloc (.cells #[.int .i64 x0] 3)) w.heap.size (some ⟨w.heap.size, 0, none⟩) 1 1 [x0] := Own.lit w [x0] rfl (by omega) (Nat.le_refl _)
  go_enter Try.func23, Try.ntmps23
  go_wp2
  go_loopw [5, 6] (fun v i wr => ∃ (k m : Nat) (D : Option Addr) (d : Nat), k ≤ 8 ∧ m ≤ k + 1 ∧ v = .slice D m d ∧ i = .int .i64 (k : Int) ∧ Own wr w.heap.size D m d (x0 :: (o.take k).eraseIdx p) ∧ Below w.heap.size w wr) (fun _ i _ => 8 - (intOf i).toNat)
  case atStart => exact ⟨0, 1, _, 1, by omega, by omega, rfl, rfl, ho0, (Below.refl _ _).alloc (Nat.le_refl _) _⟩
  case round =>
    obtain ⟨k, m, D, d, hk, hm, rfl, rfl, hown, hbel⟩ := hrel
    have hsz := hbel.size
    by_cases hlt : k < 8
    · obtain ⟨b', off', y, e', hb', hcy, hy, -⟩ := (h.below (hbel.mono hB)).step hlt
      injection e' with e'; injection e' with e1 e2; subst e1; subst e2
      have HT := hid (erase_step (p := p) hy)
      have hkI : (k : Int) < 8 := by omega
      clear hy
      by_cases hkp : k = p
      · subst hkp
        have hne : ((k : Int) != (k : Int)) = false := by simp
        go_wp2
        go_roundw
        case rel => exact ⟨k + 1, m, D, d, by omega, by omega, rfl, by go_num, by rw [HT.out, if_pos rfl]; exact hown, hbel⟩
        case measure => simp [intOf]; omega
      · have hne : ((k : Int) != (p : Int)) = true := by simp; omega
        go_wp2_with (at_builtin; refine wpList_push rfl _ _ rfl rfl hown rfl (by omega) hsz ?_; intro D2 d2 w2 hown2 hg2 hb2)
        go_roundw
        case rel => exact ⟨k + 1, m + 1, D2, d2, by omega, by omega, rfl, by go_num, by rw [HT.out, if_neg hkp]; exact hown2, hbel.trans hb2⟩
        case measure => simp [intOf]; omega
    · obtain rfl : k = 8 := by omega
      rw [← HF.out] at hown
      go_wp2
      go_ret
      exact PSl.mk hown.len hown hbel

set_option maxHeartbeats 1600000 in
theorem FrontOf_s_c (A : Option Addr) (n c B : Nat) (xs : List Int) (w : World) (h : Row w B A n c xs) (hB : B ≤ w.heap.size) : Calls Try.prog 15 #[.slice A n c] w (PSl w (frontF xs)) := by
  have hsm := h.small
  have ho0 : Own (w.alloc (.cells #[] 3)) w.heap.size (some ⟨w.heap.size, 0, none⟩) 0 0 [] := Own.lit w [] rfl (by omega) (Nat.le_refl _)
  have hb0 : Below w.heap.size w (w.alloc (.cells #[] 3)) := (Below.refl _ _).alloc (Nat.le_refl _) _
  rcases hv : listV xs with _ | _
  · rw [frontF_no hv]
    have hn0 : 0 < n := by
      rcases Nat.eq_zero_or_pos n with e | e
      · exfalso
        rw [h.nodes e] at hv; cases hv
      · exact e
    have hnI : (0 : Int) < (n : Int) := by omega
    go_enter Try.func15, Try.ntmps15
    go_wp2_with fail
    refine (l4Order_c _).mono ?_
    rintro e w1 ⟨D1, d1, rfl, O1, b1⟩
    have hb1 := hb0.trans (b1.mono hb0.size)
    have ho1 := ho0.below b1 (Nat.le_refl _)
    go_wp2
    refine wp_loop_rounds 1 ?_
    rw [rounds_succ]
    go_wp2_with (go_at_call 19; refine (ListValid_s_c _ _ _ _ _ _ (h.below (hb1.mono hB))).mono ?_; rintro e w' ⟨rfl, rfl⟩)
    go_ret
    exact PSl.mk rfl ho1 hb1
  · rw [frontF_yes hv]
    obtain ⟨h40, hev⟩ := listV_iff.1 hv
    rw [h.len] at h40
    go_enter Try.func15, Try.ntmps15
    go_wp2_with fail
    refine (l4Order_c _).mono ?_
    rintro e w1 ⟨D1, d1, rfl, O1, b1⟩
    have hb1 := hb0.trans (b1.mono hb0.size)
    have ho1 := ho0.below b1 (Nat.le_refl _)
    have hor1 := O1.mono hb0.size
    obtain ⟨g1, rfl, hg1, -⟩ := O1.at_ (by decide)
    have hne0 : (some (⟨w.heap.size, 0, none⟩ : Addr)).map (·.block) ≠ some g1 := by
      intro e; simp at e; simp at hg1; omega
    rw [show ord8.length = 8 from rfl] at hor1
    clear O1
    rw [show ord8.length = 8 from rfl]
    go_wp2_with fail
    go_loopw [3, 4, 5] (fun v u i wr => ∃ (k : Nat) (D : Option Addr) (d : Nat) (ys : List Int) (g e : Nat) (o : List Int), k ≤ n ∧ v = .slice D k d ∧ u = .slice (some ⟨g, 0, none⟩) 8 e ∧ i = .int .i64 (k : Int) ∧ Own wr w.heap.size D k d ys ∧ Own wr w.heap.size (some ⟨g, 0, none⟩) 8 e o ∧ Ord o ∧ frontL ord8 xs = ys ++ frontL o (xs.drop k) ∧ D.map (·.block) ≠ some g ∧ Below w.heap.size w wr) (fun _ _ i _ => n - (intOf i).toNat)
    case atStart => exact ⟨0, _, 0, [], g1, d1, ord8, Nat.zero_le _, rfl, rfl, rfl, ho1, hor1, ord8_ord, rfl, hne0, hb1⟩
    case round =>
      obtain ⟨k, D, d, ys, g, e, o, hk, rfl, rfl, rfl, hown, hord, hO, he, hne, hbel⟩ := hrel
      have HE := hid he
      have hsz := hbel.size
      have hrow := h.below (hbel.mono hB)
      clear he
      by_cases hlt : k < n
      · obtain ⟨b, off, x, rfl, hbb, hcx, hx, hd⟩ := hrow.step hlt
        have hxb := everyB_get hev hx
        have HD := hid hd
        have hkI : (k : Int) < (n : Int) := by omega
        clear hd hx
        obtain ⟨hp1, hp2⟩ := hO.place hxb
        have kp := l4Place_c (some ⟨g, 0, none⟩) 8 e _ o x wr hord.row (hO.mem hxb)
        obtain ⟨p, hp⟩ : ∃ p, place x o = p := ⟨_, rfl⟩
        have HF := hid (show frontL o (x :: xs.drop (k + 1)) = (p : Int) :: frontL (toF o p) (xs.drop (k + 1)) by rw [frontL_cons, hp])
        rw [hp] at hp1 hp2 kp
        clear hp hp1
        have hOf := hO.front hp2
        go_wp2_with (go_at_call 19; refine (ListValid_s_c _ _ _ _ _ _ hrow).mono ?_; rintro e w' ⟨rfl, rfl⟩)
        refine kp.mono ?_
        rintro _ w' ⟨rfl, rfl⟩
        clear kp
        go_wp2_with (at_builtin; refine wpList_push_at rfl _ _ rfl rfl hown rfl rfl (by omega) hsz ?_; intro D6 d6 w6 hown6 hg6 hb6 hne6; have hord6 := hord.kept hg6 (.inr (fun e => hne e.symm)); have hb16 := hbel.trans hb6; have hz16 := hb16.size)
        refine (l4Front_c (some ⟨g, 0, none⟩) e _ o p w6 hord6.row (Nat.le_refl _) hp2).mono ?_
        rintro _ w7 ⟨D7, d7, rfl, O7, b7⟩
        have hl7 : (toF o p).length = 8 := hOf.len
        rw [hl7] at O7
        rw [hl7]
        clear hl7
        obtain ⟨g7, rfl, hg7, hg7l⟩ := O7.at_ (by omega)
        have hown7 := hown6.below b7 (Nat.le_refl _)
        have hne7 : D6.map (·.block) ≠ some g7 := by
          intro e2
          rcases hown6.form with ⟨rfl, _⟩ | ⟨g8, _, rfl, _, h8, _⟩
          · cases e2
          · injection e2 with e2; simp only at e2; omega
        go_wp2
        go_roundw
        case rel => exact ⟨k + 1, D6, d6, _, g7, d7, toF o p, by omega, rfl, rfl, by go_num, hown7, O7.mono hz16, hOf, by rw [HE.out, HD.out, HF.out, List.append_assoc]; rfl, hne7, hb16.trans (b7.mono hz16)⟩
        case measure => simp [intOf]; omega
      · obtain rfl : k = n := by omega
        have hd := h.full (k := k) (Nat.le_refl _)
        have e : frontL ord8 xs = ys := by rw [HE.out, hd]; exact List.append_nil _
        clear hd
        have HH := hid e
        clear e
        go_wp2
        go_ret
        rw [HH.out]
        exact PSl.mk hown.len hown hbel

set_option maxHeartbeats 1600000 in
theorem FrontBack_s_c (A : Option Addr) (n c B : Nat) (xs : List Int) (w : World) (h : Row w B A n c xs) (hB : B ≤ w.heap.size) : Calls Try.prog 9 #[.slice A n c] w (PSl w (backF xs)) := by
  have hsm := h.small
  have ho0 : Own (w.alloc (.cells #[] 3)) w.heap.size (some ⟨w.heap.size, 0, none⟩) 0 0 [] := Own.lit w [] rfl (by omega) (Nat.le_refl _)
  have hb0 : Below w.heap.size w (w.alloc (.cells #[] 3)) := (Below.refl _ _).alloc (Nat.le_refl _) _
  rcases hv : listV xs with _ | _
  · rw [backF_no hv]
    have hn0 : 0 < n := by
      rcases Nat.eq_zero_or_pos n with e | e
      · exfalso
        rw [h.nodes e] at hv; cases hv
      · exact e
    have hnI : (0 : Int) < (n : Int) := by omega
    go_enter Try.func9, Try.ntmps9
    go_wp2_with fail
    refine (l4Order_c _).mono ?_
    rintro e w1 ⟨D1, d1, rfl, O1, b1⟩
    have hb1 := hb0.trans (b1.mono hb0.size)
    have ho1 := ho0.below b1 (Nat.le_refl _)
    go_wp2
    refine wp_loop_rounds 1 ?_
    rw [rounds_succ]
    go_wp2_with (go_at_call 19; refine (ListValid_s_c _ _ _ _ _ _ (h.below (hb1.mono hB))).mono ?_; rintro e w' ⟨rfl, rfl⟩)
    go_ret
    exact PSl.mk rfl ho1 hb1
  · rw [backF_yes hv]
    obtain ⟨h40, hev⟩ := listV_iff.1 hv
    rw [h.len] at h40
    go_enter Try.func9, Try.ntmps9
    go_wp2_with fail
    refine (l4Order_c _).mono ?_
    rintro e w1 ⟨D1, d1, rfl, O1, b1⟩
    have hb1 := hb0.trans (b1.mono hb0.size)
    have ho1 := ho0.below b1 (Nat.le_refl _)
    have hor1 := O1.mono hb0.size
    obtain ⟨g1, rfl, hg1, -⟩ := O1.at_ (by decide)
    have hne0 : (some (⟨w.heap.size, 0, none⟩ : Addr)).map (·.block) ≠ some g1 := by
      intro e; simp at e; simp at hg1; omega
    rw [show ord8.length = 8 from rfl] at hor1
    clear O1
    rw [show ord8.length = 8 from rfl]
    go_wp2_with fail
    go_loopw [3, 4, 5] (fun v u i wr => ∃ (k : Nat) (D : Option Addr) (d : Nat) (ys : List Int) (g e : Nat) (o : List Int), k ≤ n ∧ v = .slice D k d ∧ u = .slice (some ⟨g, 0, none⟩) 8 e ∧ i = .int .i64 (k : Int) ∧ Own wr w.heap.size D k d ys ∧ Own wr w.heap.size (some ⟨g, 0, none⟩) 8 e o ∧ Ord o ∧ backL ord8 xs = ys ++ backL o (xs.drop k) ∧ D.map (·.block) ≠ some g ∧ Below w.heap.size w wr) (fun _ _ i _ => n - (intOf i).toNat)
    case atStart => exact ⟨0, _, 0, [], g1, d1, ord8, Nat.zero_le _, rfl, rfl, rfl, ho1, hor1, ord8_ord, rfl, hne0, hb1⟩
    case round =>
      obtain ⟨k, D, d, ys, g, e, o, hk, rfl, rfl, rfl, hown, hord, hO, he, hne, hbel⟩ := hrel
      have HE := hid he
      have hsz := hbel.size
      have hrow := h.below (hbel.mono hB)
      clear he
      by_cases hlt : k < n
      · obtain ⟨b, off, x, rfl, hbb, hcx, hx, hd⟩ := hrow.step hlt
        have hxb := everyB_get hev hx
        obtain ⟨p, rfl⟩ := Int.eq_ofNat_of_zero_le hxb.1
        have hp2 : p < 8 := by omega
        have hpI : (p : Int) < 8 := by omega
        obtain ⟨x0, hp1⟩ : ∃ x0, o[p]? = some x0 := ⟨_, List.getElem?_eq_getElem (by rw [hO.len]; exact hp2)⟩
        have HF := hid (show backL o ((p : Int) :: xs.drop (k + 1)) = x0 :: backL (toF o p) (xs.drop (k + 1)) by rw [backL_cons, Int.toNat_natCast]; simp [List.getD, hp1])
        have hcp := hord.cellAt hp1
        have HD := hid hd
        have HX := hid hx
        have hkI : (k : Int) < (n : Int) := by omega
        have hOf := hO.front hp2
        clear hd hx hp1
        go_wp2_with (first | (go_at_call 19; refine (ListValid_s_c _ _ _ _ _ _ hrow).mono ?_; rintro e w' ⟨rfl, rfl⟩) | (at_builtin; refine wpList_push_at rfl _ _ rfl rfl hown rfl rfl (by omega) hsz ?_; intro D6 d6 w6 hown6 hg6 hb6 hne6; have hord6 := hord.kept hg6 (.inr (fun e => hne e.symm)); have hb16 := hbel.trans hb6; have hz16 := hb16.size; obtain ⟨b', off', e', -, hcell'⟩ := (h.below (hb16.mono hB)).at_ (by omega); injection e' with e'; injection e' with e1 e2; subst e1; subst e2; have hc3 := hcell' k _ HX.out; clear hcell'))
        refine (l4Front_c (some ⟨g, 0, none⟩) e _ o p w6 hord6.row (Nat.le_refl _) hp2).mono ?_
        rintro _ w7 ⟨D7, d7, rfl, O7, b7⟩
        have hl7 : (toF o p).length = 8 := hOf.len
        rw [hl7] at O7
        rw [hl7]
        clear hl7
        obtain ⟨g7, rfl, hg7, hg7l⟩ := O7.at_ (by omega)
        have hown7 := hown6.below b7 (Nat.le_refl _)
        have hne7 : D6.map (·.block) ≠ some g7 := by
          intro e2
          rcases hown6.form with ⟨rfl, _⟩ | ⟨g8, _, rfl, _, h8, _⟩
          · cases e2
          · injection e2 with e2; simp only at e2; omega
        go_wp2
        go_roundw
        case rel => exact ⟨k + 1, D6, d6, _, g7, d7, toF o p, by omega, rfl, rfl, by go_num, hown7, O7.mono hz16, hOf, by rw [HE.out, HD.out, HF.out, List.append_assoc]; rfl, hne7, hb16.trans (b7.mono hz16)⟩
        case measure => simp [intOf]; omega
      · obtain rfl : k = n := by omega
        have hd := h.full (k := k) (Nat.le_refl _)
        have e : backL ord8 xs = ys := by rw [HE.out, hd]; exact List.append_nil _
        clear hd
        have HH := hid e
        clear e
        go_wp2
        go_ret
        rw [HH.out]
        exact PSl.mk hown.len hown hbel
end Go.Proofs.Ytibccpmooialiaa
