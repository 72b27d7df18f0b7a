/- Plain functions of the moves to the front, and the laws on them. No program in sight. No condition. -/
import Derived.Test.YtibccpmooialiaaCountsP
namespace Go.Proofs.Ytibccpmooialiaa
def ord8 : List Int := [0, 1, 2, 3, 4, 5, 6, 7]
/-- The place of the first s. -/
def place (s : Int) : List Int → Nat
  | [] => 0
  | x :: xs => if x = s then 0 else place s xs + 1
/-- What is at a place goes to the front. -/
def toF (o : List Int) (p : Nat) : List Int := o.getD p 0 :: (o.take p ++ o.drop (p + 1))
def frontL (o : List Int) : List Int → List Int
  | [] => []
  | s :: xs => (place s o : Int) :: frontL (toF o (place s o)) xs
def backL (o : List Int) : List Int → List Int
  | [] => []
  | p :: ps => o.getD p.toNat 0 :: backL (toF o p.toNat) ps
def frontF (xs : List Int) : List Int := if listV xs = true then frontL ord8 xs else []
def backF (xs : List Int) : List Int := if listV xs = true then backL ord8 xs else []
theorem frontL_cons (o : List Int) (s : Int) (xs : List Int) : frontL o (s :: xs) = (place s o : Int) :: frontL (toF o (place s o)) xs := rfl
theorem backL_cons (o : List Int) (p : Int) (ps : List Int) : backL o (p :: ps) = o.getD p.toNat 0 :: backL (toF o p.toNat) ps := rfl
theorem frontF_yes {xs : List Int} (h : listV xs = true) : frontF xs = frontL ord8 xs := if_pos h
theorem frontF_no {xs : List Int} (h : listV xs = false) : frontF xs = [] := if_neg (by rw [h]; decide)
theorem backF_yes {xs : List Int} (h : listV xs = true) : backF xs = backL ord8 xs := if_pos h
theorem backF_no {xs : List Int} (h : listV xs = false) : backF xs = [] := if_neg (by rw [h]; decide)
theorem frontL_len : ∀ (xs o : List Int), (frontL o xs).length = xs.length
  | [], _ => rfl
  | s :: xs, o => by rw [frontL_cons, List.length_cons, frontL_len xs, List.length_cons]
theorem backL_len : ∀ (xs o : List Int), (backL o xs).length = xs.length
  | [], _ => rfl
  | s :: xs, o => by rw [backL_cons, List.length_cons, backL_len xs, List.length_cons]
theorem place_at {s : Int} : ∀ {o : List Int}, s ∈ o → o[place s o]? = some s
  | [], h => by cases h
  | x :: o, h => by
    by_cases e : x = s
    · rw [place, if_pos e]; simp [e]
    · rw [place, if_neg e, List.getElem?_cons_succ]
      exact place_at ((List.mem_cons.1 h).resolve_left (fun q => e q.symm))
theorem place_before {s : Int} : ∀ {o : List Int} {j : Nat} {x : Int}, j < place s o → o[j]? = some x → x ≠ s
  | [], j, x, h, _ => by simp [place] at h
  | y :: o, j, x, h, hx => by
    by_cases e : y = s
    · rw [place, if_pos e] at h; omega
    · rw [place, if_neg e] at h
      cases j with
      | zero => rw [List.getElem?_cons_zero] at hx; injection hx with hx; rw [← hx]; exact e
      | succ j => rw [List.getElem?_cons_succ] at hx; exact place_before (by omega) hx
theorem place_unique {s : Int} : ∀ {o : List Int} {p : Nat}, o.Nodup → o[p]? = some s → place s o = p
  | [], p, _, h => by simp at h
  | y :: o, 0, _, h => by rw [List.getElem?_cons_zero] at h; injection h with h; rw [place, if_pos h]
  | y :: o, p + 1, hn, h => by
    rw [List.getElem?_cons_succ] at h
    have hm : s ∈ o := List.mem_of_getElem? h
    have hne : ¬ y = s := fun e => (List.nodup_cons.1 hn).1 (e ▸ hm)
    rw [place, if_neg hne, place_unique (List.nodup_cons.1 hn).2 h]
theorem toF_perm {o : List Int} {p : Nat} {s : Int} (h : o[p]? = some s) : (toF o p).Perm o := by
  have e : o = o.take p ++ s :: o.drop (p + 1) := by
    have hl := (List.getElem?_eq_some_iff.1 h).1
    have := List.drop_eq_getElem_cons hl
    rw [(List.getElem?_eq_some_iff.1 h).2] at this
    rw [← this, List.take_append_drop]
  have g : o.getD p 0 = s := by simp [List.getD, h]
  unfold toF
  rw [g]
  exact (List.perm_middle.symm).trans (List.Perm.of_eq e.symm)
/-- An order of the symbols. -/
def Ord (o : List Int) : Prop := o.Perm ord8
theorem Ord.len {o : List Int} (h : Ord o) : o.length = 8 := h.length_eq
theorem Ord.nodup {o : List Int} (h : Ord o) : o.Nodup := h.symm.nodup (by decide)
theorem Ord.mem {o : List Int} (h : Ord o) {s : Int} (hs : 0 ≤ s ∧ s ≤ 7) : s ∈ o := by
  refine h.mem_iff.2 ?_
  have : s = 0 ∨ s = 1 ∨ s = 2 ∨ s = 3 ∨ s = 4 ∨ s = 5 ∨ s = 6 ∨ s = 7 := by omega
  simp [ord8, this]
theorem Ord.range {o : List Int} (h : Ord o) {s : Int} (hs : s ∈ o) : 0 ≤ s ∧ s ≤ 7 := by
  have := h.mem_iff.1 hs
  simp [ord8] at this
  omega
theorem ord8_ord : Ord ord8 := List.Perm.refl _
theorem Ord.front {o : List Int} (h : Ord o) {p : Nat} (hp : p < 8) : Ord (toF o p) :=
  (toF_perm (List.getElem?_eq_getElem (by rw [h.len]; exact hp))).trans h
theorem Ord.place {o : List Int} (h : Ord o) {s : Int} (hs : 0 ≤ s ∧ s ≤ 7) : o[place s o]? = some s ∧ place s o < 8 := by
  have e := place_at (h.mem hs)
  exact ⟨e, by have := (List.getElem?_eq_some_iff.1 e).1; rw [h.len] at this; exact this⟩
theorem back_front : ∀ (xs o : List Int), Ord o → everyB 0 7 xs = true → backL o (frontL o xs) = xs
  | [], _, _, _ => rfl
  | s :: xs, o, ho, hv => by
    rw [everyB_cons, Bool.and_eq_true, inB_iff] at hv
    obtain ⟨h1, h2⟩ := ho.place hv.1
    rw [frontL_cons, backL_cons, Int.toNat_natCast, back_front xs _ (ho.front h2) hv.2]
    simp [List.getD, h1]
theorem front_back : ∀ (ps o : List Int), Ord o → everyB 0 7 ps = true → frontL o (backL o ps) = ps
  | [], _, _, _ => rfl
  | p :: ps, o, ho, hv => by
    rw [everyB_cons, Bool.and_eq_true, inB_iff] at hv
    have hp : p.toNat < 8 := by omega
    have hx := List.getElem?_eq_getElem (l := o) (i := p.toNat) (by rw [ho.len]; exact hp)
    have g : o.getD p.toNat 0 = o[p.toNat]'(by rw [ho.len]; exact hp) := by simp [List.getD, hx]
    rw [backL_cons, g, frontL_cons, place_unique ho.nodup hx, front_back ps _ (ho.front hp) hv.2]
    congr 1; omega
theorem front_range : ∀ (xs o : List Int), Ord o → everyB 0 7 xs = true → everyB 0 7 (frontL o xs) = true
  | [], _, _, _ => rfl
  | s :: xs, o, ho, hv => by
    rw [everyB_cons, Bool.and_eq_true, inB_iff] at hv
    obtain ⟨h1, h2⟩ := ho.place hv.1
    rw [frontL_cons, everyB_cons, front_range xs _ (ho.front h2) hv.2, Bool.and_true, inB_iff]
    omega
theorem back_range : ∀ (xs o : List Int), Ord o → everyB 0 7 xs = true → everyB 0 7 (backL o xs) = true
  | [], _, _, _ => rfl
  | p :: ps, o, ho, hv => by
    rw [everyB_cons, Bool.and_eq_true, inB_iff] at hv
    have hp : p.toNat < 8 := by omega
    have hx := List.getElem?_eq_getElem (l := o) (i := p.toNat) (by rw [ho.len]; exact hp)
    have g : o.getD p.toNat 0 = o[p.toNat]'(by rw [ho.len]; exact hp) := by simp [List.getD, hx]
    rw [backL_cons, everyB_cons, back_range ps _ (ho.front hp) hv.2, Bool.and_true, inB_iff, g]
    exact ho.range (List.getElem_mem _)
theorem listV_front {xs : List Int} (h : listV xs = true) : listV (frontL ord8 xs) = true := by
  obtain ⟨h1, h2⟩ := listV_iff.1 h
  exact listV_iff.2 ⟨by rw [frontL_len]; exact h1, front_range _ _ ord8_ord h2⟩
theorem listV_back {xs : List Int} (h : listV xs = true) : listV (backL ord8 xs) = true := by
  obtain ⟨h1, h2⟩ := listV_iff.1 h
  exact listV_iff.2 ⟨by rw [backL_len]; exact h1, back_range _ _ ord8_ord h2⟩
theorem frontL_take : ∀ (xs o : List Int) (k : Nat), frontL o (xs.take k) = (frontL o xs).take k
  | [], _, k => by simp [frontL]
  | s :: xs, o, 0 => rfl
  | s :: xs, o, k + 1 => by rw [List.take_succ_cons, frontL_cons, frontL_cons, List.take_succ_cons, frontL_take xs]
/-- A symbol is at the place 0 just where it is the one before (at first: 0). -/
theorem frontL_again : ∀ (xs o : List Int) (last : Int), Ord o → everyB 0 7 xs = true → o[0]? = some last →
    ∀ (i : Nat) (u x l : Int), (frontL o xs)[i]? = some u → xs[i]? = some x → (if i = 0 then l = last else xs[i - 1]? = some l) → (u = 0 ↔ x = l)
  | [], _, _, _, _, _, i, u, x, l, hu, hx, hl => by simp at hx
  | s :: xs, o, last, ho, hv, h0, 0, u, x, l, hu, hx, hl => by
    rw [everyB_cons, Bool.and_eq_true, inB_iff] at hv
    rw [if_pos rfl] at hl
    subst hl
    rw [List.getElem?_cons_zero] at hx
    injection hx with hx; subst hx
    rw [frontL_cons, List.getElem?_cons_zero] at hu
    injection hu with hu; subst hu
    obtain ⟨h1, h2⟩ := ho.place hv.1
    refine ⟨fun e => ?_, fun e => ?_⟩
    · have e0 : place s o = 0 := by omega
      rw [e0, h0] at h1
      injection h1 with h1; exact h1.symm
    · subst e
      rw [place_unique ho.nodup h0]; rfl
  | s :: xs, o, last, ho, hv, h0, i + 1, u, x, l, hu, hx, hl => by
    rw [everyB_cons, Bool.and_eq_true, inB_iff] at hv
    obtain ⟨h1, h2⟩ := ho.place hv.1
    rw [if_neg (by omega)] at hl
    rw [frontL_cons, List.getElem?_cons_succ] at hu
    rw [List.getElem?_cons_succ] at hx
    refine frontL_again xs (toF o (place s o)) s (ho.front h2) hv.2 (by simp [toF, List.getD, h1]) i u x l hu hx ?_
    by_cases e : i = 0
    · subst e
      rw [if_pos rfl]
      simp at hl; exact hl.symm
    · rw [if_neg e]
      rw [show i + 1 - 1 = (i - 1) + 1 by omega, List.getElem?_cons_succ] at hl
      exact hl
end Go.Proofs.Ytibccpmooialiaa
