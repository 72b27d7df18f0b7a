/- Plain functions of the runs, and the laws on them. No program in sight. No condition. -/
import Derived.Test.YtlmbeinifnafaaaCountsP
namespace Go.Proofs.Ytlmbeinifnafaaa
/-- The runs of a list behind m symbols a. -/
def rG (a m : Int) : List Int → List (Int × Int)
  | [] => [(a, m)]
  | x :: xs => if x = a then rG a (m + 1) xs else (a, m) :: rG x 1 xs
def runsL : List Int → List (Int × Int)
  | [] => []
  | x :: xs => rG x 1 xs
def runsF (xs : List Int) : List (Int × Int) := if listV xs = true then runsL xs else []
theorem runsF_yes {xs : List Int} (h : listV xs = true) : runsF xs = runsL xs := if_pos h
theorem runsF_no {xs : List Int} (h : listV xs = false) : runsF xs = [] := if_neg (by rw [h]; decide)
theorem rG_same {a m x : Int} {xs : List Int} (h : x = a) : rG a m (x :: xs) = rG a (m + 1) xs := if_pos h
theorem rG_other {a m x : Int} {xs : List Int} (h : ¬ x = a) : rG a m (x :: xs) = (a, m) :: rG x 1 xs := if_neg h
/-- How often the symbol changes. -/
def chg (a : Int) : List Int → Nat
  | [] => 0
  | x :: xs => (if x = a then 0 else 1) + chg x xs
theorem rG_len : ∀ (xs : List Int) (a m : Int), (rG a m xs).length = 1 + chg a xs
  | [], _, _ => rfl
  | x :: xs, a, m => by
    by_cases h : x = a
    · subst h
      rw [rG_same rfl, rG_len xs, chg, if_pos rfl, Nat.zero_add]
    · rw [rG_other h, List.length_cons, rG_len xs, chg, if_neg h]; omega
theorem chg_le : ∀ (xs : List Int) (a : Int), chg a xs ≤ xs.length
  | [], _ => Nat.le_refl _
  | x :: xs, a => by
    have := chg_le xs x
    rw [chg, List.length_cons]; split <;> omega
theorem runsL_le (xs : List Int) : (runsL xs).length ≤ xs.length := by
  cases xs with
  | nil => exact Nat.le_refl _
  | cons x xs => rw [show runsL (x :: xs) = rG x 1 xs from rfl, rG_len, List.length_cons]; have := chg_le xs x; omega
theorem runsF_le (xs : List Int) : (runsF xs).length ≤ xs.length := by
  unfold runsF; split
  · exact runsL_le xs
  · exact Nat.zero_le _
/-- The first run is of the symbol a, and of as many as m at least; neighbours differ; each is of one symbol at least. -/
theorem rG_is : ∀ (xs : List Int) (a m : Int), 1 ≤ m → (∃ n, (rG a m xs)[0]? = some (a, n)) ∧
    (∀ (i : Nat) (r : Int × Int), (rG a m xs)[i]? = some r → 1 ≤ r.2) ∧ (∀ (i : Nat) (r s : Int × Int), (rG a m xs)[i]? = some r → (rG a m xs)[i + 1]? = some s → r.1 ≠ s.1)
  | [], a, m, hm => ⟨⟨m, rfl⟩, fun i r h => by
      cases i with
      | zero => simp [rG] at h; subst h; exact hm
      | succ i => simp [rG] at h, fun i r s _ h => by simp [rG] at h⟩
  | x :: xs, a, m, hm => by
    by_cases h : x = a
    · rw [rG_same h]; exact rG_is xs a (m + 1) (by omega)
    · rw [rG_other h]
      obtain ⟨⟨n, hn⟩, h2, h3⟩ := rG_is xs x 1 (by omega)
      refine ⟨⟨m, rfl⟩, fun i r hr => ?_, fun i r s hr hs => ?_⟩
      · cases i with
        | zero => simp at hr; subst hr; exact hm
        | succ i => rw [List.getElem?_cons_succ] at hr; exact h2 i r hr
      · rw [List.getElem?_cons_succ] at hs
        cases i with
        | zero =>
          simp at hr; subst hr
          rw [hn] at hs; injection hs with hs; subst hs
          exact fun e => h e.symm
        | succ i => rw [List.getElem?_cons_succ] at hr; exact h3 i r s hr hs
theorem runsF_is (xs : List Int) : (∀ (i : Nat) (r : Int × Int), (runsF xs)[i]? = some r → 1 ≤ r.2) ∧ (∀ (i : Nat) (r s : Int × Int), (runsF xs)[i]? = some r → (runsF xs)[i + 1]? = some s → r.1 ≠ s.1) := by
  unfold runsF; split
  · cases xs with
    | nil => exact ⟨fun i r h => by simp [runsL] at h, fun i r s h => by simp [runsL] at h⟩
    | cons x xs => exact ⟨(rG_is xs x 1 (by omega)).2.1, (rG_is xs x 1 (by omega)).2.2⟩
  · exact ⟨fun i r h => by simp at h, fun i r s h => by simp at h⟩

/-- May this run come behind a list of n symbols whose last run is of the symbol p? -/
def okR (p : Option Int) (n : Nat) (r : Int × Int) : Bool := inB 0 7 r.1 && inB 1 (40 - (n : Int)) r.2 && !(p == some r.1)
def rjA (p : Option Int) (out : List Int) : List (Int × Int) → List Int × Bool
  | [] => (out, true)
  | r :: rs => if okR p out.length r = true then rjA (some r.1) (out ++ List.replicate r.2.toNat r.1) rs else ([], false)
def rjF (rs : List (Int × Int)) : List Int × Bool := rjA none [] rs
theorem rjA_yes {p : Option Int} {out : List Int} {r : Int × Int} {rs : List (Int × Int)} (h : okR p out.length r = true) : rjA p out (r :: rs) = rjA (some r.1) (out ++ List.replicate r.2.toNat r.1) rs := if_pos h
theorem rjA_no {p : Option Int} {out : List Int} {r : Int × Int} {rs : List (Int × Int)} (h : okR p out.length r = false) : rjA p out (r :: rs) = ([], false) := if_neg (by rw [h]; decide)
theorem okR_iff {p : Option Int} {n : Nat} {r : Int × Int} : okR p n r = true ↔ (0 ≤ r.1 ∧ r.1 ≤ 7) ∧ (1 ≤ r.2 ∧ r.2 ≤ 40 - (n : Int)) ∧ p ≠ some r.1 := by
  rw [okR, Bool.and_eq_true, Bool.and_eq_true, inB_iff, inB_iff, and_assoc]; simp
theorem rep_succ (m : Nat) (a : Int) (xs : List Int) : List.replicate (m + 1) a ++ xs = List.replicate m a ++ (a :: xs) := by
  rw [List.replicate_succ', List.append_assoc]; rfl
theorem rj_rG : ∀ (xs : List Int) (p : Option Int) (out : List Int) (a : Int) (m : Nat), 1 ≤ m → p ≠ some a → 0 ≤ a ∧ a ≤ 7 → everyB 0 7 xs = true → out.length + m + xs.length ≤ 40 →
    rjA p out (rG a (m : Int) xs) = (out ++ (List.replicate m a ++ xs), true)
  | [], p, out, a, m, hm, hp, ha, hv, hl => by
    rw [List.length_nil] at hl
    rw [rG, rjA_yes (okR_iff.2 ⟨ha, by simp only []; omega, hp⟩), rjA, Int.toNat_natCast, List.append_nil]
  | x :: xs, p, out, a, m, hm, hp, ha, hv, hl => by
    rw [everyB_cons, Bool.and_eq_true, inB_iff] at hv
    rw [List.length_cons] at hl
    by_cases h : x = a
    · subst h
      rw [rG_same rfl, show (m : Int) + 1 = ((m + 1 : Nat) : Int) by omega, rj_rG xs p out x (m + 1) (by omega) hp ha hv.2 (by omega), rep_succ]
    · rw [rG_other h, rjA_yes (okR_iff.2 ⟨ha, by simp only []; omega, hp⟩), Int.toNat_natCast]
      have := rj_rG xs (some a) (out ++ List.replicate m a) x 1 (Nat.le_refl _) (fun e => h (by injection e with e; exact e.symm)) hv.1 hv.2 (by rw [List.length_append, List.length_replicate]; omega)
      rw [show ((1 : Nat) : Int) = 1 from rfl] at this
      rw [this, List.append_assoc]; rfl
/-- The runs of a valid list join to it. -/
theorem rj_runs {xs : List Int} (h : listV xs = true) : rjF (runsF xs) = (xs, true) := by
  obtain ⟨h1, h2⟩ := listV_iff.1 h
  rw [runsF_yes h]
  cases xs with
  | nil => rfl
  | cons x xs =>
    rw [everyB_cons, Bool.and_eq_true, inB_iff] at h2
    rw [List.length_cons] at h1
    have := rj_rG xs none [] x 1 (Nat.le_refl _) (by simp) h2.1 h2.2 (by rw [List.length_nil]; omega)
    exact this
theorem rG_rep : ∀ (m : Nat) (a k : Int) (xs : List Int), rG a k (List.replicate m a ++ xs) = rG a (k + (m : Int)) xs
  | 0, a, k, xs => by simp
  | m + 1, a, k, xs => by
    rw [List.replicate_succ, List.cons_append, rG_same rfl, rG_rep m]
    congr 1; omega
/-- What joined runs are: behind a list that ended in a run of p come the symbols t, whose runs are the rest. -/
theorem rjA_ok : ∀ (rs : List (Int × Int)) (p : Int) (out res : List Int), rjA (some p) out rs = (res, true) → out.length ≤ 40 → everyB 0 7 out = true →
    ∃ t, res = out ++ t ∧ res.length ≤ 40 ∧ everyB 0 7 res = true ∧ ∀ q, rG p q t = (p, q) :: rs
  | [], p, out, res, h, hl, hv => by
    rw [rjA] at h; injection h with h
    subst h
    exact ⟨[], (List.append_nil _).symm, hl, hv, fun q => rfl⟩
  | r :: rs, p, out, res, h, hl, hv => by
    by_cases hk : okR (some p) out.length r = true
    · rw [rjA_yes hk] at h
      obtain ⟨k1, k2, k3⟩ := okR_iff.1 hk
      have hrl : (out ++ List.replicate r.2.toNat r.1).length ≤ 40 := by rw [List.length_append, List.length_replicate]; omega
      have hrv : everyB 0 7 (out ++ List.replicate r.2.toNat r.1) = true := by
        rw [everyB_append, hv, Bool.true_and]
        exact List.all_eq_true.2 fun y hy => by rw [List.eq_of_mem_replicate hy]; exact inB_iff.2 k1
      obtain ⟨t, e, l, v, g⟩ := rjA_ok rs r.1 _ res h hrl hrv
      refine ⟨List.replicate r.2.toNat r.1 ++ t, by rw [e, List.append_assoc], l, v, fun q => ?_⟩
      obtain ⟨m, hm⟩ : ∃ m, r.2.toNat = m + 1 := ⟨r.2.toNat - 1, by omega⟩
      rw [hm, List.replicate_succ, List.cons_append, rG_other (fun e => k3 (by rw [e])), rG_rep, g]
      congr 2
      exact Prod.ext rfl (by simp only []; omega)
    · rw [Bool.not_eq_true] at hk
      rw [rjA_no hk] at h
      cases h
theorem rjF_ok {rs : List (Int × Int)} {res : List Int} (h : rjF rs = (res, true)) : listV res = true ∧ runsF res = rs := by
  cases rs with
  | nil =>
    rw [rjF, rjA] at h; injection h with h
    subst h; exact ⟨rfl, rfl⟩
  | cons r rs =>
    by_cases hk : okR none 0 r = true
    · rw [rjF, rjA_yes (out := []) hk, List.nil_append] at h
      obtain ⟨k1, k2, -⟩ := okR_iff.1 hk
      have hrl : (List.replicate r.2.toNat r.1).length ≤ 40 := by rw [List.length_replicate]; omega
      have hrv : everyB 0 7 (List.replicate r.2.toNat r.1) = true := List.all_eq_true.2 fun y hy => by rw [List.eq_of_mem_replicate hy]; exact inB_iff.2 k1
      obtain ⟨t, e, l, v, g⟩ := rjA_ok rs r.1 _ res h hrl hrv
      have hv := listV_iff.2 ⟨l, v⟩
      refine ⟨hv, ?_⟩
      rw [runsF_yes hv, e]
      obtain ⟨m, hm⟩ : ∃ m, r.2.toNat = m + 1 := ⟨r.2.toNat - 1, by omega⟩
      rw [hm, List.replicate_succ, List.cons_append, show runsL (r.1 :: (List.replicate m r.1 ++ t)) = rG r.1 1 (List.replicate m r.1 ++ t) from rfl, rG_rep, g]
      congr 1
      exact Prod.ext rfl (by simp only []; omega)
    · rw [Bool.not_eq_true] at hk
      rw [rjF, rjA_no (out := []) hk] at h
      cases h
/-- The greatest number of symbols of a run. -/
def mxL (m : Int) : List (Int × Int) → Int
  | [] => m
  | r :: rs => mxL (max m r.2) rs
theorem mxL_ge : ∀ (rs : List (Int × Int)) (m : Int), m ≤ mxL m rs ∧ ∀ r ∈ rs, r.2 ≤ mxL m rs
  | [], m => ⟨Int.le_refl _, fun _ h => by cases h⟩
  | r :: rs, m => by
    obtain ⟨a, b⟩ := mxL_ge rs (max m r.2)
    rw [mxL]
    refine ⟨by omega, fun x hx => ?_⟩
    rcases List.mem_cons.1 hx with e | e
    · subst e; omega
    · exact b x e
def anyQ (o : Int) (rs : List (Int × Int)) : Bool := rs.any fun r => r.2 == o
theorem mxL_any : ∀ (rs : List (Int × Int)) (m : Int), mxL m rs = m ∨ anyQ (mxL m rs) rs = true
  | [], m => .inl rfl
  | r :: rs, m => by
    rw [mxL]
    rcases mxL_any rs (max m r.2) with h | h
    · by_cases e : r.2 ≤ m
      · left; rw [h]; omega
      · right
        rw [h, anyQ, List.any_cons]
        have : r.2 = max m r.2 := by omega
        rw [← this]; simp
    · right
      rw [anyQ, List.any_cons]
      rw [anyQ] at h
      rw [h, Bool.or_true]
def longF (xs : List Int) : Int := if listV xs = true then mxL 0 (runsL xs) else -1
theorem longF_yes {xs : List Int} (h : listV xs = true) : longF xs = mxL 0 (runsF xs) := by rw [runsF_yes h]; exact if_pos h
theorem longF_no {xs : List Int} (h : listV xs = false) : longF xs = -1 := if_neg (by rw [h]; decide)
/-- The longest run is one of the runs, if there is any. -/
theorem long_any {xs : List Int} (h : listV xs = true) (hn : runsF xs ≠ []) : anyQ (longF xs) (runsF xs) = true := by
  rw [longF_yes h]
  rcases mxL_any (runsF xs) 0 with e | e
  · exfalso
    obtain ⟨r, rs, hr⟩ := List.exists_cons_of_ne_nil hn
    have h1 := (runsF_is xs).1 0 r (by rw [hr]; rfl)
    have h2 := (mxL_ge (runsF xs) 0).2 r (by rw [hr]; exact List.mem_cons_self)
    omega
  · exact e
end Go.Proofs.Ytlmbeinifnafaaa
