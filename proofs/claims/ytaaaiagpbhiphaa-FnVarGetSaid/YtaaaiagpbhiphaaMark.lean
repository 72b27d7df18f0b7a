/- Contracts of markIntS and heldIntS. No condition. -/
import Derived.Test.YtaaaiagpbhiphaaBase
namespace Go.Proofs.Ytaaaiagpbhiphaa
open Go.RowKit

/-- k, k + 1, .. : m numbers. -/
def iotaL (k : Int) : Nat → List Int
  | 0 => []
  | m + 1 => k :: iotaL (k + 1) m
theorem iotaL_len (m : Nat) : ∀ k, (iotaL k m).length = m := by
  induction m with
  | zero => intro k; rfl
  | succ m ih => intro k; rw [iotaL, List.length_cons, ih]
theorem iotaL_get (m : Nat) : ∀ (k : Int) (j : Nat), j < m → (iotaL k m)[j]? = some (k + (j : Int)) := by
  induction m with
  | zero => intro k j h; omega
  | succ m ih =>
    intro k j h
    cases j with
    | zero => simp [iotaL]
    | succ j => rw [iotaL, List.getElem?_cons_succ, ih _ _ (by omega)]; congr 1; omega
/-- The list under way in markIntS: the first i numbers are written. -/
def marked (xs : List Int) (i : Nat) : List Int := iotaL 1 i ++ xs.drop i
theorem iotaL_snoc (m : Nat) : ∀ k, iotaL k (m + 1) = iotaL k m ++ [k + (m : Int)] := by
  induction m with
  | zero => intro k; simp [iotaL]
  | succ m ih => intro k; rw [iotaL, ih, iotaL, List.cons_append]; congr 3; omega
theorem marked_set {xs : List Int} {i : Nat} {x : Int} (hd : xs.drop i = x :: xs.drop (i + 1)) : (marked xs i).set i (1 + (i : Int)) = marked xs (i + 1) := by
  unfold marked
  rw [hd, List.set_append_right _ _ (by rw [iotaL_len]; omega), iotaL_len, Nat.sub_self, List.set_cons_zero, iotaL_snoc, List.append_assoc]; rfl
theorem marked_get {xs : List Int} {i : Nat} {x : Int} (hd : xs.drop i = x :: xs.drop (i + 1)) : (marked xs i)[i]? = some x := by
  unfold marked
  rw [hd, List.getElem?_append_right (by rw [iotaL_len]; omega), iotaL_len, Nat.sub_self]; rfl
theorem marked_end {xs : List Int} {n : Nat} (h : xs.length ≤ n) : marked xs n = iotaL 1 n := by
  unfold marked; rw [List.drop_eq_nil_of_le h, List.append_nil]

theorem Own.rowBlock {w : World} {base n c : Nat} {A : Option Addr} {xs : List Int} (h : Own w base A n c xs) : ∀ k, A.map (·.block) = some k → base ≤ k := by
  intro k hk
  rcases h.form with ⟨rfl, _⟩ | ⟨g, _, rfl, hg, _⟩
  · cases hk
  · injection hk with hk; subst hk; exact hg
/-- A row of the call's own stays while another one is written. -/
theorem Own.apart {w w' : World} {base n c : Nat} {A D : Option Addr} {xs : List Int} (h : Own w base A n c xs) (hg : w.grownBy w' (D.map (·.block))) (hD : ∀ k, D.map (·.block) = some k → k < base) : Own w' base A n c xs := by
  refine h.kept hg ?_
  rcases h.form with ⟨rfl, _⟩ | ⟨g, _, rfl, h2, _⟩
  · exact .inl rfl
  · refine .inr (fun e => ?_)
    have := hD g e.symm
    omega
theorem Own.rowUnder {w : World} {base n c : Nat} {A : Option Addr} {xs : List Int} (h : Own w base A n c xs) : ∀ k, A.map (·.block) = some k → k < w.heap.size := by
  intro k hk
  rcases h.form with ⟨rfl, _⟩ | ⟨g, _, rfl, hg, hl, _⟩
  · cases hk
  · injection hk with hk; subst hk; exact hl

/-- markIntS(a, 1) writes 1, 2, .. into a row of the call's own. -/
theorem markIntS_c (A : Option Addr) (n c base : Nat) (xs : List Int) (w : World) (h : Own w base A n c xs) (hb : base ≤ w.heap.size) :
    Calls Try.prog 23 #[.slice A n c, .int .i64 1] w (fun e w' => e = .returned (.int .i64 (1 + (n : Int))) ∧ Own w' base A n c (iotaL 1 n) ∧ w.grownBy w' (A.map (·.block)) ∧ Below base w w') := by
  have hs := h.2
  have hrb := h.rowBlock
  go_enter Try.func23, Try.ntmps23
  go_wp2
  go_loopw [1, 5] (fun v i wr => ∃ k : Nat, k ≤ n ∧ v = .int .i64 (1 + (k : Int)) ∧ i = .int .i64 k ∧ Own wr base A n c (marked xs k) ∧ w.grownBy wr (A.map (·.block))) (fun _ i _ => n - (intOf i).toNat)
  case atStart => exact ⟨0, Nat.zero_le _, rfl, rfl, h, World.grownBy.refl _ _⟩
  case round =>
    obtain ⟨k, hk, rfl, rfl, hown, hgr⟩ := hrel
    by_cases hlt : k < n
    · obtain ⟨x, -, hd⟩ := drop_cons (xs := xs) (k := k) (by rw [h.len]; exact hlt)
      obtain ⟨g, rfl, hgb, hgl⟩ := hown.at_ (by omega)
      have hc := hown.cellAt (marked_get hd)
      have hf := hown.frozenAt k
      have h2 := hown.stored k (1 + (k : Int))
      rw [marked_set hd] at h2
      have hg2 : wr.grownBy (wr.setCell ⟨g, k, none⟩ (.int .i64 (1 + (k : Int)))) (some g) :=
        ⟨rfl, rfl, rfl, by simp, fun j _ hj => Below.heap_setCell _ _ _ _ (fun e => hj (by rw [e]))⟩
      have H2 := hid h2
      have HG := hid (grown_trans hgr hg2)
      clear hd h2 hg2
      go_wp2
      go_roundw
      case rel => exact ⟨k + 1, by omega, by go_num, by go_num, H2.out, HG.out⟩
      case measure => simp [intOf]; omega
    · obtain rfl : k = n := by omega
      go_wp2
      go_ret
      rw [marked_end (by rw [h.len]; exact Nat.le_refl _)] at hown
      exact ⟨rfl, hown, hgr, ⟨hgr.os, hgr.tape, hgr.output, hgr.size, fun j hj => hgr.block j (by omega) (fun e => by have := hrb j e.symm; omega)⟩⟩

theorem heldIntS_c (A : Option Addr) (n c B : Nat) (w : World) (h : Row w B A n c (iotaL 1 n)) :
    Calls Try.prog 24 #[.slice A n c, .int .i64 1] w (fun e w' => e = .returned (.int .i64 (1 + (n : Int))) ∧ w = w') := by
  have hs := h.small
  go_enter Try.func24, Try.ntmps24
  go_wp2
  go_loop [1, 5] (fun v i => ∃ k : Nat, k ≤ n ∧ v = .int .i64 (1 + (k : Int)) ∧ i = .int .i64 k) (fun _ i => n - (intOf i).toNat)
  case atStart => exact ⟨0, Nat.zero_le _, rfl, rfl⟩
  case round =>
    obtain ⟨k, hk, rfl, rfl⟩ := hrel
    by_cases hlt : k < n
    · obtain ⟨b, off, rfl, hb, hc⟩ := h.at_ (by omega)
      have hc' := hc k _ (iotaL_get n 1 k hlt)
      clear hc
      go_wp2
      go_round
      case rel => exact ⟨k + 1, by omega, by go_num, by go_num⟩
      case measure => simp [intOf]; omega
    · obtain rfl : k = n := by omega
      go_wp2
      go_ret
      exact ⟨rfl, rfl⟩
end Go.Proofs.Ytaaaiagpbhiphaa
