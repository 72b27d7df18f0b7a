/- Contracts of the laws' helpers on runs: equality of slices of runs, marks, copies. No condition. -/
import Derived.Test.YtlmbeinifnafaaaBase
import Derived.Test.YtlmbeinifnafaaaKitR
import Derived.Deep.RegionWith
namespace Go.Proofs.Ytlmbeinifnafaaa
open Go.RowKit
set_option linter.unusedVariables false

theorem beqR_cons (r s : Int × Int) (rs ss : List (Int × Int)) : (r :: rs == s :: ss) = ((r == s) && (rs == ss)) := rfl
theorem beqR_ne_len {rs ss : List (Int × Int)} (h : rs.length ≠ ss.length) : (rs == ss) = false := by
  rw [beq_eq_false_iff_ne]; intro e; exact h (by rw [e])
theorem beqR_pair (a m b q : Int) : ((a, m) == (b, q)) = ((a == b) && (m == q)) := rfl

theorem eqRun_c (a m b q : Int) (w : World) : Calls Try.prog 41 #[.agg #[.int .i64 a, .int .i64 m], .agg #[.int .i64 b, .int .i64 q]] w (fun e w' => e = .returned (.bool ((a, m) == (b, q))) ∧ Below w.heap.size w w') := by
  have hbel : Below w.heap.size w ((w.alloc (.cells #[.int .i64 a, .int .i64 m] 43)).alloc (.cells #[.int .i64 b, .int .i64 q] 43)) := ((Below.refl _ _).alloc (Nat.le_refl _) _).alloc (by simp) _
  rw [beqR_pair]
  rcases h1 : a == b with _ | _
  · have n1 : (a != b) = true := by rw [bne, h1]; rfl
    go_enter Try.func41, Try.ntmps41
    go_wp2
    go_ret
    exact ⟨rfl, hbel⟩
  · have n1 : (a != b) = false := by rw [bne, h1]; rfl
    rcases h2 : m == q with _ | _
    · have n2 : (m != q) = true := by rw [bne, h2]; rfl
      go_enter Try.func41, Try.ntmps41
      go_wp2
      go_ret
      exact ⟨rfl, hbel⟩
    · have n2 : (m != q) = false := by rw [bne, h2]; rfl
      go_enter Try.func41, Try.ntmps41
      go_wp2
      go_ret
      exact ⟨rfl, hbel⟩

set_option maxHeartbeats 1600000 in
theorem eqRunS_c (A D : Option Addr) (n c B m d B' : Nat) (rs ss : List (Int × Int)) (w : World) (h : RowR w B A n c rs) (h' : RowR w B' D m d ss) (hB : B ≤ w.heap.size) (hB' : B' ≤ w.heap.size) :
    Calls Try.prog 24 #[.slice A n c, .slice D m d] w (fun e w' => e = .returned (.bool (rs == ss)) ∧ Below w.heap.size w w') := by
  have hs := h.small
  have hs' := h'.small
  by_cases hnm : n = m
  · subst hnm
    go_enter Try.func24, Try.ntmps24
    go_wp2
    go_loopw [5] (fun i wr => ∃ k : Nat, k ≤ n ∧ i = .int .i64 k ∧ (rs == ss) = (rs.drop k == ss.drop k) ∧ Below w.heap.size w wr) (fun i _ => n - (intOf i).toNat)
    case atStart => exact ⟨0, Nat.zero_le _, rfl, rfl, Below.refl _ _⟩
    case round =>
      obtain ⟨k, hk, rfl, he, hbel⟩ := hrel
      have HE := hid he
      have hsz := hbel.size
      clear he
      by_cases hlt : k < n
      · obtain ⟨b, off, a, p, rfl, hb, hc1, hc2, _, hd⟩ := (h.below (hbel.mono hB)).step hlt
        obtain ⟨b', off', a', p', rfl, hb', hc1', hc2', _, hd'⟩ := (h'.below (hbel.mono hB')).step hlt
        have HD := hid hd
        have HD' := hid hd'
        have hkI : (k : Int) < (n : Int) := by omega
        clear hd hd'
        rcases hxy : ((a, p) == (a', p')) with _ | _
        · have HF := hid (show (rs == ss) = false by rw [HE.out, HD.out, HD'.out, beqR_cons, hxy]; rfl)
          go_wp2_with fail
          go_region_with (go_at_call 41; refine (eqRun_c _ _ _ _ _).mono ?_; rintro _ w2 ⟨rfl, b2⟩)
          all_goals
            have hfin := hbel.trans (((Below.refl wr.heap.size wr).drew.trans b2).mono hsz)
            go_wp2
            go_ret
            exact ⟨by rw [HF.out]; rfl, hfin⟩
        · have HF := hid (show (rs == ss) = (rs.drop (k + 1) == ss.drop (k + 1)) by rw [HE.out, HD.out, HD'.out, beqR_cons, hxy]; rfl)
          go_wp2_with fail
          go_region_with (go_at_call 41; refine (eqRun_c _ _ _ _ _).mono ?_; rintro _ w2 ⟨rfl, b2⟩)
          all_goals
            have hfin := hbel.trans (((Below.refl wr.heap.size wr).drew.trans b2).mono hsz)
            go_wp2
            go_roundw
            case rel => exact ⟨k + 1, by omega, by go_num, HF.out, hfin⟩
            case measure => simp [intOf]; omega
      · have hd := h.full (k := k) (by omega)
        have hd' := h'.full (k := k) (by omega)
        have HD := hid hd
        have HD' := hid hd'
        clear hd hd'
        go_wp2
        go_ret
        exact ⟨by rw [HE.out, HD.out, HD'.out]; rfl, hbel⟩
  · have HE := hid (beqR_ne_len (rs := rs) (ss := ss) (by rw [h.len, h'.len]; exact hnm))
    have hne : ((n : Int) != (m : Int)) = true := by simp; omega
    go_enter Try.func24, Try.ntmps24
    go_wp2
    go_ret
    exact ⟨by rw [HE.out]; rfl, Below.refl _ _⟩

set_option maxHeartbeats 1600000 in
theorem sameRuns_c (A D : Option Addr) (n c B m d B' : Nat) (rs ss : List (Int × Int)) (w : World) (h : RowR w B A n c rs) (h' : RowR w B' D m d ss) (hB : B ≤ w.heap.size) (hB' : B' ≤ w.heap.size) :
    Calls Try.prog 15 #[.slice A n c, .slice D m d] w (fun e w' => e = .returned (.bool (rs == ss)) ∧ Below w.heap.size w w') := by
  have hs := h.small
  have hs' := h'.small
  by_cases hnm : n = m
  · subst hnm
    go_enter Try.func15, Try.ntmps15
    go_wp2
    go_loopw [5] (fun i wr => ∃ k : Nat, k ≤ n ∧ i = .int .i64 k ∧ (rs == ss) = (rs.drop k == ss.drop k) ∧ Below w.heap.size w wr) (fun i _ => n - (intOf i).toNat)
    case atStart => exact ⟨0, Nat.zero_le _, rfl, rfl, Below.refl _ _⟩
    case round =>
      obtain ⟨k, hk, rfl, he, hbel⟩ := hrel
      have HE := hid he
      have hsz := hbel.size
      clear he
      by_cases hlt : k < n
      · obtain ⟨b, off, a, p, rfl, hb, hc1, hc2, _, hd⟩ := (h.below (hbel.mono hB)).step hlt
        obtain ⟨b', off', a', p', rfl, hb', hc1', hc2', _, hd'⟩ := (h'.below (hbel.mono hB')).step hlt
        have HD := hid hd
        have HD' := hid hd'
        have hkI : (k : Int) < (n : Int) := by omega
        clear hd hd'
        rcases h1 : a == a' with _ | _
        · have HF := hid (show (rs == ss) = false by rw [HE.out, HD.out, HD'.out, beqR_cons, beqR_pair, h1]; rfl)
          have n1 : (a != a') = true := by rw [bne, h1]; rfl
          have n1' : ¬ a = a' := by simpa using h1
          go_wp2_with fail
          go_quiet (fail)
          go_wp2
          go_ret
          exact ⟨by rw [HF.out]; rfl, below_drewN hbel _⟩
        rcases h2 : p == p' with _ | _
        · have HF := hid (show (rs == ss) = false by rw [HE.out, HD.out, HD'.out, beqR_cons, beqR_pair, h1, h2]; rfl)
          have n2 : (p != p') = true := by rw [bne, h2]; rfl
          have n2' : ¬ p = p' := by simpa using h2
          go_wp2_with fail
          go_quiet (fail)
          go_wp2
          go_ret
          exact ⟨by rw [HF.out]; rfl, below_drewN hbel _⟩
        · have HF := hid (show (rs == ss) = (rs.drop (k + 1) == ss.drop (k + 1)) by rw [HE.out, HD.out, HD'.out, beqR_cons, beqR_pair, h1, h2]; rfl)
          obtain rfl : a = a' := by simpa using h1
          obtain rfl : p = p' := by simpa using h2
          clear h1 h2
          go_wp2_with fail
          go_quiet (fail)
          go_wp2
          go_roundw
          case rel => exact ⟨k + 1, by omega, by go_num, HF.out, below_drewN hbel _⟩
          case measure => simp [intOf]; omega
      · have hd := h.full (k := k) (by omega)
        have hd' := h'.full (k := k) (by omega)
        have HD := hid hd
        have HD' := hid hd'
        clear hd hd'
        go_wp2
        go_ret
        exact ⟨by rw [HE.out, HD.out, HD'.out]; rfl, hbel⟩
  · have HE := hid (beqR_ne_len (rs := rs) (ss := ss) (by rw [h.len, h'.len]; exact hnm))
    have hne : ((n : Int) != (m : Int)) = true := by simp; omega
    go_enter Try.func15, Try.ntmps15
    go_wp2
    go_ret
    exact ⟨by rw [HE.out]; rfl, Below.refl _ _⟩

/-- (k, k + 1), (k + 2, k + 3), .. : m pairs. -/
def iotaR (k : Int) : Nat → List (Int × Int)
  | 0 => []
  | m + 1 => (k, k + 1) :: iotaR (k + 2) m
theorem iotaR_len (m : Nat) : ∀ k, (iotaR k m).length = m := by
  induction m with
  | zero => intro k; rfl
  | succ m ih => intro k; rw [iotaR, List.length_cons, ih]
theorem iotaR_get (m : Nat) : ∀ (k : Int) (j : Nat), j < m → (iotaR k m)[j]? = some (k + 2 * (j : Int), k + 2 * (j : Int) + 1) := by
  induction m with
  | zero => intro k j h; omega
  | succ m ih =>
    intro k j h
    cases j with
    | zero => simp [iotaR]
    | succ j =>
      rw [iotaR, List.getElem?_cons_succ, ih _ _ (by omega)]
      congr 1
      exact Prod.ext (by simp only []; omega) (by simp only []; omega)
theorem iotaR_snoc (m : Nat) : ∀ k, iotaR k (m + 1) = iotaR k m ++ [(k + 2 * (m : Int), k + 2 * (m : Int) + 1)] := by
  induction m with
  | zero => intro k; simp [iotaR]
  | succ m ih =>
    intro k
    rw [iotaR, ih, iotaR, List.cons_append]
    congr 3
    exact Prod.ext (by simp only []; omega) (by simp only []; omega)
def markedR (rs : List (Int × Int)) (i : Nat) : List (Int × Int) := iotaR 1 i ++ rs.drop i
theorem markedR_get {rs : List (Int × Int)} {i : Nat} {r : Int × Int} (hd : rs.drop i = r :: rs.drop (i + 1)) : (markedR rs i)[i]? = some r := by
  unfold markedR
  rw [hd, List.getElem?_append_right (by rw [iotaR_len]; omega), iotaR_len, Nat.sub_self]; rfl
theorem markedR_set {rs : List (Int × Int)} {i : Nat} {r : Int × Int} (hd : rs.drop i = r :: rs.drop (i + 1)) : (markedR rs i).set i (1 + 2 * (i : Int), 1 + 2 * (i : Int) + 1) = markedR rs (i + 1) := by
  unfold markedR
  rw [hd, List.set_append_right _ _ (by rw [iotaR_len]; omega), iotaR_len, Nat.sub_self, List.set_cons_zero, iotaR_snoc, List.append_assoc]; rfl
theorem markedR_end {rs : List (Int × Int)} {n : Nat} (h : rs.length ≤ n) : markedR rs n = iotaR 1 n := by
  unfold markedR; rw [List.drop_eq_nil_of_le h, List.append_nil]
theorem OwnR.rowBlock {w : World} {base n c : Nat} {A : Option Addr} {rs : List (Int × Int)} (h : OwnR w base A n c rs) : ∀ k, A.map (·.block) = some k → base ≤ k := by
  intro k hk
  rcases h.form with ⟨rfl, _⟩ | ⟨g, _, rfl, hg, _⟩
  · cases hk
  · injection hk with hk; subst hk; exact hg
theorem OwnR.rowUnder {w : World} {base n c : Nat} {A : Option Addr} {rs : List (Int × Int)} (h : OwnR w base A n c rs) : ∀ k, A.map (·.block) = some k → k < w.heap.size := by
  intro k hk
  rcases h.form with ⟨rfl, _⟩ | ⟨g, _, rfl, hg, hl, _⟩
  · cases hk
  · injection hk with hk; subst hk; exact hl
theorem OwnR.apart {w w' : World} {base n c : Nat} {A D : Option Addr} {rs : List (Int × Int)} (h : OwnR w base A n c rs) (hg : w.grownBy w' (D.map (·.block))) (hD : ∀ k, D.map (·.block) = some k → k < base) : OwnR w' base A n c rs := by
  refine h.kept hg ?_
  rcases h.form with ⟨rfl, _⟩ | ⟨g, _, rfl, h2, _⟩
  · exact .inl rfl
  · refine .inr (fun e => ?_)
    have := hD g e.symm
    omega
theorem Own.apartR {w w' : World} {base n c : Nat} {A D : Option Addr} {xs : List Int} (h : Own w base A n c xs) (hg : w.grownBy w' (D.map (·.block))) (hD : ∀ k, D.map (·.block) = some k → k < base) : Own w' base A n c xs := by
  refine h.kept hg ?_
  rcases h.form with ⟨rfl, _⟩ | ⟨g, _, rfl, h2, _⟩
  · exact .inl rfl
  · refine .inr (fun e => ?_)
    have := hD g e.symm
    omega
theorem setCell_grownR (w : World) (g o : Nat) (v : Value) : w.grownBy (w.setCell ⟨g, o, none⟩ v) (some g) :=
  ⟨rfl, rfl, rfl, by simp, fun k _ hk => Below.heap_setCell _ _ _ _ (fun e => hk (by rw [e]))⟩

set_option maxHeartbeats 800000 in
theorem markRunS_c (A : Option Addr) (n c base : Nat) (rs : List (Int × Int)) (w : World) (h : OwnR w base A n c rs) (hb : base ≤ w.heap.size) :
    Calls Try.prog 25 #[.slice A n c, .int .i64 1] w (fun e w' => e = .returned (.int .i64 (1 + 2 * (n : Int))) ∧ OwnR w' base A n c (iotaR 1 n) ∧ w.grownBy w' (A.map (·.block)) ∧ Below base w w') := by
  have hs := h.2
  have hrb := h.rowBlock
  go_enter Try.func25, Try.ntmps25
  go_wp2
  go_loopw [1, 5] (fun v i wr => ∃ k : Nat, k ≤ n ∧ v = .int .i64 (1 + 2 * (k : Int)) ∧ i = .int .i64 k ∧ OwnR wr base A n c (markedR rs k) ∧ w.grownBy wr (A.map (·.block))) (fun _ i _ => n - (intOf i).toNat)
  case atStart => exact ⟨0, Nat.zero_le _, rfl, rfl, h, World.grownBy.refl _ _⟩
  case round =>
    obtain ⟨k, hk, rfl, rfl, hown, hgr⟩ := hrel
    by_cases hlt : k < n
    · obtain ⟨⟨x, y⟩, -, hd⟩ := drop_consR (xs := rs) (k := k) (by rw [h.len]; exact hlt)
      obtain ⟨g, rfl, hgb, hgl⟩ := hown.at_ (by omega)
      obtain ⟨hc1, hc2⟩ := hown.cells (markedR_get hd)
      have hf1 := hown.frozenAt (k * 2)
      have hf2 := hown.frozenAt (k * 2 + 1)
      have h2 := hown.stored1 (markedR_get hd) (1 + 2 * (k : Int))
      have hget2 : ((markedR rs k).set k (1 + 2 * (k : Int), y))[k]? = some (1 + 2 * (k : Int), y) := List.getElem?_set_self (by have := hown.len; omega)
      have h3 := h2.stored2 hget2 (1 + 2 * (k : Int) + 1)
      rw [List.set_set, markedR_set hd] at h3
      have hkI : (k : Int) < (n : Int) := by omega
      have hg3 := grown_trans (setCell_grownR wr g (k * 2) (.int .i64 (1 + 2 * (k : Int)))) (setCell_grownR (wr.setCell ⟨g, k * 2, none⟩ (.int .i64 (1 + 2 * (k : Int)))) g (k * 2 + 1) (.int .i64 (1 + 2 * (k : Int) + 1)))
      have H3 := hid h3
      have HG := hid (grown_trans hgr hg3)
      clear hd h2 h3 hg3 hget2
      go_wp2
      go_roundw
      case rel => exact ⟨k + 1, by omega, by go_num, by go_num, H3.out, HG.out⟩
      case measure => simp [intOf]; omega
    · obtain rfl : k = n := by omega
      go_wp2
      go_ret
      rw [markedR_end (by rw [h.len]; exact Nat.le_refl _)] at hown
      exact ⟨rfl, hown, hgr, ⟨hgr.os, hgr.tape, hgr.output, hgr.size, fun j hj => hgr.block j (by omega) (fun e => by have := hrb j e.symm; omega)⟩⟩

set_option maxHeartbeats 800000 in
theorem heldRunS_c (A : Option Addr) (n c B : Nat) (w : World) (h : RowR w B A n c (iotaR 1 n)) :
    Calls Try.prog 31 #[.slice A n c, .int .i64 1] w (fun e w' => e = .returned (.int .i64 (1 + 2 * (n : Int))) ∧ w = w') := by
  have hs := h.small
  go_enter Try.func31, Try.ntmps31
  go_wp2
  go_loop [1, 5] (fun v i => ∃ k : Nat, k ≤ n ∧ v = .int .i64 (1 + 2 * (k : Int)) ∧ i = .int .i64 k) (fun _ i => n - (intOf i).toNat)
  case atStart => exact ⟨0, Nat.zero_le _, rfl, rfl⟩
  case round =>
    obtain ⟨k, hk, rfl, rfl⟩ := hrel
    by_cases hlt : k < n
    · obtain ⟨b, off, rfl, hb, hc⟩ := h.at_ (by omega)
      obtain ⟨hc1, hc2⟩ := hc k _ (iotaR_get n 1 k hlt)
      have hkI : (k : Int) < (n : Int) := by omega
      clear hc
      go_wp2
      go_round
      case rel => exact ⟨k + 1, by omega, by go_num, by go_num⟩
      case measure => simp [intOf]; omega
    · obtain rfl : k = n := by omega
      go_wp2
      go_ret
      exact ⟨rfl, rfl⟩

theorem szRunS_c (A : Option Addr) (n c : Nat) (t : Int) (w : World) (hn : n ≤ 9223372036854775807) (ht : 0 ≤ t ∧ t ≤ 1048576) :
    Calls Try.prog 22 #[.slice A n c, .int .i64 t] w (fun e w' => e = .returned (.int .i64 (if t < (n : Int) then -1 else t - (n : Int))) ∧ w = w') := by
  by_cases h : t < (n : Int)
  · have h0 : t - (n : Int) < 0 := by omega
    rw [if_pos h]
    go_enter Try.func22, Try.ntmps22
    go_wp2
    go_ret
    exact ⟨rfl, rfl⟩
  · have h0 : ¬ t - (n : Int) < 0 := by omega
    rw [if_neg h]
    go_enter Try.func22, Try.ntmps22
    go_wp2
    go_ret
    exact ⟨rfl, rfl⟩
end Go.Proofs.Ytlmbeinifnafaaa
