/- Contracts of the copies of runs. No condition. -/
import Derived.Test.YtlmbeinifnafaaaBaseR
namespace Go.Proofs.Ytlmbeinifnafaaa
open Go.RowKit
set_option linter.unusedVariables false

theorem toRun_c (a m : Int) (w : World) : Calls Try.prog 40 #[.agg #[.int .i64 a, .int .i64 m]] w (fun e w' => e = .returned (.agg #[.int .i64 a, .int .i64 m]) ∧ Below w.heap.size w w') := by
  go_enter Try.func40, Try.ntmps40
  go_wp2
  refine bodyPost_ret (v := .agg #[.int .i64 a, .int .i64 m]) (by simp [results, Try.results40, go_sem]) rfl ⟨rfl, ?_⟩
  exact (((Below.refl _ _).alloc (Nat.le_refl _) _).alloc (by simp) _).alloc (by simp; omega) _

theorem fillR_at {rs : List (Int × Int)} {n k : Nat} (hl : rs.length = n) (hk : k < n) : (rs.take k ++ List.replicate (n - k) ((0, 0) : Int × Int))[k]? = some (0, 0) := by
  have e : (rs.take k).length = k := by rw [List.length_take, hl]; omega
  rw [List.getElem?_append_right (by omega), e, Nat.sub_self, show n - k = (n - k - 1) + 1 by omega, List.replicate_succ]; rfl
theorem fillR_set {rs : List (Int × Int)} {n k : Nat} {x : Int × Int} (hl : rs.length = n) (hk : k < n) (hx : rs[k]? = some x) :
    (rs.take k ++ List.replicate (n - k) ((0, 0) : Int × Int)).set k x = rs.take (k + 1) ++ List.replicate (n - (k + 1)) (0, 0) := by
  have e : (rs.take k).length = k := by rw [List.length_take, hl]; omega
  rw [List.set_append_right _ _ (by omega), e, Nat.sub_self, show n - k = (n - (k + 1)) + 1 by omega, List.replicate_succ, List.set_cons_zero, List.take_add_one, hx]
  simp
theorem fillR_end {rs : List (Int × Int)} {n : Nat} (hl : rs.length = n) : rs.take n ++ List.replicate (n - n) ((0, 0) : Int × Int) = rs := by
  rw [Nat.sub_self, List.replicate_zero, List.append_nil, List.take_of_length_le (by omega)]
theorem cellsR_zero (n : Nat) : cellsR (List.replicate n (0, 0)) = List.replicate (n * 2) (Value.int .i64 0) := by
  induction n with
  | zero => rfl
  | succ n ih => rw [List.replicate_succ, cellsR_cons, ih, show (n + 1) * 2 = n * 2 + 1 + 1 by omega, List.replicate_succ, List.replicate_succ]
theorem madeR (n : Nat) : (madeCells (Value.agg #[.int .i64 0, .int .i64 0]).cells (n * 2)).toList = cellsR (List.replicate n (0, 0)) := by
  rw [cellsR_zero]
  apply List.ext_getElem?
  intro j
  by_cases hj : j < n * 2
  · have h2 : j % 2 = 0 ∨ j % 2 = 1 := by omega
    rcases h2 with h2 | h2 <;> simp [madeCells, Value.cells, hj, h2]
  · simp [madeCells, Value.cells, hj]

set_option maxHeartbeats 1600000 in
theorem toRunS_c (A : Option Addr) (n c B : Nat) (rs : List (Int × Int)) (w : World) (h : RowR w B A n c rs) (hB : B ≤ w.heap.size) : Calls Try.prog 23 #[.slice A n c] w (PSR w rs) := by
  obtain ⟨i0, hi, hz0, hz1, hz2⟩ := info_parts run_info
  have hs := h.small
  go_enter Try.func23, Try.ntmps23
  go_wp2_with (at_make; refine wpList_make_full _ rfl _ _ 23 rfl w.heap.size 43 i0 (.agg #[.int .i64 0, .int .i64 0]) 2 Try.underlying23 hi hz0 hz1 .i64 .i64 _ _ n rfl rfl rfl rfl (by rw [hz2]; omega) (by unfold maxLen; omega) (Nat.le_refl _) ?_; intro w0 hown0 hgrow0)
  rw [madeR] at hown0
  have ho0 : OwnR w0 w.heap.size (some ⟨w.heap.size, 0, none⟩) n n (List.replicate n (0, 0)) := ⟨hown0, hs⟩
  clear hown0 hz2 hz1 hz0 hi
  have hb0 : Below w.heap.size w w0 := (Below.refl _ _).grown hgrow0 (Nat.le_refl _) (fun k hk => by cases hk)
  clear hgrow0
  go_loopw [4] (fun i wr => ∃ k : Nat, k ≤ n ∧ i = .int .i64 k ∧ OwnR wr w.heap.size (some ⟨w.heap.size, 0, none⟩) n n (rs.take k ++ List.replicate (n - k) (0, 0)) ∧ Below w.heap.size w wr) (fun i _ => n - (intOf i).toNat)
  case atStart => exact ⟨0, Nat.zero_le _, rfl, ho0, hb0⟩
  case round =>
    obtain ⟨k, hk, rfl, hown, hbel⟩ := hrel
    have hsz := hbel.size
    by_cases hlt : k < n
    · obtain ⟨b, off, a, q, rfl, hb, hc1, hc2, hx, hd⟩ := (h.below (hbel.mono hB)).step hlt
      have HX := hid hx
      have hkI : (k : Int) < (n : Int) := by omega
      clear hd hx
      go_wp2_with fail
      refine (toRun_c a q wr).mono ?_
      rintro _ w2 ⟨rfl, b2⟩
      have hown2 := hown.below b2 (Nat.le_refl _)
      have hbel2 := hbel.trans (b2.mono hsz)
      have hg := fillR_at h.len hlt
      obtain ⟨hd1, hd2⟩ := hown2.cells hg
      have hf1 := hown2.frozenAt (k * 2)
      have hf2 := hown2.frozenAt (k * 2 + 1)
      have h2 := hown2.stored1 hg a
      have hg2 : ((rs.take k ++ List.replicate (n - k) ((0, 0) : Int × Int)).set k (a, 0))[k]? = some (a, 0) := List.getElem?_set_self (by have := hown.len; omega)
      have h3 := h2.stored2 hg2 q
      rw [List.set_set, fillR_set h.len hlt HX.out] at h3
      have H3 := hid h3
      clear h2 h3 hg hg2
      go_wp2
      go_roundw
      case rel => exact ⟨k + 1, by omega, by go_num, H3.out, (hbel2.setCell (p := ⟨w.heap.size, k * 2, none⟩) (Nat.le_refl _) _).setCell (p := ⟨w.heap.size, k * 2 + 1, none⟩) (Nat.le_refl _) _⟩
      case measure => simp [intOf]; omega
    · obtain rfl : k = n := by omega
      go_wp2
      go_ret
      rw [fillR_end h.len] at hown
      exact PSR.mk h.len hown hbel
end Go.Proofs.Ytlmbeinifnafaaa
