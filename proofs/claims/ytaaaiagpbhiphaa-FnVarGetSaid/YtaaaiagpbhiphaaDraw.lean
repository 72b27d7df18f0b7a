/- Contracts of the reader of a code: l6Open and pick. No condition. -/
import Derived.Test.YtaaaiagpbhiphaaKit
import Derived.Test.YtaaaiagpbhiphaaBitsL
namespace Go.Proofs.Ytaaaiagpbhiphaa
open Go.RowKit

theorem PPick.mk {w w' : World} {g p : Nat} {m x : Int} (h0 : 0 ≤ x) (h1 : x < m ∨ x = 0) (h2 : Rd w' g (p + 1)) (h3 : w.grownBy w' (some g)) : PPick w g p m (.returned (.int .i64 x)) w' := by
  obtain ⟨n, rfl⟩ := Int.eq_ofNat_of_zero_le h0
  exact ⟨n, rfl, by omega, h2, h3⟩

theorem setCell_grown (w : World) (g o : Nat) (v : Value) : w.grownBy (w.setCell ⟨g, o, none⟩ v) (some g) :=
  ⟨rfl, rfl, rfl, by simp, fun k _ hk => Below.heap_setCell _ _ _ _ (fun e => hk (by rw [e]))⟩
theorem grown_drewN {a b : World} {row : Option Nat} (h : a.grownBy b row) (n : Nat) : a.grownBy (b.drewN n) row := ⟨h.os, h.tape, h.output, h.size, h.block⟩
theorem Rd.drewN {w : World} {g p : Nat} (h : Rd w g p) (n : Nat) : Rd (w.drewN n) g p := h.keep fun _ _ => rfl

set_option maxHeartbeats 400000 in
theorem pick_c (g p : Nat) (m : Int) (w : World) (h : Rd w g p) (hp : p ≤ 1000000) : Calls Try.prog 35 #[.pointer (some ⟨g, 0, none⟩), .int .i64 m] w (PPick w g p m) := by
  obtain ⟨A, n, c, hh, hr, hn⟩ := h
  have hc0 : w.cell? ⟨g, 0, none⟩ = some (.slice A n c) := cell_of_row w g 0 _ _ _ hh
  have hc1 : w.cell? ⟨g, 1, none⟩ = some (.int .i64 (p : Int)) := cell_of_row w g 1 _ _ _ hh
  have hf1 : w.frozen? ⟨g, 1, none⟩ = false := by simp [World.frozen?, hh]
  have hrd : Rd (w.setCell ⟨g, 1, none⟩ (.int .i64 ((p : Int) + 1))) g (p + 1) := by
    refine ⟨A, n, c, ?_, hr.keep fun q hq => World.cell?_of_block (Below.heap_setCell _ _ _ _ (by simp; omega)), hn⟩
    simp [World.setCell, Array.getElem?_modify, hh]
  have hgr := setCell_grown w g 1 (.int .i64 ((p : Int) + 1))
  have HH := hid hh
  clear hh
  by_cases hm : m < 1
  · go_enter Try.func35, Try.ntmps35
    go_wp2
    go_ret
    exact PPick.mk (Int.le_refl _) (.inr rfl) hrd hgr
  by_cases h0 : n = 0
  · subst h0
    go_enter Try.func35, Try.ntmps35
    go_wp2
    go_ret
    exact PPick.mk (Int.le_refl _) (.inr rfl) hrd hgr
  obtain ⟨b, off, rfl, hb, hcs⟩ := hr.at_ (by omega)
  have hcap := hr.cap
  have hcapm := hr.capm
  unfold maxLen at hcapm
  have hne : ¬ g = b := by omega
  have hne' : ¬ b = g := by omega
  have hz : ((n : Int) == 0) = false := by simp; omega
  by_cases hk : p < n
  · obtain ⟨u, hu0, hu1, hcu⟩ := hcs p hk
    go_enter Try.func35, Try.ntmps35
    go_wp2
    go_ret
    exact PPick.mk (Int.emod_nonneg _ (by omega)) (.inl (Int.emod_lt_of_pos _ (by omega))) hrd hgr
  · obtain ⟨u, hu0, hu1, hcu⟩ := hcs (p % n) (Nat.mod_lt _ (by omega))
    obtain ⟨v, hv0, hv1, hcv⟩ := hcs ((p * 7 + 3) % n) (Nat.mod_lt _ (by omega))
    have q0 : (0 : Int) ≤ (p : Int) / (n : Int) := Int.ediv_nonneg (by omega) (by omega)
    have q1 : (p : Int) / (n : Int) ≤ 1000000 := Int.le_trans (Int.ediv_le_self _ (by omega)) (by omega)
    have r1 : (p : Int) % (n : Int) < (n : Int) := Int.emod_lt_of_pos _ (by omega)
    have r0 : 0 ≤ (p : Int) % (n : Int) := Int.emod_nonneg _ (by omega)
    have s1 : ((p : Int) * 7 + 3) % (n : Int) < (n : Int) := Int.emod_lt_of_pos _ (by omega)
    have s0 : 0 ≤ ((p : Int) * 7 + 3) % (n : Int) := Int.emod_nonneg _ (by omega)
    clear hcs
    go_enter Try.func35, Try.ntmps35
    go_wp2
    go_quiet (fail)
    go_wp2
    go_ret
    exact PPick.mk (tmod_range (i64_xor_nonneg (by omega) (by omega) (by omega) (by omega)) (by omega)).1 (.inl (tmod_range (i64_xor_nonneg (by omega) (by omega) (by omega) (by omega)) (by omega)).2) (hrd.drewN _) (grown_drewN hgr _)

theorem l6Open_c (A : Option Addr) (n c B : Nat) (w : World) (h : BRow w B A n c) (hB : B ≤ w.heap.size) : Calls Try.prog 34 #[.slice A n c] w (POpen w) := by
  have hcap := h.cap
  have hcapm := h.capm
  unfold maxLen at hcapm
  have hbl : ∀ o, Below w.heap.size w (w.alloc o) := fun o => (Below.refl _ _).alloc (Nat.le_refl _) o
  have hrd : ∀ m, m ≤ n → m ≤ 2000 → Rd (w.alloc (.cells #[.slice A m c, .int .i64 0] 43)) w.heap.size 0 := fun m h1 h2 =>
    ⟨A, m, c, heap_alloc_new w _, ⟨by omega, h.capm, h.nil, fun h0 => by
      obtain ⟨b, off, e, hb, hc⟩ := h.at_ (by omega)
      refine ⟨b, off, e, by omega, fun j hj => ?_⟩
      obtain ⟨u, u0, u1, hu⟩ := hc j (by omega)
      exact ⟨u, u0, u1, ((hbl _).cell (p := ⟨b, off + j, none⟩) (by show b < _; omega)).trans hu⟩⟩, h2⟩
  by_cases hn : n ≤ 2000
  · go_enter Try.func34, Try.ntmps34
    go_wp2
    go_ret
    exact ⟨_, rfl, hrd n (Nat.le_refl _) hn, Nat.le_refl _, hbl _⟩
  · have hc0 : ¬ c = 0 := by omega
    go_enter Try.func34, Try.ntmps34
    go_wp2
    go_ret
    exact ⟨_, rfl, hrd 2000 (by omega) (Nat.le_refl _), Nat.le_refl _, hbl _⟩

end Go.Proofs.Ytaaaiagpbhiphaa
