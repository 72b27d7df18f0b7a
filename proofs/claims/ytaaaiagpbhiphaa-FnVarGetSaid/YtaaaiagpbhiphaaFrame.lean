/- What a slice that came in is, as the form opens it, in the words of the walks. No condition. -/
import Derived.Test.YtaaaiagpbhiphaaKit
import Derived.ProofKit
namespace Go.Proofs.Ytaaaiagpbhiphaa
open Go.RowKit

def IsRow (k : IntKind) (w : World) (a : Option Addr) (len cap : Nat) (zs : List Int) : Prop :=
  (a = none ∧ len = 0 ∧ cap = 0 ∧ zs = []) ∨
  ∃ x, a = some x ∧ len ≤ cap ∧ cap ≤ maxLen ∧ zs.length = cap ∧ (∀ i, i < zs.length → w.cell? (x.add i) = some (.int k (zs.getD i 0))) ∧ ∀ n ∈ zs, (Lit.int k n).wf = true

theorem place_of {w : World} {x : Addr} {v : Value} {f : Nat → Value} {n : Nat} (h : ∀ i, i < n → w.cell? (x.add i) = some (f i)) (h0 : 0 < n) (_ : v = f 0) :
    ∃ b off, x = ⟨b, off, none⟩ ∧ b < w.heap.size ∧ ∀ i, i < n → w.cell? ⟨b, off + i, none⟩ = some (f i) := by
  obtain ⟨b, off, spot⟩ := x
  have hc := h 0 h0
  have hs : spot = none := by simpa [Addr.add] using World.cell?_spot hc
  subst hs
  refine ⟨b, off, rfl, ?_, fun i hi => ?_⟩
  · have := World.block_lt_of_cell? _ _ hc
    rw [Addr.add_lit] at this; exact this
  · have := h i hi
    rwa [Addr.add_lit] at this

theorem IsRow.bytes {w : World} {a : Option Addr} {len cap : Nat} {zs : List Int} (h : IsRow .u8 w a len cap zs) : BRow w w.heap.size a len cap := by
  rcases h with ⟨rfl, rfl, rfl, rfl⟩ | ⟨x, rfl, hl, hm, hz, hcell, hwz⟩
  · exact ⟨Nat.le_refl _, Nat.zero_le _, fun _ => rfl, fun h => absurd h (Nat.lt_irrefl _)⟩
  · refine ⟨hl, hm, (fun e => by cases e), fun h0 => ?_⟩
    obtain ⟨b, off, rfl, hb, hc⟩ := place_of hcell (by omega) rfl
    refine ⟨b, off, rfl, hb, fun j hj => ⟨zs.getD j 0, ?_, ?_, hc j (by omega)⟩⟩
    all_goals
      have hjz : j < zs.length := by omega
      have e : zs.getD j 0 = zs[j] := by simp [List.getD, hjz]
      have hw := hwz _ (List.getElem_mem hjz)
      have := bounds_u8 hw
      rw [e]; omega

theorem IsRow.ints {w : World} {a : Option Addr} {len cap : Nat} {zs : List Int} (h : IsRow .i64 w a len cap zs) (hs : len ≤ 1048576) : Row w w.heap.size a len cap (zs.take len) := by
  rcases h with ⟨rfl, rfl, rfl, rfl⟩ | ⟨x, rfl, hl, hm, hz, hcell, hwz⟩
  · exact ⟨rfl, hs, Nat.le_refl _, Nat.zero_le _, fun _ => rfl, fun h => absurd h (Nat.lt_irrefl _)⟩
  · refine ⟨by rw [List.length_take]; omega, hs, hl, hm, (fun e => by cases e), fun h0 => ?_⟩
    obtain ⟨b, off, rfl, hb, hc⟩ := place_of hcell (by omega) rfl
    refine ⟨b, off, rfl, hb, fun j u hu => ?_⟩
    rw [List.getElem?_take] at hu
    split at hu
    · rw [hc j (by omega)]
      simp [List.getD, hu]
    · cases hu
end Go.Proofs.Ytaaaiagpbhiphaa
