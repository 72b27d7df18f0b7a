/- What a slice of runs that came in is, as the form opens it, in the words of the walks. No condition. -/
import Derived.Test.YtlmbeinifnafaaaKitR
import Derived.Test.YtlmbeinifnafaaaFrame
import Derived.Deep.Slices
import Derived.Deep.Fields
import Derived.ChangeSame
namespace Go.Proofs.Ytlmbeinifnafaaa
open Go.RowKit Go.ChangeShapes Go.WideShapes Go.Deep
set_option linter.unusedVariables false

def IsRowR (w : World) (a : Option Addr) (len cap : Nat) (rs : List (Int × Int)) : Prop :=
  (a = none ∧ len = 0 ∧ cap = 0 ∧ rs = []) ∨
  ∃ x, a = some x ∧ len ≤ cap ∧ cap ≤ maxLen ∧ rs.length = cap ∧ ∀ j, j < cap * 2 → w.cell? (x.add j) = some ((cellsR rs).getD j undef)

section
variable {H : Type} {enc : TypeId × Value → H} {P : Program} {w : World} {base : Nat}
theorem open_runs {t e : TypeId} {f0 f1 : Field} {fuel : Nat} {cs : List Value} {x : DataW H × List MemPlace} (ht : P.underlying t = some (.slice e)) (he : P.underlying e = some (.struct #[f0, f1]))
    (h0 : P.underlying f0.type = some (.int .i64)) (h1 : P.underlying f1.type = some (.int .i64)) (hone : oneCellFields P #[f0, f1] = true) (hC : P.cellsOf e = 2)
    (h : DataW.trod enc P w base (fun _ => true) true fuel t cs = some x) : ∃ a len cap rs, cs = [.slice a len cap] ∧ IsRowR w a len cap rs := by
  rcases open_slice ht h with ⟨rfl, _⟩ | ⟨a, len, cap, m, n, D, Pl, rfl, hb, hl, hm, hmm, hx, hi⟩
  · exact ⟨none, 0, 0, [], rfl, .inl ⟨rfl, rfl, rfl, rfl⟩⟩
  · obtain rfl : m = cap := by simpa using hmm
    have key : ∀ i : Nat, ∃ r : Int × Int, i < m → w.cell? (a.add (i * 2)) = some (.int .i64 r.1) ∧ w.cell? (a.add (i * 2 + 1)) = some (.int .i64 r.2) := by
      intro i
      by_cases him : i < m
      · obtain ⟨cs', hc, ht'⟩ := hi i him
        rw [hC] at hc
        obtain ⟨ys, n', hn', hy, hlen, hyl, hf⟩ := DataW.trod_struct he ht'
        obtain ⟨_, hcl, hat⟩ := World.cells?_some hc
        obtain ⟨o0, k0⟩ := hone_of hone 0 f0 rfl
        obtain ⟨o1, k1⟩ := hone_of hone 1 f1 rfl
        have g0 := hf 0 f0 rfl
        have g1 := hf 1 f1 rfl
        rw [o0, k0] at g0
        rw [o1, k1] at g1
        match cs', hcl with
        | [c0, c1], _ =>
          have hy0 : ∃ y, DataW.trod enc P w base (fun _ => true) true n' f0.type [c0] = some y := by
            have : ys[0]? = some (ys[0]'(by rw [hyl]; show (0 : Nat) < 2; omega)) := List.getElem?_eq_getElem _
            exact ⟨_, g0.trans this⟩
          have hy1 : ∃ y, DataW.trod enc P w base (fun _ => true) true n' f1.type [c1] = some y := by
            have : ys[1]? = some (ys[1]'(by rw [hyl]; show (1 : Nat) < 2; omega)) := List.getElem?_eq_getElem _
            exact ⟨_, g1.trans this⟩
          obtain ⟨y0, hy0⟩ := hy0
          obtain ⟨y1, hy1⟩ := hy1
          obtain ⟨z0, hz0, _, _⟩ := DataW.trod_int h0 hy0
          obtain ⟨z1, hz1, _, _⟩ := DataW.trod_int h1 hy1
          injection hz0 with hz0
          injection hz1 with hz1
          subst hz0; subst hz1
          refine ⟨(z0, z1), fun _ => ⟨?_, ?_⟩⟩
          · have := hat 0 (by decide)
            rw [Go.Deep.add_add] at this
            simpa using this
          · have := hat 1 (by decide)
            rw [Go.Deep.add_add] at this
            simpa using this
      · exact ⟨(0, 0), fun h => absurd h him⟩
    obtain ⟨f, hf⟩ := Classical.axiomOfChoice key
    refine ⟨some a, len, m, (List.range m).map f, rfl, .inr ⟨a, rfl, hl, hm, by simp, fun j hj => ?_⟩⟩
    have hget : ((List.range m).map f)[j / 2]? = some (f (j / 2)) := by
      rw [List.getElem?_map, List.getElem?_range (by omega)]; rfl
    obtain ⟨q0, q1⟩ := hf (j / 2) (by omega)
    rcases Nat.mod_two_eq_zero_or_one j with e | e
    · have ej : j / 2 * 2 = j := by omega
      have := cellsR_fst hget
      rw [ej] at this q0
      rw [q0]; simp [List.getD, this]
    · have ej : j / 2 * 2 + 1 = j := by omega
      have := cellsR_snd hget
      rw [ej] at this q1
      rw [q1]; simp [List.getD, this]
end
theorem IsRowR.runs {w : World} {a : Option Addr} {len cap : Nat} {rs : List (Int × Int)} (h : IsRowR w a len cap rs) (hs : len ≤ 1048576) : RowR w w.heap.size a len cap (rs.take len) := by
  rcases h with ⟨rfl, rfl, rfl, rfl⟩ | ⟨x, rfl, hl, hm, hz, hcell⟩
  · exact ⟨rfl, hs, Nat.le_refl _, Nat.zero_le _, fun _ => rfl, fun h => absurd h (Nat.lt_irrefl _)⟩
  · refine ⟨by rw [List.length_take]; omega, hs, hl, hm, (fun e => by cases e), fun h0 => ?_⟩
    obtain ⟨b, off, rfl, hb, hc⟩ := place_of hcell (by omega) rfl
    refine ⟨b, off, rfl, hb, fun j r hu => ?_⟩
    rw [List.getElem?_take] at hu
    split at hu
    · have e1 := cellsR_fst hu
      have e2 := cellsR_snd hu
      have g1 := hc (j * 2) (by omega)
      have g2 := hc (j * 2 + 1) (by omega)
      rw [← Nat.add_assoc] at g2
      simp only [List.getD, e1, e2, Option.getD_some] at g1 g2
      exact ⟨g1, g2⟩
    · cases hu
theorem IsRowR.lens {w : World} {a : Option Addr} {len cap : Nat} {rs : List (Int × Int)} (h : IsRowR w a len cap rs) : len ≤ 9223372036854775807 := by
  rcases h with ⟨_, rfl, _⟩ | ⟨x, _, hl, hm, _⟩
  · omega
  · unfold maxLen at hm; omega
end Go.Proofs.Ytlmbeinifnafaaa
