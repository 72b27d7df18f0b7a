/- Bits that were bytes, plainly. No program in sight. No condition. -/
import Derived.Test.YtfpieikheofbgaaBitsR
namespace Go.Proofs.Ytfpieikheofbgaa
open Go.RowKit
theorem putget8 {L : List Int} (hv : everyB 0 1 L = true) (hl : L.length = 8) : putL (getL 0 L) 8 = L ∧ 0 ≤ getL 0 L ∧ getL 0 L ≤ 255 := by
  obtain ⟨r0, r1⟩ := getL_range L hv 0 (by omega)
  rw [hl] at r1
  refine ⟨?_, r0, by omega⟩
  match L, hl with
  | [a, b, c, d, e, f, g, h], _ =>
    simp only [everyB_cons, everyB_nil, Bool.and_eq_true, inB_iff, and_true] at hv
    simp only [putL, getL, List.nil_append, List.cons_append]
    simp only [List.cons.injEq, and_true]
    omega
theorem flat_pack {ys : List Int} (hv : everyB 0 1 ys = true) : ∀ q, ys.length = 8 * q → flatL (packN q ys) = ys ∧ everyB 0 255 (packN q ys) = true := by
  have key : ∀ q, 8 * q ≤ ys.length → flatL (packN q ys) = ys.take (8 * q) ∧ everyB 0 255 (packN q ys) = true := by
    intro q
    induction q with
    | zero => intro _; exact ⟨by simp [packN, flatL], rfl⟩
    | succ q ih =>
      intro hl
      obtain ⟨h1, h2⟩ := ih (by omega)
      obtain ⟨p1, p2, p3⟩ := putget8 (everyB_take (everyB_drop hv (8 * q)) 8) (by rw [List.length_take, List.length_drop]; omega)
      rw [packN_succ, flatL_append, h1]
      refine ⟨?_, by rw [everyB_append, h2, everyB_cons, everyB_nil, Bool.and_true, Bool.true_and, inB_iff]; exact ⟨p2, p3⟩⟩
      rw [flatL_cons, flatL_nil, List.append_nil, chunk, p1, show 8 * (q + 1) = 8 * q + 8 by omega, List.take_add]
  intro q hl
  obtain ⟨h1, h2⟩ := key q (by omega)
  exact ⟨by rw [h1, List.take_of_length_le (by omega)], h2⟩
end Go.Proofs.Ytfpieikheofbgaa
