/- An append that says where the new row lies. No condition. -/
import Derived.Test.YtlmbeinifnafaaaKit
namespace Go.Proofs.Ytlmbeinifnafaaa
open Go.RowKit
set_option linter.unusedVariables false

/-- 'append(out, u)', and where the new row lies: where it lay or in a new block. -/
theorem wpList_push_at {w : World} {ops : Array Oper} {rest : List Oper} {o : Oper} {a : Act} {Q : Exit → Act → World → Prop} (hgd : o.guard = none) (s x : Operand)
    (ho : o.op = .call { callee := .builtin .append, args := #[s, x], argTypes := #[25, 25] })
    {base n c : Nat} {A : Option Addr} {xs : List Int} {u : Int} {H : Nat} (hs : a.eval s = .slice A n c) (hown : Own w base A n c xs) (hx : a.eval x = .slice (some ⟨H, 0, none⟩) 1 1) (hH : w.heap.size = H)
    (hn : n + 1 ≤ 1048576) (hb : base ≤ w.heap.size)
    (h : ∀ A' c' w', Own w' base A' (n + 1) c' (xs ++ [u]) → w.grownBy w' (A.map (·.block)) → Below base w w' → (∀ g, g < w.heap.size → A.map (·.block) ≠ some g → A'.map (·.block) ≠ some g) → wpList Try.prog ops Q rest (a.put o.dst (.slice A' (n + 1) c')) w') :
    wpList Try.prog ops Q (o :: rest) a (w.alloc (.cells #[.int .i64 u] 3)) := by
  subst hH
  obtain ⟨i, hi, hz, h1, h2⟩ := info_parts int_info
  have hob : (Value.slice A n c).ownBlock = A.map (·.block) := by cases A <;> rfl
  have hl := hown.len
  refine wpList_append_own_at (w.alloc (.cells #[.int .i64 u] 3)) hgd s x 25 ho base 3 i (.int .i64 0) 1 8 Try.underlying25 hi hz h1 h2 rfl (by decide) _ n _ hs (hown.1.alloc _) ⟨w.heap.size, 0, none⟩ 1 1 [.int .i64 u] hx rfl
    (fun j y hy => ?_) (fun y hy => ?_) (by unfold maxLen; omega) (by omega) (by simp; omega) ?_
  · rw [Addr.add_lit, Nat.zero_add, cell_of_row _ _ _ _ _ _ (heap_alloc_new w _)]
    simpa using hy
  · rcases List.mem_cons.1 hy with e | hy
    · subst e; rfl
    · cases hy
  · intro v' w' ho' hg _ hlies
    rw [hob] at hg hlies
    have hg' : w.grownBy w' (A.map (·.block)) := by
      refine ⟨hg.os, hg.tape, hg.output, ?_, ?_⟩
      · have := hg.size; simp at this; omega
      · intro k hk hne
        rw [hg.block k (by simp; omega) hne]
        exact Below.heap_alloc _ _ _ hk
    have hbel : Below base w w' := (Below.refl _ _).grown hg' hb (fun k hk => by
      rcases hown.form with ⟨e, _⟩ | ⟨g, _, e, hg2, _⟩
      · rw [e] at hk; cases hk
      · rw [e] at hk; injection hk with hk; subst hk; exact hg2)
    have e : xs.map (Value.int .i64) ++ [.int .i64 u] = (xs ++ [u]).map (Value.int .i64) := by rw [List.map_append]; rfl
    rw [e] at ho'
    rcases ho'.2 with ⟨rfl, h0⟩ | ⟨g, cap, cur, rfl, _⟩
    · omega
    · refine h _ _ w' ⟨ho', hn⟩ hg' hbel fun k hk hne => ?_
      rcases hlies with e | e
      · intro e2; exact hne (e ▸ e2)
      · intro e2
        have e3 : some k = some (w.alloc (.cells #[.int .i64 u] 3)).heap.size := e2.symm.trans e
        injection e3 with e3
        simp at e3; omega

end Go.Proofs.Ytlmbeinifnafaaa
