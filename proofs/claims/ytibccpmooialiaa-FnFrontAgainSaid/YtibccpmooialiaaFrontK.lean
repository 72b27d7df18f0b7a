/- Laws for the moves to the front: an append that says where the new row lies; a part of a row of the call's own that is moved on by one place. No condition. -/
import Derived.Test.YtibccpmooialiaaKit
import Derived.Test.YtibccpmooialiaaFrontP
import Derived.Laws.CopyOwn
namespace Go.Proofs.Ytibccpmooialiaa
open Go.RowKit
set_option linter.unusedVariables false

/-- 'append(out, u)', and where the new row lies: where it lay or in a new block. -/
theorem wpList_push_at {w : World} {ops : Array Oper} {rest : List Oper} {o : Oper} {a : Act} {Q : Exit → Act → World → Prop} (hgd : o.guard = none) (s x : Operand)
    (ho : o.op = .call { callee := .builtin .append, args := #[s, x], argTypes := #[22, 22] })
    {base n c : Nat} {A : Option Addr} {xs : List Int} {u : Int} {H : Nat} (hs : a.eval s = .slice A n c) (hown : Own w base A n c xs) (hx : a.eval x = .slice (some ⟨H, 0, none⟩) 1 1) (hH : w.heap.size = H)
    (hn : n + 1 ≤ 1048576) (hb : base ≤ w.heap.size)
    (h : ∀ A' c' w', Own w' base A' (n + 1) c' (xs ++ [u]) → w.grownBy w' (A.map (·.block)) → Below base w w' → (∀ g, g < w.heap.size → A.map (·.block) ≠ some g → A'.map (·.block) ≠ some g) → wpList Try.prog ops Q rest (a.put o.dst (.slice A' (n + 1) c')) w') :
    wpList Try.prog ops Q (o :: rest) a (w.alloc (.cells #[.int .i64 u] 3)) := by
  subst hH
  obtain ⟨i, hi, hz, h1, h2⟩ := info_parts int_info
  have hob : (Value.slice A n c).ownBlock = A.map (·.block) := by cases A <;> rfl
  have hl := hown.len
  refine wpList_append_own_at (w.alloc (.cells #[.int .i64 u] 3)) hgd s x 22 ho base 3 i (.int .i64 0) 1 8 Try.underlying22 hi hz h1 h2 rfl (by decide) _ n _ hs (hown.1.alloc _) ⟨w.heap.size, 0, none⟩ 1 1 [.int .i64 u] hx rfl
    (fun j y hy => ?_) (fun y hy => ?_) (by unfold maxLen; omega) (by omega) (by simp; omega) ?_
  · rw [Addr.add_lit, Nat.zero_add, cell_of_row _ _ _ _ _ _ (heap_alloc_new w _)]
    simpa using hy
  · rcases List.mem_cons.1 hy with e | hy
    · subst e; rfl
    · cases hy
  · intro v' w' ho' hg _ hlies
    rw [hob] at hg hlies
    have hg' : w.grownBy w' (A.map (·.block)) := by
      refine ⟨hg.os, hg.tape, hg.output, ?_, ?_⟩
      · have := hg.size; simp at this; omega
      · intro k hk hne
        rw [hg.block k (by simp; omega) hne]
        exact Below.heap_alloc _ _ _ hk
    have hbel : Below base w w' := (Below.refl _ _).grown hg' hb (fun k hk => by
      rcases hown.form with ⟨e, _⟩ | ⟨g, _, e, hg2, _⟩
      · rw [e] at hk; cases hk
      · rw [e] at hk; injection hk with hk; subst hk; exact hg2)
    have e : xs.map (Value.int .i64) ++ [.int .i64 u] = (xs ++ [u]).map (Value.int .i64) := by rw [List.map_append]; rfl
    rw [e] at ho'
    rcases ho'.2 with ⟨rfl, h0⟩ | ⟨g, cap, cur, rfl, _⟩
    · omega
    · refine h _ _ w' ⟨ho', hn⟩ hg' hbel fun k hk hne => ?_
      rcases hlies with e | e
      · intro e2; exact hne (e ▸ e2)
      · intro e2
        have e3 : some k = some (w.alloc (.cells #[.int .i64 u] 3)).heap.size := e2.symm.trans e
        injection e3 with e3
        simp at e3; omega

theorem Own.whole {w : World} {base n g : Nat} {xs : List Int} (h : Own w base (some ⟨g, 0, none⟩) n n xs) : w.heap[g]? = some (.cells (xs.map (Value.int .i64)).toArray 3 (0, 0)) := by
  rcases h.form with ⟨e, _⟩ | ⟨g', cur, e, _, _, hh, _, _, hs, ht⟩
  · cases e
  · injection e with e; injection e with e
    subst e
    rw [hh, ← ht, List.take_of_length_le (by rw [Array.length_toList, hs]; exact Nat.le_refl _)]
theorem Own.ofWhole {w : World} {base n g : Nat} {xs : List Int} (h : w.heap[g]? = some (.cells (xs.map (Value.int .i64)).toArray 3 (0, 0))) (hl : xs.length = n) (hb : base ≤ g) (hn : n ≤ 1048576) : Own w base (some ⟨g, 0, none⟩) n n xs :=
  ⟨⟨by rw [List.length_map, hl, Nat.mul_one], .inr ⟨g, n, _, rfl, hb, h, Nat.le_refl _, by unfold maxLen; omega, by simp [hl], by
    rw [Nat.mul_one]; exact List.take_of_length_le (by simp [hl])⟩⟩, hn⟩

/-- 'copy(order[1:p+1], order[:p])'. -/
theorem wp_shift {o : Oper} {a : Act} {w : World} {K : Act → World → Prop} {Q : Exit → Act → World → Prop} (d s : Operand)
    (ho : o.op = .call { callee := .builtin .copy, args := #[d, s], argTypes := #[22, 22] })
    {base g p dCap sCap : Nat} {dp sp : Option Addr} {os : List Int} (hd : a.eval d = .slice dp p dCap) (hs : a.eval s = .slice sp p sCap)
    (hdp : 0 < p → dp = some ⟨g, 1, none⟩) (hsp : 0 < p → sp = some ⟨g, 0, none⟩) (hown : Own w base (some ⟨g, 0, none⟩) 8 8 os) (hp : p < 8)
    (h : ∀ w', Own w' base (some ⟨g, 0, none⟩) 8 8 (splice os 1 (os.take p)) → w.grownBy w' (some g) → K (a.put o.dst (.int .i64 (p : Int))) w') :
    Oper.wp Try.prog o a w K Q := by
  obtain ⟨i0, hi, hz0, hz1, hz2⟩ := info_parts int_info
  have hsz : (Try.prog.info? 3).map (·.size) = some 1 := by rw [hi, Option.map_some, hz1]
  have hlen := hown.len
  have hwh := hown.whole
  have hbg := hown.blk.1
  have hcl : ((os.take p).map (Value.int .i64)).length = p := by rw [List.length_map, List.length_take]; omega
  have hsl : (splice os 1 (os.take p)).length = 8 := by rw [length_splice _ _ _ (by rw [List.length_take]; omega), hlen]
  have hmap : splice (os.map (Value.int .i64)) 1 ((os.take p).map (Value.int .i64)) = (splice os 1 (os.take p)).map (Value.int .i64) := by
    simp [splice, List.map_append, List.map_take, List.map_drop]
  by_cases h0 : p = 0
  · subst h0
    have hrun := run_copy_none (P := Try.prog) w 22 22 o.type 3 dp sp 0 dCap 0 sCap Try.underlying22 hsz rfl
    unfold Oper.wp
    simp [execOp, ho, resolve, invoke, builtin, hd, hs, hrun, Result.andThen]
    refine h w ?_ (World.grownBy.refl _ _)
    have e : splice os 1 (os.take 0) = os := by rw [splice, List.take_zero, List.nil_append]; exact List.take_append_drop 1 os
    rw [e]; exact hown
  · obtain rfl := hdp (by omega)
    obtain rfl := hsp (by omega)
    have hrun := run_copy_row (P := Try.prog) w 22 22 o.type 3 g 1 p dCap ⟨g, 0, none⟩ p sCap (os.map (Value.int .i64)).toArray 3 ((os.take p).map (Value.int .i64)) Try.underlying22 hsz hwh
      (by rw [hcl]; exact (Nat.min_self p).symm) (fun j v hv => by
        rw [Addr.add_lit, Nat.zero_add, cell_of_row _ _ _ _ _ _ hwh]
        rw [List.getElem?_map, List.getElem?_take] at hv
        split at hv
        · simpa using hv
        · cases hv) (by rw [hcl, List.size_toArray, List.length_map]; omega) (ints_oneCell _ _)
    have hrun2 : (Builtin.copy_ #[22, 22] o.type #[.slice (some ⟨g, 1, none⟩) p dCap, .slice (some ⟨g, 0, none⟩) p sCap]).run Try.prog w = .ok (.int .i64 (p : Int)) (w.setRow g ((splice os 1 (os.take p)).map (Value.int .i64)).toArray) := by
      rw [hrun, hcl, ← hmap, splice, hcl, List.append_assoc]; rfl
    have hheap := setRow_heap w g (os.map (Value.int .i64)).toArray ((splice os 1 (os.take p)).map (Value.int .i64)).toArray 3 (0, 0) hwh
    have hK := h _ (Own.ofWhole hheap hsl hbg (by omega)) ⟨rfl, rfl, rfl, by simp, fun k _ hk => setRow_other w g k _ (fun e => hk (by rw [e]))⟩
    unfold Oper.wp execOp
    simp only [ho, resolve, invoke, builtin, Sem.run_bind, Sem.run_pure, Result.andThen_ok, List.map_toArray, List.map_cons, List.map_nil, hd, hs, hrun2]
    exact hK
theorem shift_set {os : List Int} {p : Nat} {s : Int} (hs : os[p]? = some s) : (splice os 1 (os.take p)).set 0 s = toF os p := by
  have hp := (List.getElem?_eq_some_iff.1 hs).1
  cases os with
  | nil => simp at hp
  | cons x os =>
    have e : (x :: os).getD p 0 = s := by simp only [List.getD]; rw [hs]; rfl
    rw [toF, e, splice, List.length_take, Nat.min_eq_left (by omega), Nat.add_comm 1 p]
    rfl
end Go.Proofs.Ytibccpmooialiaa
