/- Slices of runs (structs of two ints): one that reads as a list of pairs ('RowR'), one that the call itself made ('OwnR'). No condition. -/
import Derived.Test.YtlmbeinifnafaaaKit
namespace Go.Proofs.Ytlmbeinifnafaaa
open Go.RowKit

def cellsR (rs : List (Int × Int)) : List Value := rs.flatMap fun r => [.int .i64 r.1, .int .i64 r.2]
theorem cellsR_cons (r : Int × Int) (rs : List (Int × Int)) : cellsR (r :: rs) = .int .i64 r.1 :: .int .i64 r.2 :: cellsR rs := rfl
theorem cellsR_len (rs : List (Int × Int)) : (cellsR rs).length = rs.length * 2 := by
  induction rs with
  | nil => rfl
  | cons r rs ih => rw [cellsR_cons, List.length_cons, List.length_cons, ih, List.length_cons]; omega
theorem cellsR_append (rs ss : List (Int × Int)) : cellsR (rs ++ ss) = cellsR rs ++ cellsR ss := List.flatMap_append
theorem cellsR_fst : ∀ {rs : List (Int × Int)} {j : Nat} {r : Int × Int}, rs[j]? = some r → (cellsR rs)[j * 2]? = some (.int .i64 r.1)
  | [], j, r, h => by simp at h
  | x :: rs, 0, r, h => by rw [List.getElem?_cons_zero] at h; injection h with h; subst h; rfl
  | x :: rs, j + 1, r, h => by
    rw [List.getElem?_cons_succ] at h
    rw [cellsR_cons, show (j + 1) * 2 = j * 2 + 1 + 1 by omega, List.getElem?_cons_succ, List.getElem?_cons_succ]
    exact cellsR_fst h
theorem cellsR_snd : ∀ {rs : List (Int × Int)} {j : Nat} {r : Int × Int}, rs[j]? = some r → (cellsR rs)[j * 2 + 1]? = some (.int .i64 r.2)
  | [], j, r, h => by simp at h
  | x :: rs, 0, r, h => by rw [List.getElem?_cons_zero] at h; injection h with h; subst h; rfl
  | x :: rs, j + 1, r, h => by
    rw [List.getElem?_cons_succ] at h
    rw [cellsR_cons, show (j + 1) * 2 + 1 = j * 2 + 1 + 1 + 1 by omega, List.getElem?_cons_succ, List.getElem?_cons_succ]
    exact cellsR_snd h
theorem cellsR_set1 : ∀ {rs : List (Int × Int)} {j : Nat} {r : Int × Int} (a : Int), rs[j]? = some r → (cellsR rs).set (j * 2) (.int .i64 a) = cellsR (rs.set j (a, r.2))
  | [], j, r, _, h => by simp at h
  | x :: rs, 0, r, a, h => by rw [List.getElem?_cons_zero] at h; injection h with h; subst h; rfl
  | x :: rs, j + 1, r, a, h => by
    rw [List.getElem?_cons_succ] at h
    rw [cellsR_cons, show (j + 1) * 2 = j * 2 + 1 + 1 by omega, List.set_cons_succ, List.set_cons_succ, cellsR_set1 a h, List.set_cons_succ, cellsR_cons]
theorem cellsR_set2 : ∀ {rs : List (Int × Int)} {j : Nat} {r : Int × Int} (a : Int), rs[j]? = some r → (cellsR rs).set (j * 2 + 1) (.int .i64 a) = cellsR (rs.set j (r.1, a))
  | [], j, r, _, h => by simp at h
  | x :: rs, 0, r, a, h => by rw [List.getElem?_cons_zero] at h; injection h with h; subst h; rfl
  | x :: rs, j + 1, r, a, h => by
    rw [List.getElem?_cons_succ] at h
    rw [cellsR_cons, show (j + 1) * 2 + 1 = j * 2 + 1 + 1 + 1 by omega, List.set_cons_succ, List.set_cons_succ, cellsR_set2 a h, List.set_cons_succ, cellsR_cons]
theorem cellsR_one : ∀ (rs : List (Int × Int)), ∀ u ∈ cellsR rs, u.oneCell' = true
  | [], u, h => by cases h
  | r :: rs, u, h => by
    rw [cellsR_cons] at h
    rcases List.mem_cons.1 h with e | h
    · subst e; rfl
    rcases List.mem_cons.1 h with e | h
    · subst e; rfl
    exact cellsR_one rs u h

/-- The slice with address A, length n, capacity c reads as the pairs rs; its cells lie below block B. -/
structure RowR (w : World) (B : Nat) (A : Option Addr) (n c : Nat) (rs : List (Int × Int)) : Prop where
  len : rs.length = n
  small : n ≤ 1048576
  cap : n ≤ c
  capm : c ≤ maxLen
  nil : A = none → c = 0
  at_ : 0 < n → ∃ b off, A = some ⟨b, off, none⟩ ∧ b < B ∧ ∀ j r, rs[j]? = some r → w.cell? ⟨b, off + j * 2, none⟩ = some (.int .i64 r.1) ∧ w.cell? ⟨b, off + j * 2 + 1, none⟩ = some (.int .i64 r.2)
theorem drop_consR {α : Type} {xs : List α} {k : Nat} (h : k < xs.length) : ∃ x, xs[k]? = some x ∧ xs.drop k = x :: xs.drop (k + 1) :=
  ⟨xs[k], List.getElem?_eq_getElem h, List.drop_eq_getElem_cons h⟩
section
variable {w w' : World} {B B' n c b off : Nat} {A : Option Addr} {rs : List (Int × Int)}
theorem RowR.step (h : RowR w B A n c rs) {k : Nat} (hk : k < n) : ∃ b off a m, A = some ⟨b, off, none⟩ ∧ b < B ∧ w.cell? ⟨b, off + k * 2, none⟩ = some (.int .i64 a) ∧ w.cell? ⟨b, off + k * 2 + 1, none⟩ = some (.int .i64 m) ∧ rs[k]? = some (a, m) ∧ rs.drop k = (a, m) :: rs.drop (k + 1) := by
  obtain ⟨b, off, e, hb, hc⟩ := h.at_ (by omega)
  obtain ⟨⟨a, m⟩, hx, hd⟩ := drop_consR (xs := rs) (k := k) (by rw [h.len]; exact hk)
  exact ⟨b, off, a, m, e, hb, (hc k _ hx).1, (hc k _ hx).2, hx, hd⟩
theorem RowR.keep (h : RowR w B A n c rs) (hk : ∀ p : Addr, p.block < B → w'.cell? p = w.cell? p) : RowR w' B A n c rs :=
  ⟨h.len, h.small, h.cap, h.capm, h.nil, fun hn => by
    obtain ⟨b, off, e, hb, hc⟩ := h.at_ hn
    exact ⟨b, off, e, hb, fun j u hu => ⟨(hk _ hb).trans (hc j u hu).1, (hk _ hb).trans (hc j u hu).2⟩⟩⟩
theorem RowR.below (h : RowR w B A n c rs) (hb : Below B w w') : RowR w' B A n c rs := h.keep fun _ hp => hb.cell hp
theorem RowR.more (h : RowR w B A n c rs) (hB : B ≤ B') : RowR w B' A n c rs :=
  ⟨h.len, h.small, h.cap, h.capm, h.nil, fun hn => by
    obtain ⟨b, off, e, hb, hc⟩ := h.at_ hn
    exact ⟨b, off, e, by omega, hc⟩⟩
theorem RowR.full (h : RowR w B A n c rs) {k : Nat} (hk : n ≤ k) : rs.drop k = [] := List.drop_eq_nil_of_le (by rw [h.len]; exact hk)
theorem RowR.nodes (h : RowR w B A n c rs) (hn : n = 0) : rs = [] := List.eq_nil_of_length_eq_zero (by rw [h.len]; exact hn)
end

/-- The slice is one that the call made: a row of runs from block 'base' on. -/
def OwnR (w : World) (base : Nat) (A : Option Addr) (n c : Nat) (rs : List (Int × Int)) : Prop :=
  w.ownsRow base 43 2 (.slice A n c) n (cellsR rs) ∧ n ≤ 1048576
section
variable {w w' : World} {base n c g : Nat} {A : Option Addr} {rs : List (Int × Int)}
theorem OwnR.len (h : OwnR w base A n c rs) : rs.length = n := by have := h.1.1; rw [cellsR_len] at this; omega
theorem OwnR.form (h : OwnR w base A n c rs) : (A = none ∧ n = 0 ∧ c = 0) ∨ ∃ g cur, A = some ⟨g, 0, none⟩ ∧ base ≤ g ∧ g < w.heap.size ∧ w.heap[g]? = some (.cells cur 43 (0, 0)) ∧ n ≤ c ∧ c ≤ maxLen := by
  rcases h.1.2 with ⟨e, _⟩ | ⟨g, cap, cur, e, hg, hh, hn, hc, hs, ht⟩
  · injection e with e1 e2 e3
    exact .inl ⟨e1, e2, e3⟩
  · injection e with e1 e2 e3
    subst e1; subst e3
    exact .inr ⟨g, cur, rfl, hg, (Array.getElem?_eq_some_iff.1 hh).1, hh, hn, hc⟩
theorem OwnR.at_ (h : OwnR w base A n c rs) (hn : 0 < n) : ∃ g, A = some ⟨g, 0, none⟩ ∧ base ≤ g ∧ g < w.heap.size := by
  rcases h.form with ⟨_, h0, _⟩ | ⟨g, cur, e, hg, hl, _⟩
  · omega
  · exact ⟨g, e, hg, hl⟩
theorem OwnR.caps (h : OwnR w base A n c rs) : n ≤ c ∧ c ≤ maxLen := by
  rcases h.form with ⟨_, rfl, rfl⟩ | ⟨g, cur, e, hg, hl, _, h1, h2⟩
  · exact ⟨Nat.le_refl _, Nat.zero_le _⟩
  · exact ⟨h1, h2⟩
theorem OwnR.cells (h : OwnR w base (some ⟨g, 0, none⟩) n c rs) {j : Nat} {a m : Int} (hu : rs[j]? = some (a, m)) : w.cell? ⟨g, j * 2, none⟩ = some (.int .i64 a) ∧ w.cell? ⟨g, j * 2 + 1, none⟩ = some (.int .i64 m) := by
  have hj : j < n := by have := (List.getElem?_eq_some_iff.1 hu).1; have := h.len; omega
  rw [h.1.cellAt (j * 2) (by omega), h.1.cellAt (j * 2 + 1) (by omega)]
  exact ⟨cellsR_fst hu, cellsR_snd hu⟩
theorem OwnR.frozenAt (h : OwnR w base (some ⟨g, 0, none⟩) n c rs) (j : Nat) : w.frozen? ⟨g, j, none⟩ = false := h.1.frozenAt j
theorem OwnR.stored1 (h : OwnR w base (some ⟨g, 0, none⟩) n c rs) {j : Nat} {a m : Int} (hu : rs[j]? = some (a, m)) (u : Int) : OwnR (w.setCell ⟨g, j * 2, none⟩ (.int .i64 u)) base (some ⟨g, 0, none⟩) n c (rs.set j (u, m)) :=
  ⟨by have := (h.1.stored (j * 2) (.int .i64 u)).1; rw [cellsR_set1 u hu] at this; exact this, h.2⟩
theorem OwnR.stored2 (h : OwnR w base (some ⟨g, 0, none⟩) n c rs) {j : Nat} {a m : Int} (hu : rs[j]? = some (a, m)) (u : Int) : OwnR (w.setCell ⟨g, j * 2 + 1, none⟩ (.int .i64 u)) base (some ⟨g, 0, none⟩) n c (rs.set j (a, u)) :=
  ⟨by have := (h.1.stored (j * 2 + 1) (.int .i64 u)).1; rw [cellsR_set2 u hu] at this; exact this, h.2⟩
theorem OwnR.row (h : OwnR w base A n c rs) : RowR w w.heap.size A n c rs := by
  have hl := h.len
  rcases h.form with ⟨rfl, rfl, rfl⟩ | ⟨g, cur, rfl, hg, hlt, hh, hn, hc⟩
  · exact ⟨hl, Nat.zero_le _, Nat.le_refl _, Nat.zero_le _, fun _ => rfl, fun h0 => by omega⟩
  · refine ⟨hl, h.2, hn, hc, (fun e => by cases e), fun _ => ⟨g, 0, rfl, hlt, fun j u hu => ?_⟩⟩
    rw [Nat.zero_add]
    exact h.cells hu
theorem OwnR.below (h : OwnR w base A n c rs) {B : Nat} (hb : Below B w w') (hB : w.heap.size ≤ B) : OwnR w' base A n c rs := by
  refine ⟨⟨h.1.1, ?_⟩, h.2⟩
  rcases h.1.2 with h0 | ⟨g, cap, cur, e, hg, hh, r⟩
  · exact .inl h0
  · exact .inr ⟨g, cap, cur, e, hg, (hb.block g (by have := (Array.getElem?_eq_some_iff.1 hh).1; omega)).trans hh, r⟩
theorem OwnR.mono (h : OwnR w base A n c rs) {b : Nat} (hb : b ≤ base) : OwnR w b A n c rs := by
  refine ⟨⟨h.1.1, ?_⟩, h.2⟩
  rcases h.1.2 with h0 | ⟨g, cap, cur, e, hg, r⟩
  · exact .inl h0
  · exact .inr ⟨g, cap, cur, e, by omega, r⟩
theorem OwnR.kept (h : OwnR w base A n c rs) {row : Option Nat} (hg : w.grownBy w' row) (hne : A = none ∨ A.map (·.block) ≠ row) : OwnR w' base A n c rs := by
  refine ⟨h.1.kept hg ?_, h.2⟩
  cases A with
  | none => exact .inl rfl
  | some a => rcases hne with e | e
              · cases e
              · exact .inr e
theorem OwnR.alloc (h : OwnR w base A n c rs) (o : Obj) : OwnR (w.alloc o) base A n c rs := ⟨h.1.alloc o, h.2⟩
theorem OwnR.drewN (h : OwnR w base A n c rs) (k : Nat) : OwnR (w.drewN k) base A n c rs := h.kept (row := none) ⟨rfl, rfl, rfl, Nat.le_refl _, fun _ _ _ => rfl⟩ (by cases A <;> simp)
theorem OwnR.set_low (h : OwnR w base A n c rs) {a : Addr} (ha : a.block < base) (u : Value) : OwnR (w.setCell a u) base A n c rs := ⟨ownsRow_setCell_below h.1 ha u, h.2⟩
theorem OwnR.empty (w : World) (hb : base ≤ w.heap.size) : OwnR (w.alloc (.cells #[] 43)) base (some ⟨w.heap.size, 0, none⟩) 0 0 [] :=
  ⟨World.ownsRow_lit (base := base) (e := 43) (size := 2) w #[] 0 hb (Nat.zero_le _) rfl, Nat.zero_le _⟩
end

theorem run_info : (Try.prog.info? 43).map (fun i => (i.zero, i.size, i.bytes)) = some (some (.agg #[.int .i64 0, .int .i64 0]), 2, 16) := by kernel_rfl

/-- 'append(out, r)' for a run r that lies in a block of its own. -/
theorem wpList_pushR {w : World} {ops : Array Oper} {rest : List Oper} {o : Oper} {a : Act} {Q : Exit → Act → World → Prop} (hgd : o.guard = none) (s x : Operand)
    (ho : o.op = .call { callee := .builtin .append, args := #[s, x], argTypes := #[23, 23] })
    {base n c : Nat} {A : Option Addr} {rs : List (Int × Int)} {u v : Int} {T : TypeId} (hs : a.eval s = .slice A n c) (hown : OwnR w base A n c rs) (hx : a.eval x = .slice (some ⟨w.heap.size, 0, none⟩) 1 1)
    (hn : n + 1 ≤ 1048576) (hb : base ≤ w.heap.size)
    (h : ∀ A' c' w', OwnR w' base A' (n + 1) c' (rs ++ [(u, v)]) → w.grownBy w' (A.map (·.block)) → Below base w w' → wpList Try.prog ops Q rest (a.put o.dst (.slice A' (n + 1) c')) w') :
    wpList Try.prog ops Q (o :: rest) a (w.alloc (.cells #[.int .i64 u, .int .i64 v] T)) := by
  obtain ⟨i, hi, hz, h1, h2⟩ := info_parts run_info
  have hob : (Value.slice A n c).ownBlock = A.map (·.block) := by cases A <;> rfl
  have hl := hown.len
  refine wpList_append_own (w.alloc (.cells #[.int .i64 u, .int .i64 v] T)) hgd s x 23 ho base 43 i (.agg #[.int .i64 0, .int .i64 0]) 2 16 Try.underlying23 hi hz h1 h2 rfl (by decide) _ n _ hs (hown.1.alloc _) ⟨w.heap.size, 0, none⟩ 1 1 [.int .i64 u, .int .i64 v] hx rfl
    (fun j y hy => ?_) (fun y hy => ?_) (by unfold maxLen; omega) (by omega) (by simp; omega) ?_
  · rw [Addr.add_lit, Nat.zero_add, cell_of_row _ _ _ _ _ _ (heap_alloc_new w _)]
    simpa using hy
  · rcases List.mem_cons.1 hy with e | hy
    · subst e; rfl
    · rcases List.mem_cons.1 hy with e | hy
      · subst e; rfl
      · cases hy
  · intro v' w' ho' hg _
    rw [hob] at hg
    have hg' : w.grownBy w' (A.map (·.block)) := by
      refine ⟨hg.os, hg.tape, hg.output, ?_, ?_⟩
      · have := hg.size; simp at this; omega
      · intro k hk hne
        rw [hg.block k (by simp; omega) hne]
        exact Below.heap_alloc _ _ _ hk
    have hbel : Below base w w' := (Below.refl _ _).grown hg' hb (fun k hk => by
      rcases hown.form with ⟨e, _⟩ | ⟨g, _, e, hg2, _⟩
      · rw [e] at hk; cases hk
      · rw [e] at hk; injection hk with hk; subst hk; exact hg2)
    have e : cellsR rs ++ [.int .i64 u, .int .i64 v] = cellsR (rs ++ [(u, v)]) := by rw [cellsR_append]; rfl
    rw [e] at ho'
    rcases ho'.2 with ⟨rfl, h0⟩ | ⟨g, cap, cur, rfl, _⟩
    · omega
    · exact h _ _ w' ⟨ho', hn⟩ hg' hbel

/-- The call hands back a new slice of runs. -/
def PSR (w : World) (rs : List (Int × Int)) (e : Ending) (w' : World) : Prop := ∃ A c, e = .returned (.slice A rs.length c) ∧ OwnR w' w.heap.size A rs.length c rs ∧ Below w.heap.size w w'
theorem PSR.mk {w w' : World} {rs : List (Int × Int)} {A : Option Addr} {n c : Nat} (hn : rs.length = n) (h : OwnR w' w.heap.size A n c rs) (hb : Below w.heap.size w w') : PSR w rs (.returned (.slice A n c)) w' := by
  subst hn; exact ⟨A, c, rfl, h, hb⟩
end Go.Proofs.Ytlmbeinifnafaaa
