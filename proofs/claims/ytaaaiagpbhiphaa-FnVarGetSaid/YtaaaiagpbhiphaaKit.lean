/- Small notions for the walks of this seat: a slice of ints that reads as a list ('Row'), one that the call itself made ('Own'), and what the contracts leave. No condition. -/
import Derived.Test.YtaaaiagpbhiphaaProg
import Derived.WalkKit
import Derived.WalkSpells
import Derived.WalkLawsBesides
import Derived.KernelRfl
import Derived.BigQuiet
import Derived.Deep.QuietTactic
import Derived.Deep.AppendLies
import Derived.Deep.Draws
import Derived.Maps.AppendAt
import Derived.Handy
namespace Go.Proofs.Ytaaaiagpbhiphaa
open Go.RowKit

/-- A fact kept from the walk's simp. -/
theorem hid {p : Prop} (h : p) : Hid p := h

theorem int_info : (Try.prog.info? 3).map (fun i => (i.zero, i.size, i.bytes)) = some (some (.int .i64 0), 1, 8) := by kernel_rfl

/-- The slice with address A, length n, capacity c reads as xs; its cells lie below block B. -/
structure Row (w : World) (B : Nat) (A : Option Addr) (n c : Nat) (xs : List Int) : Prop where
  len : xs.length = n
  small : n ≤ 1048576
  cap : n ≤ c
  capm : c ≤ maxLen
  nil : A = none → c = 0
  at_ : 0 < n → ∃ b off, A = some ⟨b, off, none⟩ ∧ b < B ∧ ∀ j u, xs[j]? = some u → w.cell? ⟨b, off + j, none⟩ = some (.int .i64 u)

theorem drop_cons {α : Type} {xs : List α} {k : Nat} (h : k < xs.length) : ∃ x, xs[k]? = some x ∧ xs.drop k = x :: xs.drop (k + 1) :=
  ⟨xs[k], List.getElem?_eq_getElem h, List.drop_eq_getElem_cons h⟩

section
variable {w w' : World} {B B' n c b off : Nat} {A : Option Addr} {xs : List Int}
theorem Row.step (h : Row w B A n c xs) {k : Nat} (hk : k < n) : ∃ b off x, A = some ⟨b, off, none⟩ ∧ b < B ∧ w.cell? ⟨b, off + k, none⟩ = some (.int .i64 x) ∧ xs[k]? = some x ∧ xs.drop k = x :: xs.drop (k + 1) := by
  obtain ⟨b, off, e, hb, hc⟩ := h.at_ (by omega)
  obtain ⟨x, hx, hd⟩ := drop_cons (xs := xs) (k := k) (by rw [h.len]; exact hk)
  exact ⟨b, off, x, e, hb, hc k x hx, hx, hd⟩
theorem Row.keep (h : Row w B A n c xs) (hk : ∀ p : Addr, p.block < B → w'.cell? p = w.cell? p) : Row w' B A n c xs :=
  ⟨h.len, h.small, h.cap, h.capm, h.nil, fun hn => by
    obtain ⟨b, off, e, hb, hc⟩ := h.at_ hn
    exact ⟨b, off, e, hb, fun j u hu => (hk _ hb).trans (hc j u hu)⟩⟩
theorem Row.more (h : Row w B A n c xs) (hB : B ≤ B') : Row w B' A n c xs :=
  ⟨h.len, h.small, h.cap, h.capm, h.nil, fun hn => by
    obtain ⟨b, off, e, hb, hc⟩ := h.at_ hn
    exact ⟨b, off, e, by omega, hc⟩⟩
theorem Row.below (h : Row w B A n c xs) (hb : Below B w w') : Row w' B A n c xs := h.keep fun _ hp => hb.cell hp
theorem Row.alloc (h : Row w B A n c xs) (hB : B ≤ w.heap.size) (o : Obj) : Row (w.alloc o) B A n c xs := h.keep fun p hp => World.cell?_alloc_lt w o p (by omega)
theorem Row.drewN (h : Row w B A n c xs) (k : Nat) : Row (w.drewN k) B A n c xs := h.keep fun _ _ => rfl
theorem Row.drew (h : Row w B A n c xs) : Row w.drew B A n c xs := h.keep fun _ _ => rfl
theorem Row.setCell (h : Row w B A n c xs) {p : Addr} (hB : B ≤ p.block) (u : Value) : Row (w.setCell p u) B A n c xs :=
  h.keep fun q hq => World.cell?_setCell_other w p q u (fun e => by subst e; omega)
/-- xs[:k] -/
theorem Row.pre (h : Row w B A n c xs) {k : Nat} (hk : k ≤ n) : Row w B A k c (xs.take k) :=
  ⟨by rw [List.length_take, h.len]; omega, by have := h.small; omega, by have := h.cap; omega, h.capm, h.nil, fun h0 => by
    obtain ⟨b, off, e, hb, hc⟩ := h.at_ (by omega)
    refine ⟨b, off, e, hb, fun j u hu => hc j u ?_⟩
    rw [List.getElem?_take] at hu
    split at hu
    · exact hu
    · cases hu⟩
/-- xs[k:], with the address as the model moves it. -/
theorem Row.suf (h : Row w B A n c xs) {k : Nat} (hk : k ≤ n) : Row w B (if c = k then A else Option.map (fun x => x.add k) A) (n - k) (c - k) (xs.drop k) := by
  have hnc := h.cap
  refine ⟨by rw [List.length_drop, h.len], by have := h.small; omega, by omega, by have := h.capm; omega, ?_, fun h0 => ?_⟩
  · intro e
    by_cases hc : c = k
    · omega
    · rw [if_neg hc, Option.map_eq_none_iff] at e
      have := h.nil e; omega
  · obtain ⟨b, off, e, hb, hc⟩ := h.at_ (by omega)
    refine ⟨b, off + k, by rw [if_neg (by omega), e, Option.map_some, Addr.add_lit], hb, fun j u hu => ?_⟩
    rw [Nat.add_assoc]
    exact hc (k + j) u (by rw [← hu, List.getElem?_drop])
theorem Row.suf_at (h : Row w B A n c xs) {k : Nat} (hk : k ≤ n) : ∃ D, (if c = k then A else Option.map (fun x => x.add k) A) = D ∧ Row w B D (n - k) (c - k) (xs.drop k) := ⟨_, rfl, h.suf hk⟩
/-- xs[lo:hi] of a row at a block's head. -/
theorem Row.mid (h : Row w B (some ⟨b, 0, none⟩) n c xs) {lo hi L : Nat} (h1 : lo ≤ hi) (h2 : hi ≤ n) (hL : L = hi - lo) : Row w B (some ⟨b, lo, none⟩) L (c - lo) ((xs.take hi).drop lo) := by
  subst hL
  have hn := h.len
  have hc := h.cap
  refine ⟨by rw [List.length_drop, List.length_take]; omega, by have := h.small; omega, by omega, by have := h.capm; omega, (fun e => by cases e), fun h0 => ?_⟩
  obtain ⟨b', off, e, hb, hcell⟩ := h.at_ (by omega)
  injection e with e; injection e with e1 e2; subst e1; subst e2
  refine ⟨b, lo, rfl, hb, fun j u hu => ?_⟩
  rw [List.getElem?_drop, List.getElem?_take] at hu
  split at hu
  · have := hcell (lo + j) u hu
    rwa [Nat.zero_add] at this
  · cases hu
/-- A row of no numbers, whatever its address. -/
theorem Row.none_ {w : World} {B L c : Nat} {A : Option Addr} (hL : L = 0) (hc : c ≤ maxLen) (h0 : A = none → c = 0) : Row w B A L c [] := by
  subst hL
  exact ⟨rfl, Nat.zero_le _, Nat.zero_le _, hc, h0, fun h => absurd h (Nat.lt_irrefl _)⟩
theorem Row.nodes (h : Row w B A n c xs) (hn : n = 0) : xs = [] := List.eq_nil_of_length_eq_zero (by rw [h.len]; exact hn)
theorem Row.full (h : Row w B A n c xs) {k : Nat} (hk : n ≤ k) : xs.drop k = [] := List.drop_eq_nil_of_le (by rw [h.len]; exact hk)
end

/-- The slice is one that the call made: a row from block 'base' on. -/
def Own (w : World) (base : Nat) (A : Option Addr) (n c : Nat) (xs : List Int) : Prop :=
  w.ownsRow base 3 1 (.slice A n c) n (xs.map (Value.int .i64)) ∧ n ≤ 1048576

section
variable {w w' : World} {base n c : Nat} {A : Option Addr} {xs : List Int}
theorem Own.len (h : Own w base A n c xs) : xs.length = n := by have := h.1.1; simpa using this
theorem Own.form (h : Own w base A n c xs) : (A = none ∧ n = 0 ∧ c = 0) ∨ ∃ g cur, A = some ⟨g, 0, none⟩ ∧ base ≤ g ∧ g < w.heap.size ∧ w.heap[g]? = some (.cells cur 3 (0, 0)) ∧ n ≤ c ∧ c ≤ maxLen ∧ cur.size = c ∧ cur.toList.take n = xs.map (Value.int .i64) := by
  rcases h.1.2 with ⟨e, _⟩ | ⟨g, cap, cur, e, hg, hh, hn, hc, hs, ht⟩
  · injection e with e1 e2 e3
    exact .inl ⟨e1, e2, e3⟩
  · injection e with e1 e2 e3
    subst e1; subst e3
    exact .inr ⟨g, cur, rfl, hg, (Array.getElem?_eq_some_iff.1 hh).1, hh, hn, hc, by simpa using hs, by simpa using ht⟩
theorem Own.row (h : Own w base A n c xs) : Row w w.heap.size A n c xs := by
  have hl := h.len
  rcases h.form with ⟨rfl, rfl, rfl⟩ | ⟨g, cur, rfl, hg, hlt, hh, hn, hc, hs, ht⟩
  · exact ⟨hl, Nat.zero_le _, Nat.le_refl _, Nat.zero_le _, fun _ => rfl, fun h0 => by omega⟩
  · refine ⟨hl, h.2, hn, hc, (fun e => by cases e), fun _ => ⟨g, 0, rfl, hlt, fun j u hu => ?_⟩⟩
    have hj : j < xs.length := (List.getElem?_eq_some_iff.1 hu).1
    have h1 : (xs.map (Value.int .i64))[j]? = some (.int .i64 u) := by rw [List.getElem?_map, hu]; rfl
    rw [← ht, List.getElem?_take, if_pos (by omega)] at h1
    rw [Nat.zero_add, cell_of_row w g j cur _ _ hh]
    simpa using h1
theorem Own.below (h : Own w base A n c xs) {B : Nat} (hb : Below B w w') (hB : w.heap.size ≤ B) : Own w' base A n c xs := by
  refine ⟨⟨h.1.1, ?_⟩, h.2⟩
  rcases h.1.2 with h0 | ⟨g, cap, cur, e, hg, hh, r⟩
  · exact .inl h0
  · exact .inr ⟨g, cap, cur, e, hg, (hb.block g (by have := (Array.getElem?_eq_some_iff.1 hh).1; omega)).trans hh, r⟩
theorem Own.mono (h : Own w base A n c xs) {b : Nat} (hb : b ≤ base) : Own w b A n c xs := by
  refine ⟨⟨h.1.1, ?_⟩, h.2⟩
  rcases h.1.2 with h0 | ⟨g, cap, cur, e, hg, r⟩
  · exact .inl h0
  · exact .inr ⟨g, cap, cur, e, by omega, r⟩
end

section
variable {w w' : World} {base n c g : Nat} {A : Option Addr} {xs : List Int}
theorem Own.at_ (h : Own w base A n c xs) (hn : 0 < n) : ∃ g, A = some ⟨g, 0, none⟩ ∧ base ≤ g ∧ g < w.heap.size := by
  rcases h.form with ⟨_, h0, _⟩ | ⟨g, cur, e, hg, hl, _⟩
  · omega
  · exact ⟨g, e, hg, hl⟩
theorem Own.blk (h : Own w base (some ⟨g, 0, none⟩) n c xs) : base ≤ g ∧ g < w.heap.size := by
  rcases h.form with ⟨e, _⟩ | ⟨g', cur, e, hg, hl, _⟩
  · cases e
  · injection e with e; injection e with e; subst e; exact ⟨hg, hl⟩
theorem Own.caps (h : Own w base A n c xs) : n ≤ c ∧ c ≤ maxLen := by
  rcases h.form with ⟨_, rfl, rfl⟩ | ⟨g, cur, e, hg, hl, _, h1, h2, _⟩
  · exact ⟨Nat.le_refl _, Nat.zero_le _⟩
  · exact ⟨h1, h2⟩
theorem Own.cellAt (h : Own w base (some ⟨g, 0, none⟩) n c xs) {j : Nat} {u : Int} (hu : xs[j]? = some u) : w.cell? ⟨g, j, none⟩ = some (.int .i64 u) := by
  have hj : j < n := by have := (List.getElem?_eq_some_iff.1 hu).1; have := h.len; omega
  rw [h.1.cellAt j (by omega), List.getElem?_map, hu]; rfl
theorem Own.frozenAt (h : Own w base (some ⟨g, 0, none⟩) n c xs) (j : Nat) : w.frozen? ⟨g, j, none⟩ = false := h.1.frozenAt j
theorem Own.stored (h : Own w base (some ⟨g, 0, none⟩) n c xs) (j : Nat) (u : Int) : Own (w.setCell ⟨g, j, none⟩ (.int .i64 u)) base (some ⟨g, 0, none⟩) n c (xs.set j u) :=
  ⟨by have := (h.1.stored j (.int .i64 u)).1; rw [List.map_set]; exact this, h.2⟩
theorem Own.kept (h : Own w base A n c xs) {row : Option Nat} (hg : w.grownBy w' row) (hne : A = none ∨ A.map (·.block) ≠ row) : Own w' base A n c xs := by
  refine ⟨h.1.kept hg ?_, h.2⟩
  cases A with
  | none => exact .inl rfl
  | some a => rcases hne with e | e
              · cases e
              · exact .inr e
theorem Own.alloc (h : Own w base A n c xs) (o : Obj) : Own (w.alloc o) base A n c xs := ⟨h.1.alloc o, h.2⟩
theorem Own.drewN (h : Own w base A n c xs) (k : Nat) : Own (w.drewN k) base A n c xs := h.kept (row := none) ⟨rfl, rfl, rfl, Nat.le_refl _, fun _ _ _ => rfl⟩ (by cases A <;> simp)
theorem Own.set_low (h : Own w base A n c xs) {a : Addr} (ha : a.block < base) (u : Value) : Own (w.setCell a u) base A n c xs := ⟨ownsRow_setCell_below h.1 ha u, h.2⟩
theorem Own.made (h : w'.ownsRow base 3 1 (.slice A n c) n (madeCells (Value.int .i64 0).cells (n * 1)).toList) (hn : n ≤ 1048576) : Own w' base A n c (List.replicate n 0) := by
  refine ⟨?_, hn⟩
  have e : (madeCells (Value.int .i64 0).cells (n * 1)).toList = (List.replicate n (0 : Int)).map (Value.int .i64) := by
    rw [Nat.mul_one, List.map_replicate]; exact toList_madeCells_one _ _
  rw [← e]; exact h
theorem Own.lit (w : World) (us : List Int) {m : Nat} (hm : us.length = m) (hs : m ≤ 1048576) (hb : base ≤ w.heap.size) :
    Own (w.alloc (.cells (us.map (Value.int .i64)).toArray 3)) base (some ⟨w.heap.size, 0, none⟩) m m us := by
  refine ⟨?_, hs⟩
  have h := World.ownsRow_lit (base := base) (e := 3) (size := 1) w (us.map (Value.int .i64)).toArray m hb (by unfold maxLen; omega) (by simp [hm])
  simpa using h
end

theorem Own.pre {w : World} {base n c : Nat} {A : Option Addr} {xs : List Int} (h : Own w base A n c xs) {k : Nat} (hk : k ≤ n) : Own w base A k c (xs.take k) := by
  have hl := h.len
  refine ⟨⟨by rw [List.length_map, List.length_take]; omega, ?_⟩, by have := h.2; omega⟩
  rcases h.1.2 with ⟨e, h0⟩ | ⟨g, cap, cur, e, hg, hh, hn, hc, hs, ht⟩
  · injection e with e1 e2 e3
    subst e1; subst e3
    have : k = 0 := by omega
    subst this
    exact .inl ⟨rfl, rfl⟩
  · injection e with e1 e2 e3
    subst e1; subst e3
    refine .inr ⟨g, c, cur, rfl, hg, hh, by omega, hc, hs, ?_⟩
    rw [List.map_take, ← ht, List.take_take]
    congr 1; omega
/-- 'append(out, xs...)' on a row of the call's own: whatever the source, a row that reads as ys. -/
theorem wp_join {w : World} {o : Oper} {a : Act} {K : Act → World → Prop} {Q : Exit → Act → World → Prop} (s x : Operand)
    (ho : o.op = .call { callee := .builtin .append, args := #[s, x], argTypes := #[27, 27] })
    {base n c B m d : Nat} {A D : Option Addr} {xs ys : List Int} (hs : a.eval s = .slice A n c) (hown : Own w base A n c xs) (hx : a.eval x = .slice D m d) (hr : Row w B D m d ys)
    (hn : n + m ≤ 1048576) (hb : base ≤ w.heap.size)
    (h : ∀ A' c' w', Own w' base A' (n + m) c' (xs ++ ys) → w.grownBy w' (A.map (·.block)) → Below base w w' → K (a.put o.dst (.slice A' (n + m) c')) w') : o.wp Try.prog a w K Q := by
  obtain ⟨i, hi, hz, h1, h2⟩ := info_parts int_info
  have hob : (Value.slice A n c).ownBlock = A.map (·.block) := by cases A <;> rfl
  have fin : ∀ v' w', w'.ownsRow base 3 1 v' (n + m) ((xs ++ ys).map (Value.int .i64)) → w.grownBy w' (A.map (·.block)) → K (a.put o.dst v') w' := by
    intro v' w' ho' hg
    have hbel : Below base w w' := (Below.refl _ _).grown hg hb (fun k hk => by
      rcases hown.form with ⟨e, _⟩ | ⟨g, _, e, hg', _⟩
      · rw [e] at hk; cases hk
      · rw [e] at hk; injection hk with hk; subst hk; exact hg')
    rcases ho'.2 with ⟨rfl, h0⟩ | ⟨g, cap, cur, rfl, _⟩
    · have := h none 0 w' (by refine ⟨?_, hn⟩; rw [h0] at ho' ⊢; exact ho') hg hbel
      rw [h0] at this; exact this
    · exact h _ _ w' ⟨ho', hn⟩ hg hbel
  have hmb : (n + m) * 8 ≤ 140737488355328 := by omega
  have hml : n + m ≤ maxLen := by unfold maxLen; omega
  rcases D with _ | ad
  · have hm : m = 0 := by
      rcases Nat.eq_zero_or_pos m with h0 | h0
      · exact h0
      · obtain ⟨_, _, e, _⟩ := hr.at_ h0; cases e
    subst hm
    have hys := hr.nodes rfl
    subst hys
    have hrun := run_append_owned_none (P := Try.prog) w base 27 o.type 3 i 1 Try.underlying27 hi _ n _ hown.1
    unfold Oper.wp
    have hd : d = 0 := hr.nil rfl
    subst hd
    simp [execOp, ho, resolve, invoke, builtin, hs, hx, hrun, Result.andThen]
    exact fin _ _ (by simpa using hown.1) (World.grownBy.refl _ _)
  · have hcells : ∀ j u, (ys.map (Value.int .i64))[j]? = some u → w.cell? (ad.add j) = some u := by
      intro j u hu
      rw [List.getElem?_map] at hu
      obtain ⟨y, hy, rfl⟩ := Option.map_eq_some_iff.1 hu
      have hj : j < m := by have := (List.getElem?_eq_some_iff.1 hy).1; have := hr.len; omega
      obtain ⟨b, off, e, _, hc⟩ := hr.at_ (by omega)
      injection e with e
      subst e
      rw [Addr.add_lit]
      exact hc j y hy
    refine wp_append_own w s x 27 ho base 3 i (.int .i64 0) 1 8 Try.underlying27 hi hz h1 h2 rfl (by decide) _ n _ hs hown.1 ad m d (ys.map (Value.int .i64)) hx (by simp [hr.len]) hcells (ints_oneCell _ _) hml hmb hb ?_
    intro v' w' ho' hg _
    exact fin v' w' (by simpa using ho') (by rw [← hob]; exact hg)

theorem wpList_join {w : World} {ops : Array Oper} {rest : List Oper} {o : Oper} {a : Act} {Q : Exit → Act → World → Prop} (hgd : o.guard = none) (s x : Operand)
    (ho : o.op = .call { callee := .builtin .append, args := #[s, x], argTypes := #[27, 27] })
    {base n c B m d : Nat} {A D : Option Addr} {xs ys : List Int} (hs : a.eval s = .slice A n c) (hown : Own w base A n c xs) (hx : a.eval x = .slice D m d) (hr : Row w B D m d ys)
    (hn : n + m ≤ 1048576) (hb : base ≤ w.heap.size)
    (h : ∀ A' c' w', Own w' base A' (n + m) c' (xs ++ ys) → w.grownBy w' (A.map (·.block)) → Below base w w' → wpList Try.prog ops Q rest (a.put o.dst (.slice A' (n + m) c')) w') : wpList Try.prog ops Q (o :: rest) a w :=
  wpList_plain hgd fun _ hK => wp_join s x ho hs hown hx hr hn hb fun A' c' w' h1 h2 h3 => hK _ _ (h A' c' w' h1 h2 h3)

/-- The same at a step of a region that draws its order. -/
theorem step_join {w : World} {ops : Array Oper} {o : Oper} {a : Act} {K : Act → World → Prop} {Q : Exit → Act → World → Prop} {E : Prop} (hgd : o.guard = none) (s x : Operand)
    (ho : o.op = .call { callee := .builtin .append, args := #[s, x], argTypes := #[27, 27] })
    {base n c B m d : Nat} {A D : Option Addr} {xs ys : List Int} (hs : a.eval s = .slice A n c) (hown : Own w base A n c xs) (hx : a.eval x = .slice D m d) (hr : Row w B D m d ys)
    (hn : n + m ≤ 1048576) (hb : base ≤ w.heap.size)
    (h : ∀ A' c' w', Own w' base A' (n + m) c' (xs ++ ys) → w.grownBy w' (A.map (·.block)) → Below base w w' → K (a.put o.dst (.slice A' (n + m) c')) w') :
    if Region.wanted o (yielded ops a.tmps) = true then Oper.wp Try.prog o a w K Q else E := by
  have hw : Region.wanted o (yielded ops a.tmps) = true := by simp [Region.wanted, hgd]
  rw [if_pos hw]
  exact wp_join s x ho hs hown hx hr hn hb h

/-- 'append(out, u)'. -/
theorem wpList_push {w : World} {ops : Array Oper} {rest : List Oper} {o : Oper} {a : Act} {Q : Exit → Act → World → Prop} (hgd : o.guard = none) (s x : Operand)
    (ho : o.op = .call { callee := .builtin .append, args := #[s, x], argTypes := #[27, 27] })
    {base n c : Nat} {A : Option Addr} {xs : List Int} {u : Int} (hs : a.eval s = .slice A n c) (hown : Own w base A n c xs) (hx : a.eval x = .slice (some ⟨w.heap.size, 0, none⟩) 1 1)
    (hn : n + 1 ≤ 1048576) (hb : base ≤ w.heap.size)
    (h : ∀ A' c' w', Own w' base A' (n + 1) c' (xs ++ [u]) → w.grownBy w' (A.map (·.block)) → Below base w w' → wpList Try.prog ops Q rest (a.put o.dst (.slice A' (n + 1) c')) w') :
    wpList Try.prog ops Q (o :: rest) a (w.alloc (.cells #[.int .i64 u] 3)) := by
  refine wpList_join hgd s x ho hs (hown.alloc _) hx (Own.lit (base := base) w [u] (m := 1) rfl (by omega) hb).row hn (by simp; omega) ?_
  intro A' c' w' h1 h2 h3
  refine h A' c' w' h1 ⟨h2.os, h2.tape, h2.output, ?_, ?_⟩ ?_
  · have := h2.size; simp at this; omega
  · intro k hk hne
    rw [h2.block k (by simp; omega) hne]
    exact Below.heap_alloc _ _ _ hk
  · exact ((Below.refl _ _).alloc hb _).trans h3

/-- A slice of bytes (the code that a draw reads). -/
structure BRow (w : World) (B : Nat) (A : Option Addr) (n c : Nat) : Prop where
  cap : n ≤ c
  capm : c ≤ maxLen
  nil : A = none → c = 0
  at_ : 0 < n → ∃ b off, A = some ⟨b, off, none⟩ ∧ b < B ∧ ∀ j, j < n → ∃ u : Int, 0 ≤ u ∧ u ≤ 255 ∧ w.cell? ⟨b, off + j, none⟩ = some (.int .u8 u)
theorem BRow.keep {w w' : World} {B n c : Nat} {A : Option Addr} (h : BRow w B A n c) (hk : ∀ p : Addr, p.block < B → w'.cell? p = w.cell? p) : BRow w' B A n c :=
  ⟨h.cap, h.capm, h.nil, fun hn => by
    obtain ⟨b, off, e, hb, hc⟩ := h.at_ hn
    exact ⟨b, off, e, hb, fun j hj => by
      obtain ⟨u, h1, h2, h3⟩ := hc j hj
      exact ⟨u, h1, h2, (hk _ hb).trans h3⟩⟩⟩
theorem BRow.below {w w' : World} {B n c : Nat} {A : Option Addr} (h : BRow w B A n c) (hb : Below B w w') : BRow w' B A n c := h.keep fun _ hp => hb.cell hp
/-- The reader of a code: block g holds the code's slice and the place p. -/
def Rd (w : World) (g p : Nat) : Prop := ∃ A n c, w.heap[g]? = some (.cells #[.slice A n c, .int .i64 (p : Int)] 43 (0, 0)) ∧ BRow w g A n c ∧ n ≤ 2000
theorem Rd.lt {w : World} {g p : Nat} (h : Rd w g p) : g < w.heap.size := by
  obtain ⟨A, n, c, h, _⟩ := h
  exact (Array.getElem?_eq_some_iff.1 h).1
theorem Rd.keep {w w' : World} {g p : Nat} (h : Rd w g p) (hk : ∀ k, k ≤ g → w'.heap[k]? = w.heap[k]?) : Rd w' g p := by
  obtain ⟨A, n, c, h1, h2, h3⟩ := h
  exact ⟨A, n, c, (hk g (Nat.le_refl _)).trans h1, h2.keep fun p hp => World.cell?_of_block (hk _ (by omega)), h3⟩
theorem Rd.below {w w' : World} {g p B : Nat} (h : Rd w g p) (hb : Below B w w') (hB : g < B) : Rd w' g p := h.keep fun k hk => hb.block k (by omega)
theorem Rd.alloc {w : World} {g p : Nat} (h : Rd w g p) (o : Obj) : Rd (w.alloc o) g p := h.keep fun k hk => Below.heap_alloc _ _ _ (by have := h.lt; omega)
/-- A call that draws a number below m. -/
def PPick (w : World) (g p : Nat) (m : Int) (e : Ending) (w' : World) : Prop := ∃ x : Nat, e = .returned (.int .i64 (x : Int)) ∧ ((x : Int) < m ∨ x = 0) ∧ Rd w' g (p + 1) ∧ w.grownBy w' (some g)
/-- A new reader, at its beginning. -/
def POpen (w : World) (e : Ending) (w' : World) : Prop := ∃ g, e = .returned (.pointer (some ⟨g, 0, none⟩)) ∧ Rd w' g 0 ∧ w.heap.size ≤ g ∧ Below w.heap.size w w'
/-- A draw of a list of at most K numbers out of the reader g at place p. -/
def PDraw (w : World) (g p K : Nat) (e : Ending) (w' : World) : Prop := ∃ A n c xs p', e = .returned (.slice A n c) ∧ Own w' w.heap.size A n c xs ∧ n ≤ K ∧ Rd w' g p' ∧ p' ≤ p + 4000 ∧ w.grownBy w' (some g)
theorem PDraw.mk {w w' : World} {g p K : Nat} {A : Option Addr} {n c : Nat} {xs : List Int} {p' : Nat} (h1 : Own w' w.heap.size A n c xs) (h2 : n ≤ K) (h3 : Rd w' g p') (h4 : p' ≤ p + 4000) (h5 : w.grownBy w' (some g)) : PDraw w g p K (.returned (.slice A n c)) w' :=
  ⟨A, n, c, xs, p', rfl, h1, h2, h3, h4, h5⟩
theorem Own.grown {w w' : World} {base n c g : Nat} {A : Option Addr} {xs : List Int} (h : Own w base A n c xs) (hg : w.grownBy w' (some g)) (hb : g < base) : Own w' base A n c xs := by
  refine h.kept hg ?_
  rcases h.form with ⟨rfl, _⟩ | ⟨g', _, rfl, h2, _⟩
  · exact .inl rfl
  · exact .inr (fun e => by injection e with e; simp only at e; omega)
theorem grown_trans {a b c : World} {row : Option Nat} (h : a.grownBy b row) (k : b.grownBy c row) : a.grownBy c row :=
  ⟨k.os.trans h.os, k.tape.trans h.tape, k.output.trans h.output, Nat.le_trans h.size k.size, fun i hi hne => (k.block i (Nat.lt_of_lt_of_le hi h.size) hne).trans (h.block i hi hne)⟩
theorem grown_below {a b c : World} {row : Option Nat} {B : Nat} (h : a.grownBy b row) (k : Below B b c) (hB : a.heap.size ≤ B) : a.grownBy c row :=
  ⟨k.os.trans h.os, k.tape.trans h.tape, k.output.trans h.output, Nat.le_trans h.size k.size, fun i hi hne => (k.block i (by omega)).trans (h.block i hi hne)⟩
theorem grown_alloc {a b : World} {row : Option Nat} (h : a.grownBy b row) (o : Obj) : a.grownBy (b.alloc o) row :=
  grown_below h ((Below.refl b.heap.size b).alloc (Nat.le_refl _) o) h.size
theorem below_grown {a b : World} {B g : Nat} (h : a.grownBy b (some g)) (hB : B ≤ a.heap.size) (hg : B ≤ g) : Below B a b :=
  ⟨h.os, h.tape, h.output, h.size, fun k hk => h.block k (by omega) (fun e => by injection e; omega)⟩
theorem Row.grown {w w' : World} {B n c g : Nat} {A : Option Addr} {xs : List Int} (h : Row w B A n c xs) (hg : w.grownBy w' (some g)) (hB : B ≤ w.heap.size) (hd : ∀ a, A = some a → a.block ≠ g) : Row w' B A n c xs :=
  ⟨h.len, h.small, h.cap, h.capm, h.nil, fun hn => by
    obtain ⟨b, off, e, hb, hc⟩ := h.at_ hn
    refine ⟨b, off, e, hb, fun j u hu => ?_⟩
    rw [World.cell?_of_block (w := w) (hg.block b (by omega) (fun e2 => hd _ e (by injection e2)))]
    exact hc j u hu⟩

/-- The call hands back a new slice that reads as ys; what was there is as it was. -/
def PSl (w : World) (ys : List Int) (e : Ending) (w' : World) : Prop := ∃ A c, e = .returned (.slice A ys.length c) ∧ Own w' w.heap.size A ys.length c ys ∧ Below w.heap.size w w'
/-- .. and a bool beside it. -/
def PSlB (w : World) (r : List Int × Bool) (e : Ending) (w' : World) : Prop := ∃ A c, e = .returned (.tuple #[.slice A r.1.length c, .bool r.2]) ∧ Own w' w.heap.size A r.1.length c r.1 ∧ Below w.heap.size w w'
theorem PSl.mk {w w' : World} {ys : List Int} {A : Option Addr} {n c : Nat} (hn : ys.length = n) (h : Own w' w.heap.size A n c ys) (hb : Below w.heap.size w w') : PSl w ys (.returned (.slice A n c)) w' := by
  subst hn; exact ⟨A, c, rfl, h, hb⟩
theorem PSlB.mk {w w' : World} {ys : List Int} {b : Bool} {A : Option Addr} {n c : Nat} (hn : ys.length = n) (h : Own w' w.heap.size A n c ys) (hb : Below w.heap.size w w') : PSlB w (ys, b) (.returned (.tuple #[.slice A n c, .bool b])) w' := by
  subst hn; exact ⟨A, c, rfl, h, hb⟩
/-- A draw of a list out of a code. -/
def PList (w : World) (K : Nat) (e : Ending) (w' : World) : Prop := ∃ A n c xs, e = .returned (.slice A n c) ∧ Own w' w.heap.size A n c xs ∧ n ≤ K ∧ Below w.heap.size w w'
/-- A law's call returns true; what was there is as it was. -/
def PTrue (w : World) (e : Ending) (w' : World) : Prop := e = .returned (.bool true) ∧ Below w.heap.size w w'
/-- The call only computes, and hands back two numbers and a bool. -/
def P3 (w : World) (r : Int × Int × Bool) (e : Ending) (w' : World) : Prop := e = .returned (.tuple #[.int .i64 r.1, .int .i64 r.2.1, .bool r.2.2]) ∧ w = w'
theorem P3.mk {w : World} {r : Int × Int × Bool} {a b : Int} {o : Bool} (h : r = (a, b, o)) : P3 w r (.returned (.tuple #[.int .i64 a, .int .i64 b, .bool o])) w := by
  subst h; exact ⟨rfl, rfl⟩
/-- Two numbers and a bool; what was there is as it was. -/
def P3B (w : World) (r : Int × Int × Bool) (e : Ending) (w' : World) : Prop := e = .returned (.tuple #[.int .i64 r.1, .int .i64 r.2.1, .bool r.2.2]) ∧ Below w.heap.size w w'
theorem P3B.mk {w w' : World} {r : Int × Int × Bool} {a b : Int} {o : Bool} (h : r = (a, b, o)) (hb : Below w.heap.size w w') : P3B w r (.returned (.tuple #[.int .i64 a, .int .i64 b, .bool o])) w' := by
  subst h; exact ⟨rfl, hb⟩
end Go.Proofs.Ytaaaiagpbhiphaa
