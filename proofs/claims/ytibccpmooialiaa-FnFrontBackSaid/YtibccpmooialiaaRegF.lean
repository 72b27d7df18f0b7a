/- A region that draws its order, by what each operation leaves, whichever order: a law of one's own over the one of RegI. No condition. -/
import Derived.Test.YtibccpmooialiaaRegI
namespace Go.Proofs.Ytibccpmooialiaa
open Go.RowKit
set_option linter.unusedVariables false

/-- The frame a, the slots ds written anew with vs. -/
def puts (vs : Nat → Value) : Nat → List Nat → Act → Act
  | _, [], a => a
  | k, d :: ds, a => puts vs (k + 1) ds (a.put (some d) (vs k))
def setV (vs : Nat → Value) (i : Nat) (v : Value) : Nat → Value := fun j => if j = i then v else vs j
theorem setV_self (vs : Nat → Value) (i : Nat) (v : Value) : setV vs i v i = v := if_pos rfl
theorem setV_ne {vs : Nat → Value} {i j : Nat} {v : Value} (h : j ≠ i) : setV vs i v j = vs j := if_neg h
theorem put_put (a : Act) (d : Nat) (u v : Value) : (a.put (some d) u).put (some d) v = a.put (some d) v := by
  simp [Act.put, Array.setIfInBounds_setIfInBounds]
theorem put_swap (a : Act) {d e : Nat} (u v : Value) (h : d ≠ e) : (a.put (some d) u).put (some e) v = (a.put (some e) v).put (some d) u := by
  simp [Act.put, Array.setIfInBounds_comm _ _ h]
theorem put_puts_far (vs : Nat → Value) (d : Nat) (v : Value) : ∀ (ds : List Nat) (k : Nat) (a : Act), d ∉ ds → (puts vs k ds a).put (some d) v = puts vs k ds (a.put (some d) v)
  | [], _, _, _ => rfl
  | e :: ds, k, a, h => by
    rw [puts, put_puts_far vs d v ds _ _ (fun hm => h (List.mem_cons_of_mem _ hm)), puts, put_swap a (d := e) (e := d) _ _ (fun e' => h (by rw [e']; exact List.mem_cons_self))]
theorem puts_congr {vs us : Nat → Value} : ∀ (ds : List Nat) (k : Nat) (a : Act), (∀ j, k ≤ j → vs j = us j) → puts vs k ds a = puts us k ds a
  | [], _, _, _ => rfl
  | d :: ds, k, a, h => by rw [puts, puts, h k (Nat.le_refl _), puts_congr ds (k + 1) _ fun j hj => h j (by omega)]
theorem put_puts (vs : Nat → Value) (d : Nat) (v : Value) : ∀ (ds : List Nat) (k i : Nat) (a : Act), ds.Nodup → ds[i]? = some d → (puts vs k ds a).put (some d) v = puts (setV vs (k + i) v) k ds a
  | [], _, _, _, _, h => by simp at h
  | e :: ds, k, 0, a, hn, h => by
    rw [List.getElem?_cons_zero] at h
    injection h with h
    subst h
    rw [puts, put_puts_far _ _ _ _ _ _ (List.nodup_cons.1 hn).1, put_put, puts]
    show _ = puts (setV vs k v) (k + 1) ds (a.put (some e) (setV vs k v k))
    rw [setV_self vs k v]
    exact puts_congr ds (k + 1) _ fun j hj => (setV_ne (by omega)).symm
  | e :: ds, k, i + 1, a, hn, h => by
    rw [List.getElem?_cons_succ] at h
    rw [puts, put_puts vs d v ds (k + 1) i _ (List.nodup_cons.1 hn).2 h, puts, setV_ne (by omega), show k + (i + 1) = k + 1 + i by omega]
theorem put_own (a : Act) (d : Nat) : a.put (some d) (a.tmps.getD d undef) = a := by
  obtain ⟨t, ds⟩ := a
  show (⟨t.setIfInBounds d (t.getD d undef), ds⟩ : Act) = ⟨t, ds⟩
  congr 1
  by_cases h : d < t.size
  · simp [Array.getD, h, Array.setIfInBounds]
  · simp [Array.setIfInBounds, h]
theorem puts_own (a : Act) : ∀ (ds : List Nat) (k : Nat) (vs : Nat → Value), (∀ i d, ds[i]? = some d → vs (k + i) = a.tmps.getD d undef) → puts vs k ds a = a
  | [], _, _, _ => rfl
  | d :: ds, k, vs, h => by
    have h0 := h 0 d rfl
    rw [Nat.add_zero] at h0
    rw [puts, h0, put_own]
    exact puts_own a ds (k + 1) vs fun i e he => by
      have := h (i + 1) e (by rw [List.getElem?_cons_succ]; exact he)
      rw [← this]; congr 1; omega
def ForOps (S : Nat → Oper → Prop) : Nat → List Oper → Prop
  | _, [] => True
  | n, o :: l => S n o ∧ ForOps S (n + 1) l
theorem ForOps.at_ {S : Nat → Oper → Prop} : ∀ {l : List Oper} {n : Nat}, ForOps S n l → ∀ i o, l[i]? = some o → S (n + i) o
  | [], _, _, i, o, h => by simp at h
  | x :: l, n, hf, 0, o, h => by rw [List.getElem?_cons_zero] at h; injection h with h; subst h; exact hf.1
  | x :: l, n, hf, i + 1, o, h => by
    rw [List.getElem?_cons_succ] at h
    have := ForOps.at_ hf.2 i o h
    rw [show n + (i + 1) = n + 1 + i by omega]; exact this
def cntL' (L : Nat → Bool) : Nat → Nat
  | 0 => 0
  | n + 1 => cntL' L n + (if L n = true then 1 else 0)
theorem cntL'_far {L : Nat → Bool} {i : Nat} : ∀ n, n ≤ i → cntL' (upd L i) n = cntL' L n
  | 0, _ => rfl
  | n + 1, h => by rw [cntL', cntL', cntL'_far n (by omega), upd_ne (by omega)]
theorem cntL'_upd {L : Nat → Bool} {i : Nat} (hi : L i = false) : ∀ n, i < n → cntL' (upd L i) n = cntL' L n + 1
  | 0, h => by omega
  | n + 1, h => by
    rw [cntL', cntL']
    by_cases e : i = n
    · subst e
      rw [cntL'_far i (Nat.le_refl _), upd_self, hi]; simp
    · rw [cntL'_upd hi n (by omega), upd_ne (Ne.symm e)]; omega
theorem cntL'_le (L : Nat → Bool) : ∀ n, cntL' L n ≤ n
  | 0 => Nat.le_refl _
  | n + 1 => by have := cntL'_le L n; rw [cntL']; split <;> omega
theorem cntL'_none : ∀ n, cntL' (fun _ => false) n = 0
  | 0 => rfl
  | n + 1 => by rw [cntL', cntL'_none n]; rfl
theorem cntL'_lt {L : Nat → Bool} {i : Nat} (hi : L i = false) : ∀ n, i < n → cntL' L n < n
  | 0, h => by omega
  | n + 1, h => by
    rw [cntL']
    by_cases e : i = n
    · subst e
      have := cntL'_le L i
      rw [hi]; simp; omega
    · have := cntL'_lt hi n (by omega)
      split <;> omega
/-- What one operation must leave: its dependencies' values are as said; whatever follows asks only what this one leaves. -/
def OpLeavesL (P : Program) (ops : Array Oper) (Q : Exit → Act → World → Prop) (a : Act) (D : List Nat) (G : World → World → Prop) (W : (Nat → Bool) → World → Prop) (F : Nat → Value → World → Prop) (i : Nat) (o : Oper) : Prop :=
  ∀ (vs : Nat → Value) (L : Nat → Bool) (w : World), L i = false → W L w → (∀ e ∈ o.after, Region.binds .any e = true → F e.on (vs e.on) w) → ∀ K : Act → World → Prop,
    (∀ v w' a', a' = (puts vs 0 D a).put o.dst v → G w w' → W (upd L i) w' → F i v w' → K a' w') →
    if Region.wanted o (yielded ops (puts vs 0 D a).tmps) = true then Oper.wp P o (puts vs 0 D a) w K Q else K ((puts vs 0 D a).put o.dst undef) w
/-- The law, the world told by which operations have been done. -/
theorem wp_region_flowL {P : Program} {ops : List Oper} {Q : Exit → Act → World → Prop} {id : Nat} {a : Act} {w : World} (hm : P.follows .mixedOrders = true) (hd : edgesBack ops.toArray = true) (D : List Nat)
    (hD : ops.map (·.dst) = D.map some) (hN : D.Nodup) (G : World → World → Prop) (W : (Nat → Bool) → World → Prop) (F : Nat → Value → World → Prop)
    (hF : ∀ i v w w', G w w' → F i v w → F i v w') (h0 : W (fun _ => false) w.drew)
    (hs : ForOps (OpLeavesL P ops.toArray Q a D G W F) 0 ops)
    (he : ∀ (vs : Nat → Value) (L : Nat → Bool) (w' : World), (∀ i, i < ops.length → F i (vs i) w') → (∀ i, i < ops.length → L i = true) → W L w' → Q .normal (puts vs 0 D a) w') : (Code.region id ops.toArray true).wp P Q a w := by
  refine wp_region_inv hm hd (fun a0 L a' w' => ∃ vs, a' = puts vs 0 D a0 ∧ W L w' ∧ ∀ i, i < ops.length → L i = true → F i (vs i) w') ?_ ?_ ?_
  · refine ⟨fun i => a.tmps.getD (D.getD i 0) undef, (puts_own a D 0 _ fun i d h => ?_).symm, h0, fun i _ h => by cases h⟩
    show a.tmps.getD (D.getD (0 + i) 0) undef = _
    rw [Nat.zero_add]
    simp [List.getD, h]
  · rintro L a' w' ⟨vs, rfl, hW, hL⟩ i o ho hi hedge
    have hol : ops[i]? = some o := by simpa using ho
    have hil : i < ops.length := (List.getElem?_eq_some_iff.1 hol).1
    obtain ⟨d, hdd, hde⟩ : ∃ d, o.dst = some d ∧ D[i]? = some d := by
      have h1 : (ops.map (·.dst))[i]? = some o.dst := by rw [List.getElem?_map, hol]; rfl
      rw [hD, List.getElem?_map] at h1
      cases hx : D[i]? with
      | none => rw [hx] at h1; cases h1
      | some d => rw [hx] at h1; injection h1 with h1; exact ⟨d, h1.symm, rfl⟩
    have hstep := ForOps.at_ hs i o hol
    rw [Nat.zero_add] at hstep
    refine wpOp_step ho fun K hK => ?_
    refine hstep vs L w' hi hW (fun e he hb => ?_) K fun v w'' a'' ha hG hW' hFv => hK _ _ ⟨setV vs i v, ?_, ?_, ?_⟩
    · have := edgesBack_at hd ho he hb
      exact hL e.on (by omega) (hedge e he hb)
    · rw [ha, hdd, put_puts vs d v D 0 i a hN hde, Nat.zero_add]
    · exact hW'
    · intro j hj hLj
      by_cases e : j = i
      · subst e; rw [setV_self]; exact hFv
      · rw [setV_ne e]
        rw [upd_ne e] at hLj
        exact hF _ _ _ _ hG (hL j hj hLj)
  · rintro L a' w' ⟨vs, rfl, hW, hL⟩ hall
    have hall' : ∀ i, i < ops.length → L i = true := fun i hi => hall i (by simpa using hi)
    exact he vs L w' (fun i hi => hL i hi (hall' i hi)) hall' hW
/-- The same, the world told by how many operations have been done. -/
def OpLeaves (P : Program) (ops : Array Oper) (Q : Exit → Act → World → Prop) (a : Act) (D : List Nat) (G : World → World → Prop) (W : Nat → World → Prop) (F : Nat → Value → World → Prop) (i : Nat) (o : Oper) : Prop :=
  ∀ (vs : Nat → Value) (k : Nat) (w : World), k < 100 → W k w → (∀ e ∈ o.after, Region.binds .any e = true → F e.on (vs e.on) w) → ∀ K : Act → World → Prop,
    (∀ v w' a', a' = (puts vs 0 D a).put o.dst v → G w w' → W (k + 1) w' → F i v w' → K a' w') →
    if Region.wanted o (yielded ops (puts vs 0 D a).tmps) = true then Oper.wp P o (puts vs 0 D a) w K Q else K ((puts vs 0 D a).put o.dst undef) w
theorem ForOps.weaker {S S' : Nat → Oper → Prop} : ∀ {l : List Oper} {n : Nat}, (∀ i o, n ≤ i → i < n + l.length → S i o → S' i o) → ForOps S n l → ForOps S' n l
  | [], _, _, _ => trivial
  | x :: l, n, h, hf => ⟨h n x (Nat.le_refl _) (by rw [List.length_cons]; omega) hf.1, ForOps.weaker (fun i o h1 h2 => h i o (by omega) (by rw [List.length_cons]; omega)) hf.2⟩
theorem wp_region_flow {P : Program} {ops : List Oper} {Q : Exit → Act → World → Prop} {id : Nat} {a : Act} {w : World} (hm : P.follows .mixedOrders = true) (hd : edgesBack ops.toArray = true) (D : List Nat)
    (hD : ops.map (·.dst) = D.map some) (hN : D.Nodup) (hz : ops.length ≤ 100) (G : World → World → Prop) (W : Nat → World → Prop) (F : Nat → Value → World → Prop)
    (hF : ∀ i v w w', G w w' → F i v w → F i v w') (h0 : W 0 w.drew)
    (hs : ForOps (OpLeaves P ops.toArray Q a D G W F) 0 ops)
    (he : ∀ (vs : Nat → Value) (w' : World), (∀ i, i < ops.length → F i (vs i) w') → W ops.length w' → Q .normal (puts vs 0 D a) w') : (Code.region id ops.toArray true).wp P Q a w := by
  refine wp_region_flowL hm hd D hD hN G (fun L w' => W (cntL' L ops.length) w') F hF (by rw [cntL'_none]; exact h0) (ForOps.weaker (fun i o _ hil hstep => ?_) hs) fun vs L w' hL hall hW => ?_
  · intro vs L w' hi hW hdep K hK
    rw [Nat.zero_add] at hil
    exact hstep vs _ w' (Nat.lt_of_lt_of_le (cntL'_lt hi _ hil) hz) hW hdep K fun v w'' a' ha hG hW' hFv => hK v w'' a' ha hG (by show W (cntL' (upd L i) ops.length) w''; rw [cntL'_upd hi _ hil]; exact hW') hFv
  · have hc : cntL' L ops.length = ops.length := by
      have : ∀ n, n ≤ ops.length → cntL' L n = n := by
        intro n
        induction n with
        | zero => intro _; rfl
        | succ n ih =>
          intro hn
          rw [cntL', ih (by omega), hall n (by omega)]; rfl
      exact this _ (Nat.le_refl _)
    rw [hc] at hW
    exact he vs w' hL hW

/-- Facts on the values that a drawn region makes, by the number of the operation. -/
def byNo (Fs : List (Value → World → Prop)) (i : Nat) : Value → World → Prop := Fs.getD i fun _ _ => True
def FEq (x v : Value) (_ : World) : Prop := v = x
def FInt (v : Value) (_ : World) : Prop := ∃ u : Int, v = .int .i64 u
def FNum (m : Nat) (v : Value) (_ : World) : Prop := ∃ x : Nat, x < m ∧ v = .int .i64 (x : Int)
def FLit (g : Nat) (us : List Int) (v : Value) (w : World) : Prop := ∃ g1, v = .slice (some ⟨g1, 0, none⟩) us.length us.length ∧ g1 ≠ g ∧ ∀ j u, us[j]? = some u → w.cell? ⟨g1, j, none⟩ = some (.int .i64 u)
def FCell (g : Nat) (v : Value) (w : World) : Prop := ∃ p u, v = .pointer (some p) ∧ p.block ≠ g ∧ w.cell? p = some (.int .i64 u)
/-- Kept while only block g and new blocks are written. -/
def Kept (g : Nat) (f : Value → World → Prop) : Prop := ∀ v w w', w.grownBy w' (some g) → f v w → f v w'
theorem FEq.kept (g : Nat) (x : Value) : Kept g (FEq x) := fun _ _ _ _ h => h
theorem FInt.kept (g : Nat) : Kept g FInt := fun _ _ _ _ h => h
theorem FNum.kept (g m : Nat) : Kept g (FNum m) := fun _ _ _ _ h => h
theorem FLit.kept (g : Nat) (us : List Int) : Kept g (FLit g us) := fun _ _ _ hg ⟨g1, e, hne, hc⟩ =>
  ⟨g1, e, hne, fun j u hu => hg.cell (hc j u hu) (fun e => hne (by injection e))⟩
theorem FLit.mk {x : World} {g : Nat} (us : List Int) (T : TypeId) {n : Nat} (hn : us.length = n) (hg : g < x.heap.size) : FLit g us (.slice (some ⟨x.heap.size, 0, none⟩) n n) (x.alloc (.cells (us.map (Value.int .i64)).toArray T)) := by
  subst hn
  refine ⟨_, rfl, by omega, fun j u hu => ?_⟩
  rw [cell_of_row _ _ _ _ _ _ (heap_alloc_new x _)]
  simp [hu]
theorem FCell.kept (g : Nat) : Kept g (FCell g) := fun _ _ _ hg ⟨p, u, e, hne, hc⟩ => ⟨p, u, e, hne, hg.cell hc (fun e => hne (by injection e))⟩
theorem byNo.kept {g : Nat} : ∀ (Fs : List (Value → World → Prop)), (∀ f ∈ Fs, Kept g f) → ∀ (i : Nat) (v : Value) (w w' : World), w.grownBy w' (some g) → byNo Fs i v w → byNo Fs i v w'
  | [], _, i, v, w, w', _, _ => trivial
  | f :: Fs, h, 0, v, w, w', hg, hf => h f List.mem_cons_self v w w' hg hf
  | f :: Fs, h, i + 1, v, w, w', hg, hf => byNo.kept Fs (fun x hx => h x (List.mem_cons_of_mem _ hx)) i v w w' hg hf
end Go.Proofs.Ytibccpmooialiaa
