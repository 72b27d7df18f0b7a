/- A region that draws its order, by what holds of it whichever operations have been done: a law of one's own. No condition. -/
import Derived.Test.YtaaaiagpbhiphaaKit
import Derived.Orders
import Derived.RegionTactic
namespace Go.Proofs.Ytaaaiagpbhiphaa
open Go.RowKit

def upd (L : Nat → Bool) (i : Nat) : Nat → Bool := fun j => if j = i then true else L j
theorem upd_self (L : Nat → Bool) (i : Nat) : upd L i i = true := if_pos rfl
theorem upd_ne {L : Nat → Bool} {i j : Nat} (h : j ≠ i) : upd L i j = L j := if_neg h
theorem countP_less {p q : Nat → Bool} : ∀ (l : List Nat) (i : Nat), i ∈ l → p i = true → q i = false → (∀ j, q j = true → p j = true) → l.countP q < l.countP p
  | [], _, h, _, _, _ => by cases h
  | x :: l, i, h, hp, hq, hm => by
    have hle : l.countP q ≤ l.countP p := List.countP_mono_left fun j _ => hm j
    rw [List.countP_cons, List.countP_cons]
    rcases List.mem_cons.1 h with e | h1
    · subst e
      rw [hp, hq, if_pos rfl, if_neg (by decide)]; omega
    · have := countP_less l i h1 hp hq hm
      have hx : (if q x = true then 1 else 0) ≤ (if p x = true then 1 else 0) := by
        by_cases e : q x = true
        · rw [if_pos e, if_pos (hm x e)]; exact Nat.le_refl _
        · rw [if_neg e]; exact Nat.zero_le _
      omega
/-- The edges that bind lead back. -/
def edgesBack (ops : Array Oper) : Bool := ops.toList.zipIdx.all fun x => x.1.after.all fun e => !Region.binds .any e || decide (e.on < x.2)
theorem edgesBack_at {ops : Array Oper} (h : edgesBack ops = true) {i : Nat} {o : Oper} (ho : ops[i]? = some o) {e : Edge} (he : e ∈ o.after) (hb : Region.binds .any e = true) : e.on < i := by
  have hm : (o, i) ∈ ops.toList.zipIdx := List.mk_mem_zipIdx_iff_getElem?.2 (by simpa using ho)
  have h1 := List.all_eq_true.1 h _ hm
  have h2 := Array.all_eq_true_iff_forall_mem.1 h1 e he
  rw [hb] at h2
  simpa using h2
section
variable {P : Program} {ops : Array Oper} {Q : Exit → Act → World → Prop}
theorem all_listed (hd : edgesBack ops = true) {listed : Array Bool} (hr : Region.ready .any ops listed = []) : ∀ i, i < ops.size → listed.getD i true = true := by
  intro i
  induction i using Nat.strongRecOn with
  | ind i ih =>
    intro hi
    refine Classical.byContradiction fun hno => ?_
    rw [Bool.not_eq_true] at hno
    have : i ∈ Region.ready .any ops listed := mem_ready.2 ⟨hno, ops[i], Array.getElem?_eq_getElem hi, fun e he hb => ?_⟩
    · rw [hr] at this; cases this
    · have hlt := edgesBack_at hd (Array.getElem?_eq_getElem hi) he hb
      have := ih e.on hlt (by omega)
      have hsz : i < listed.size := by
        refine Classical.byContradiction fun hge => ?_
        rw [Array.getD, dif_neg hge] at hno
        cases hno
      rw [Array.getD, dif_pos (by omega)] at this ⊢
      exact this
theorem wpAny_inv {I : (Nat → Bool) → Act → World → Prop} (hd : edgesBack ops = true)
    (hs : ∀ (L : Nat → Bool) (a : Act) (w : World), I L a w → ∀ (i : Nat) (o : Oper), ops[i]? = some o → L i = false → (∀ e ∈ o.after, Region.binds .any e = true → L e.on = true) → wpOp P ops Q i (fun a' w' => I (upd L i) a' w') a w)
    (he : ∀ (L : Nat → Bool) (a : Act) (w : World), I L a w → (∀ i, i < ops.size → L i = true) → Q .normal a w) :
    ∀ (fuel : Nat) (listed : Array Bool) (a : Act) (w : World), listed.size = ops.size → (List.range ops.size).countP (fun i => !listed.getD i true) ≤ fuel → I (fun i => listed.getD i false) a w → wpAny P .any ops Q fuel listed a w
  | fuel, listed, a, w, hz, hc, hI => by
    have hend : Region.ready .any ops listed = [] → Q .normal a w := fun hr => he _ a w hI fun i hi => by
      have := all_listed hd hr i hi
      show listed.getD i false = true
      rw [Array.getD, dif_pos (by omega)] at this ⊢
      exact this
    match fuel, hc with
    | 0, hc =>
      have hr : Region.ready .any ops listed = [] := by
        refine List.eq_nil_iff_forall_not_mem.2 fun i hi => ?_
        obtain ⟨h1, o, ho, _⟩ := mem_ready.1 hi
        have h2 := List.countP_eq_zero.1 (Nat.le_zero.1 hc) i (List.mem_range.2 (Array.getElem?_eq_some_iff.1 ho).1)
        rw [h1] at h2
        exact h2 rfl
      exact ⟨hr, hend hr⟩
    | fuel + 1, hc =>
      refine ⟨hend, fun i hi => ?_⟩
      obtain ⟨h1, o, ho, hedge⟩ := mem_ready.1 hi
      have hilt : i < ops.size := (Array.getElem?_eq_some_iff.1 ho).1
      have hLi : listed.getD i false = false := by
        rw [Array.getD, dif_pos (by omega)] at h1 ⊢
        exact h1
      refine wpOp_mono (fun a' w' hI' => wpAny_inv hd hs he fuel _ a' w' (by rw [Array.size_setIfInBounds]; exact hz) ?_ ?_) (hs _ a w hI i o ho hLi hedge)
      · have hlt := countP_less (p := fun j => !listed.getD j true) (q := fun j => !(listed.setIfInBounds i true).getD j true) (List.range ops.size) i (List.mem_range.2 hilt) (by simp [h1]) ?_ ?_
        · omega
        · simp [Array.getD, hz, hilt]
        · intro j hj
          by_cases e : i = j
          · subst e; simp [Array.getD, hz, hilt] at hj
          · rw [getD_set_ne true e] at hj; exact hj
      · have e : (fun j => (listed.setIfInBounds i true).getD j false) = upd (fun j => listed.getD j false) i := by
          funext j
          by_cases e : i = j
          · subst e; simp [upd, Array.getD, hz, hilt]
          · rw [getD_set_ne false e, upd_ne (Ne.symm e)]
        rw [e]; exact hI'
/-- A region that draws its order: what holds of the operations that have been done. 'I' is told the frame at the beginning. -/
theorem wp_region_inv {id : Nat} {a : Act} {w : World} (hm : P.follows .mixedOrders = true) (hd : edgesBack ops = true) (I : Act → (Nat → Bool) → Act → World → Prop)
    (h0 : I a (fun _ => false) a w.drew)
    (hs : ∀ (L : Nat → Bool) (a' : Act) (w' : World), I a L a' w' → ∀ (i : Nat) (o : Oper), ops[i]? = some o → L i = false → (∀ e ∈ o.after, Region.binds .any e = true → L e.on = true) → wpOp P ops Q i (fun a'' w'' => I a (upd L i) a'' w'') a' w')
    (he : ∀ (L : Nat → Bool) (a' : Act) (w' : World), I a L a' w' → (∀ i, i < ops.size → L i = true) → Q .normal a' w') : (Code.region id ops true).wp P Q a w :=
  wp_region_any hm (wpAny_inv hd hs he ops.size _ a _ Array.size_replicate (Nat.le_trans List.countP_le_length (by rw [List.length_range]; exact Nat.le_refl _)) (by
    have e : (fun i => (Array.replicate ops.size false).getD i false) = fun _ => false := by
      funext i
      rw [Array.getD]
      split
      · simp
      · rfl
    rw [e]; exact h0))
end
end Go.Proofs.Ytaaaiagpbhiphaa
