/- The contract of BitsBytes of the reference. No condition. -/
import Derived.Test.YtfpieikheofbgaaBits1
import Derived.Test.YtfpieikheofbgaaBitsQ
namespace Go.Proofs.Ytfpieikheofbgaa
open Go.RowKit

theorem chunk_bits {ys : List Int} (hv : everyB 0 1 ys = true) (i : Nat) : everyB 0 1 ((ys.drop (8 * i)).take 8) = true := everyB_take (everyB_drop hv _) 8
theorem zeros_bits (z : Nat) : everyB 0 1 (List.replicate z (0 : Int)) = true := by
  induction z with
  | zero => rfl
  | succ z ih => rw [List.replicate_succ, everyB_cons, ih]; rfl
set_option maxHeartbeats 1600000 in
theorem BitsBytes_s_c (A : Option Addr) (n c B : Nat) (xs : List Int) (w : World) (h : Row w B A n c xs) (hB : B ≤ w.heap.size) : Calls Try.prog 23 #[.slice A n c] w (PSlB w (bbF xs)) := by
  have hs := h.small
  have ho : Own (w.alloc (.cells #[] 3)) w.heap.size (some ⟨w.heap.size, 0, none⟩) 0 0 [] := Own.lit w [] rfl (by omega) (Nat.le_refl _)
  have hbl : Below w.heap.size w (w.alloc (.cells #[] 3)) := (Below.refl _ _).alloc (Nat.le_refl _) _
  by_cases hv : bitsB xs = true
  case neg =>
    rw [Bool.not_eq_true] at hv
    have HF := hid (bbF_no hv)
    go_enter Try.func23, Try.ntmps23
    go_wp2_with fail
    refine (l1Bits_c _ _ _ _ _ _ h).mono ?_
    rintro e w' ⟨rfl, rfl⟩
    go_wp2
    go_ret2
    rw [HF.out]
    exact PSlB.mk rfl ho hbl
  obtain ⟨hv1, hl6⟩ := bitsB_iff.1 hv
  rw [h.len] at hl6
  obtain ⟨q, hq⟩ : ∃ q, (n + 7) / 8 = q := ⟨_, rfl⟩
  have hq8 : n ≤ 8 * q ∧ q ≤ 75 ∧ 8 * q ≤ n + 7 := by omega
  obtain ⟨hq1, hq2, hq3⟩ := hq8
  have HF := hid (bbF_yes hv h.len hq)
  have HL := hid h.len
  clear hq
  go_enter Try.func23, Try.ntmps23
  go_wp2_with fail
  refine (l1Bits_c _ _ _ _ _ _ h).mono ?_
  rintro e w' ⟨rfl, rfl⟩
  go_wp2_with (at_builtin; refine wpList_join rfl _ _ rfl rfl ho rfl (h.below (hbl.mono hB)) (by omega) (by simp) ?_; intro A2 c2 w2 hown2 hg2 hb2; rw [Nat.zero_add, List.nil_append] at hown2; rw [Nat.zero_add]; have hb12 := hbl.trans hb2)
  go_loopw [4] (fun v wr => ∃ (M : Nat) (A' : Option Addr) (c' : Nat), n ≤ M ∧ M ≤ 8 * q ∧ v = .slice A' M c' ∧ Own wr w.heap.size A' M c' (xs ++ List.replicate (M - n) 0) ∧ Below w.heap.size w wr) (fun v _ => 8 * q - (match v with | .slice _ M _ => M | _ => 0))
  case atStart => exact ⟨n, A2, c2, Nat.le_refl _, hq1, rfl, by simpa using hown2, hb12⟩
  case round =>
    obtain ⟨M, A3, c3, hM1, hM2, rfl, hown3, hb3⟩ := hrel
    have hs3 := hb3.size
    by_cases hM : M % 8 = 0
    case neg =>
      have hMb : ((M : Int) % 8 != 0) = true := by rw [bne_iff_ne]; omega
      have HR := hid (show (xs ++ List.replicate (M - n) (0 : Int)) ++ [0] = xs ++ List.replicate (M + 1 - n) 0 by
        rw [List.append_assoc, show M + 1 - n = (M - n) + 1 by omega, List.replicate_succ'])
      have hMq : M + 1 ≤ 8 * q := by omega
      clear hM
      go_wp2_with (at_builtin; refine wpList_push rfl _ _ rfl rfl hown3 rfl (by omega) hs3 ?_; intro A4 c4 w4 hown4 hg4 hb4; rw [HR.out] at hown4)
      go_roundw
      case rel => exact ⟨M + 1, A4, c4, by omega, hMq, rfl, hown4, hb3.trans hb4⟩
      case measure => simp; omega
    have hMb : ((M : Int) % 8 != 0) = false := by rw [bne_eq_false_iff_eq]; omega
    obtain rfl : M = 8 * q := by omega
    have hY : xs ++ List.replicate (8 * q - n) (0 : Int) = fillQ q n xs := by rw [fillQ, List.take_of_length_le (by rw [HL.out]; omega)]
    have hvY : everyB 0 1 (fillQ q n xs) = true := by rw [← hY, everyB_append, hv1, zeros_bits]; rfl
    rw [hY] at hown3
    clear hM hY
    obtain ⟨Y, hYd⟩ : ∃ Y, fillQ q n xs = Y := ⟨_, rfl⟩
    rw [hYd] at hown3 hvY HF
    clear hYd
    have hcaps := hown3.caps
    have hcm := hcaps.2
    unfold maxLen at hcm
    have ho5 : Own (wr.alloc (.cells #[] 3)) wr.heap.size (some ⟨wr.heap.size, 0, none⟩) 0 0 [] := Own.lit wr [] rfl (by omega) (Nat.le_refl _)
    have hb5 : Below wr.heap.size wr (wr.alloc (.cells #[] 3)) := (Below.refl _ _).alloc (Nat.le_refl _) _
    go_wp2_with fail
    go_loopw [5, 6] (fun v i wq => ∃ (k : Nat) (A' : Option Addr) (c' : Nat), k ≤ q ∧ i = .int .i64 (8 * (k : Int)) ∧ v = .slice A' k c' ∧ Own wq wr.heap.size A' k c' (packN k Y) ∧ Below wr.heap.size wr wq) (fun _ i _ => 8 * q - (intOf i).toNat)
    case atStart => exact ⟨0, _, 0, Nat.zero_le _, rfl, rfl, ho5, hb5⟩
    case round =>
      obtain ⟨k, A5, c5, hk, rfl, rfl, hown5, hb5'⟩ := hrel
      have hs5 := hb5'.size
      by_cases hlt : k < q
      · have hltI : 8 * (k : Int) < 8 * (q : Int) := by omega
        have hA := (hown3.below hb5' (Nat.le_refl _))
        obtain ⟨g, rfl, hg1, hg2⟩ := hA.at_ (by omega)
        have hrowk := hA.row.mid (lo := 8 * k) (hi := 8 * k + 8) (L := 8) (by omega) (by omega) (by omega)
        have hck : (Y.take (8 * k + 8)).drop (8 * k) = (Y.drop (8 * k)).take 8 := by rw [List.drop_take]; congr 1; omega
        rw [hck] at hrowk
        clear hck
        have hvk := chunk_bits hvY k
        have HC := hid (show getL 0 ((Y.drop (8 * k)).take 8) = chunk Y k from rfl)
        have hct : ¬ c3 = 8 * k := by omega
        have h0 : (0 : Int) ≤ 8 * (k : Int) + 8 := by omega
        have h1 : (8 * (k : Int) + 8).toNat = 8 * k + 8 := by omega
        have h1' : (8 * (k : Int)).toNat = 8 * k := by omega
        have h2 : 8 * (k : Int) + 8 ≤ (c3 : Int) := by omega
        have h3 : 8 * (k : Int) ≤ 8 * (k : Int) + 8 := by omega
        have hls : 8 * k + 8 - 8 * k = 8 := by omega
        have cG := l1Get_c _ _ _ _ _ _ hrowk hvk (by omega)
        go_wp2_with fail
        refine cG.mono ?_
        rintro e w' ⟨rfl, rfl⟩
        clear cG
        rw [HC.out]
        go_wp2_with (at_builtin; refine wpList_push rfl _ _ rfl rfl hown5 rfl (by omega) hs5 ?_; intro A6 c6 w6 hown6 hg6 hb6; rw [← packN_succ] at hown6)
        go_roundw
        case rel => exact ⟨k + 1, A6, c6, by omega, by go_num, rfl, hown6, hb5'.trans hb6⟩
        case measure => first | (simp [intOf]; done) | (simp [intOf]; omega)
      · obtain rfl : k = q := by omega
        have hltI : ¬ 8 * (k : Int) < 8 * (k : Int) := by omega
        go_wp2
        go_ret2
        rw [HF.out]
        exact PSlB.mk (packN_len _ _) (hown5.mono hb3.size) (hb3.trans (hb5'.mono hb3.size))
end Go.Proofs.Ytfpieikheofbgaa
