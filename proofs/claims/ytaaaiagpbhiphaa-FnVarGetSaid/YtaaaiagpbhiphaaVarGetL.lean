/- Contracts of VarGet for every place. No condition. -/
import Derived.Test.YtaaaiagpbhiphaaVarP2
import Derived.Test.YtaaaiagpbhiphaaVarGet
import Derived.Test.YtaaaiagpbhiphaaVarGetS
namespace Go.Proofs.Ytaaaiagpbhiphaa
open Go.RowKit

theorem VarGet_c (A : Option Addr) (n c B : Nat) (xs : List Int) (a : Int) (w : World) (h : Row w B A n c xs) :
    Calls Try.prog 28 #[.slice A n c, .int .i64 a] w (P3B w (vgF xs a)) := by
  have hs := h.small
  by_cases hv : everyB 0 255 xs = true
  case neg =>
    have HF := hid (vgF_out (xs := xs) (a := a) (fun e => hv e.1))
    rw [Bool.not_eq_true] at hv
    go_enter Try.func28, Try.ntmps28
    go_wp2_with fail
    refine (bytesOk_c _ _ _ _ _ _ h).mono ?_
    rintro e w' ⟨rfl, rfl⟩
    go_wp2
    go_ret3
    exact P3B.mk HF.out (Below.refl _ _)
  by_cases hr : 0 ≤ a ∧ a ≤ (n : Int)
  case neg =>
    have hin : inB 0 ((n : Int)) a = false := inB_false.2 (by omega)
    have HF := hid (show vgF xs a = vgNo from vgF_out (fun e => hr ⟨e.2.1, by have := e.2.2; rw [h.len] at this; exact this⟩))
    clear hr
    go_enter Try.func28, Try.ntmps28
    go_wp2_with fail
    refine (bytesOk_c _ _ _ _ _ _ h).mono ?_
    rintro e w' ⟨rfl, rfl⟩
    go_wp2_with fail
    refine (within_c _ _ _ _).mono ?_
    rintro e w' ⟨rfl, rfl⟩
    go_wp2
    go_ret3
    exact P3B.mk HF.out (Below.refl _ _)
  obtain ⟨t, rfl⟩ := Int.eq_ofNat_of_zero_le hr.1
  exact VarGet_in A n c B t xs w h hv (by omega)

theorem VarGet_s_c (A : Option Addr) (n c B : Nat) (xs : List Int) (a : Int) (w : World) (h : Row w B A n c xs) (hB : B ≤ w.heap.size) :
    Calls Try.prog 29 #[.slice A n c, .int .i64 a] w (P3B w (vgF xs a)) := by
  have hs := h.small
  by_cases hv : everyB 0 255 xs = true
  case neg =>
    have HF := hid (vgF_out (xs := xs) (a := a) (fun e => hv e.1))
    rw [Bool.not_eq_true] at hv
    go_enter Try.func29, Try.ntmps29
    go_wp2_with fail
    refine (l1Bytes_c _ _ _ _ _ _ h).mono ?_
    rintro e w' ⟨rfl, rfl⟩
    go_wp2
    go_ret3
    exact P3B.mk HF.out (Below.refl _ _)
  by_cases hr : 0 ≤ a ∧ a ≤ (n : Int) - 1
  case neg =>
    have hin : inB 0 ((n : Int) - 1) a = false := inB_false.2 (by omega)
    have HF := hid (show vgF xs a = vgNo by
      by_cases ha : a = (n : Int)
      · subst ha
        rw [vgF_in hv (t := n) (by rw [h.len]; omega), h.full (Nat.le_refl _), vgGo_nil, vgEnd_no]
      · exact vgF_out (fun e => hr ⟨e.2.1, by have := e.2.2; rw [h.len] at this; omega⟩))
    clear hr
    go_enter Try.func29, Try.ntmps29
    go_wp2_with fail
    refine (l1Bytes_c _ _ _ _ _ _ h).mono ?_
    rintro e w' ⟨rfl, rfl⟩
    go_wp2_with fail
    refine (l6In_c _ _ _ _).mono ?_
    rintro e w' ⟨rfl, rfl⟩
    go_wp2
    go_ret3
    exact P3B.mk HF.out (Below.refl _ _)
  obtain ⟨t, rfl⟩ := Int.eq_ofNat_of_zero_le hr.1
  exact VarGet_s_in A n c B t xs w h hB hv (by omega) (by omega)

end Go.Proofs.Ytaaaiagpbhiphaa
