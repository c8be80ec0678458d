/- Octaves: a real's power of two, in the program. Condition: words have 64 bits. -/
import Derived.Test.YtfalbdlfopfgcaaGreatDoorParts
import Derived.Test.YtfalbdlfopfgcaaGreatDoorPc
import Derived.Test.YtfalbdlfopfgcaaGreatDoorShelf
namespace Go.Proofs.YtfalbdlfopfgcaaGreatDoor
open Go.RowKit

theorem above_any (x : Nat) (w : World) :
    Calls Tryz.prog 41 #[.float .f64 x] w (RetE w (aboveE (val x))) := by
  by_cases h : feq (fsub (val x) (val x)) (val 0) = true
  · by_cases h2 : flt (val 0) (val x) = true
    · rw [show aboveE (val x) = 0 from by simp [aboveE, fin, h, h2]]
      go_enter Tryz.func41, Tryz.ntmps41
      go_wp2_with (first | ((with_reducible refine upon_fadd ?_); intro r n hr hl) | ((with_reducible refine upon_fsub ?_); intro r n hr hl) | ((with_reducible refine upon_fmul ?_); intro r n hr hl) | ((with_reducible refine upon_fdiv ?_); intro r n hr hl) | ((with_reducible refine upon_fmax (by assumption) (by assumption) ?_); intro r n hr hl) | ((with_reducible refine upon_fmin (by assumption) (by assumption) ?_); intro r n hr hl))
      go_ret
      exact ⟨rfl, (by first | with_reducible exact Dr.mk _ _ | with_reducible exact Dr.refl _)⟩
    · simp only [Bool.not_eq_true] at h2
      rw [show aboveE (val x) = 2 from by simp [aboveE, fin, h, h2]]
      go_enter Tryz.func41, Tryz.ntmps41
      go_wp2_with (first | ((with_reducible refine upon_fadd ?_); intro r n hr hl) | ((with_reducible refine upon_fsub ?_); intro r n hr hl) | ((with_reducible refine upon_fmul ?_); intro r n hr hl) | ((with_reducible refine upon_fdiv ?_); intro r n hr hl) | ((with_reducible refine upon_fmax (by assumption) (by assumption) ?_); intro r n hr hl) | ((with_reducible refine upon_fmin (by assumption) (by assumption) ?_); intro r n hr hl))
      go_ret
      exact ⟨rfl, (by first | with_reducible exact Dr.mk _ _ | with_reducible exact Dr.refl _)⟩
  · simp only [Bool.not_eq_true] at h
    rw [show aboveE (val x) = 5 from by simp [aboveE, fin, h]]
    go_enter Tryz.func41, Tryz.ntmps41
    go_wp2_with (first | ((with_reducible refine upon_fadd ?_); intro r n hr hl) | ((with_reducible refine upon_fsub ?_); intro r n hr hl) | ((with_reducible refine upon_fmul ?_); intro r n hr hl) | ((with_reducible refine upon_fdiv ?_); intro r n hr hl) | ((with_reducible refine upon_fmax (by assumption) (by assumption) ?_); intro r n hr hl) | ((with_reducible refine upon_fmin (by assumption) (by assumption) ?_); intro r n hr hl))
    go_ret
    exact ⟨rfl, (by first | with_reducible exact Dr.mk _ _ | with_reducible exact Dr.refl _)⟩

def octK (b : Nat) : Int := if 0 < b / 4503599627370496 then (b / 4503599627370496 : Nat) - 1023 else (Lib.bitLen b : Int) - 1075
def octM (b : Nat) : Int := if aboveE (val b) = 0 then octK b else 0

theorem Len64_any (x : Nat) (w : World) (hx : IsW x) :
    Calls Tryz.prog 43 #[.int .u64 (x : Int)] w fun e w' => e = .returned (.int .i64 (Lib.bitLen x)) ∧ w = w' := by
  unfold IsW at hx
  have h := Tryz.bits_Len64 (x : Int) w (by omega) (by omega)
  rw [Int.toNat_natCast] at h
  exact h.mono fun e w' ⟨h1, h2⟩ => ⟨h1, h2.symm⟩

theorem Octave_any (x : Nat) (w : World) (hx : IsW x) :
    Calls Tryz.prog 13 #[.float .f64 x] w fun e w' => e = .returned (.tuple #[.int .i64 (octM x), .int .i64 (aboveE (val x))]) ∧ Dr w w' := by
  by_cases h : aboveE (val x) = 0
  · have HX := hid hx
    obtain ⟨q, hq⟩ : ∃ q, q = x / 4503599627370496 := ⟨_, rfl⟩
    have hq1 : (x : Int) / 4503599627370496 = (q : Int) := by omega
    have hq2 : q < 4096 := by unfold IsW at hx; omega
    have ho : octM x = if 0 < q then (q : Int) - 1023 else (Lib.bitLen x : Int) - 1075 := by
      simp [octM, h, octK, ← hq]
    rw [ho]
    have hbl := bitLen_le x
    have h3 : (aboveE (val x) != 0) = false := by simp [h]
    have H := hid h
    clear hx hq h ho
    by_cases hp : 0 < q
    · rw [if_pos hp]
      go_enter Tryz.func13, Tryz.ntmps13
      go_wp2_with (first | (go_at_call 41; refine (above_any _ _).mono ?_; rintro e w' ⟨rfl, n, rfl⟩))
      go_ret2
      exact ⟨by rw [H.out]; simp, (by first | with_reducible exact Dr.mk _ _ | with_reducible exact Dr.refl _)⟩
    · rw [if_neg hp]
      go_enter Tryz.func13, Tryz.ntmps13
      go_wp2_with (first | (go_at_call 41; refine (above_any _ _).mono ?_; rintro e w' ⟨rfl, n, rfl⟩) | (go_at_call 43; refine (Len64_any _ _ HX.out).mono ?_; rintro e w' ⟨rfl, rfl⟩))
      go_ret2
      exact ⟨by rw [H.out]; simp, (by first | with_reducible exact Dr.mk _ _ | with_reducible exact Dr.refl _)⟩
  · rw [show octM x = 0 from by simp [octM, h]]
    have h2 : (aboveE (val x) != 0) = true := by simp [h]
    clear h
    go_enter Tryz.func13, Tryz.ntmps13
    go_wp2_with (first | (go_at_call 41; refine (above_any _ _).mono ?_; rintro e w' ⟨rfl, n, rfl⟩))
    go_ret2
    exact ⟨rfl, (by first | with_reducible exact Dr.mk _ _ | with_reducible exact Dr.refl _)⟩
end Go.Proofs.YtfalbdlfopfgcaaGreatDoor

