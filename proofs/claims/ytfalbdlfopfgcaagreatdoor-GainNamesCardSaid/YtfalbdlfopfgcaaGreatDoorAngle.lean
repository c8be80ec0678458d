/- The size of a complex number in the reference, and the angle in both: what they give. Conditions: words have 64 bits. -/
import Derived.Test.YtfalbdlfopfgcaaGreatDoorAbs
namespace Go.Proofs.YtfalbdlfopfgcaaGreatDoor
open Go.RowKit

theorem dB_pos : ∀ k, k < 7 → flt (val 0) (val (dB k)) = true := by decide +kernel
theorem dB_end : flt (val 0) (val (dB 7)) = false := by decide +kernel
theorem dB_next : ∀ k, k < 7 → fsub (val (dB k)) (val 4611686018427387904) = some (dB (k + 1)) := by decide +kernel
theorem dB_0 : dB 0 = 4623507967449235456 := by decide +kernel

/-- The slots of the first loop, of the second. -/
def AngLoop (w : World) (t0 : Option Nat) (t i : Value) (wr : World) : Prop := ∃ (k r : Nat), k ≤ 3 ∧ i = .int .i64 k ∧ t = .float .f64 r ∧ val r = angTs k t0 ∧ Dr w wr
def AngLoop2 (w : World) (u : Option Nat) (s d : Value) (wr : World) : Prop := ∃ (k r : Nat), k ≤ 7 ∧ d = .float .f64 (dB k) ∧ s = .float .f64 r ∧ val r = angS u k ∧ Dr w wr
def dOf (v : Value) : Nat := match v with | .float _ b => b | _ => 0
/-- How many rounds are left. -/
def dLeft (v : Value) : Nat := 8 - (((List.range 8).findIdx? fun k => dB k == dOf v).getD 8)
theorem dLeft_next : ∀ k, k < 7 → dLeft (.float .f64 (dB (k + 1))) < dLeft (.float .f64 (dB k)) := by decide +kernel

theorem Angle_bad (a b : Nat) (w : World) (h : cfin (cv a b) = false ∨ czero (cv a b) = true) :
    Calls Tryz.prog 58 #[.complex .f64 a b] w (RetFE w (val 0) (angE (cv a b))) := by
  by_cases h1 : cfin (cv a b) = true
  · have h2 := h.resolve_left (by rw [h1]; simp)
    rw [show angE (cv a b) = 2 from by simp [angE, h1, h2]]
    have h3 : (feq (val a) (val 0) && feq (val b) (val 0)) = true := h2
    clear h h2
    go_enter Tryz.func58, Tryz.ntmps58
    go_wp2_with (first | (go_at_call 52; refine (Finite_any _ _ _).mono ?_; rintro e w' ⟨rfl, n, rfl⟩; simp only [h1]))
    go_ret2
    exact ⟨_, rfl, (by first | with_reducible exact Dr.mk _ _ | with_reducible exact Dr.refl _), rfl, isW_0⟩
  · simp only [Bool.not_eq_true] at h1
    rw [show angE (cv a b) = 5 from by simp [angE, h1]]
    clear h
    go_enter Tryz.func58, Tryz.ntmps58
    go_wp2_with (first | (go_at_call 52; refine (Finite_any _ _ _).mono ?_; rintro e w' ⟨rfl, n, rfl⟩; simp only [h1]))
    go_ret2
    exact ⟨_, rfl, (by first | with_reducible exact Dr.mk _ _ | with_reducible exact Dr.refl _), rfl, isW_0⟩

set_option maxHeartbeats 2000000 in
theorem Angle_good (a b : Nat) (w : World) (h1 : cfin (cv a b) = true) (h2 : czero (cv a b) = false) :
    Calls Tryz.prog 58 #[.complex .f64 a b] w (RetFE w (angP (cv a b)) 0) := by
  have h3 : (feq (val a) (val 0) && feq (val b) (val 0)) = false := h2
  have wa := isW_size a
  have wb := isW_size b
  go_enter Tryz.func58, Tryz.ntmps58
  go_wp2_with (first | (go_at_call 52; refine (Finite_any _ _ _).mono ?_; rintro e w' ⟨rfl, n, rfl⟩; simp only [h1]) | (go_at_call 84; refine (mabs_any _ _).mono ?_; rintro e w' ⟨rfl, rfl⟩) | ((with_reducible refine upon_fadd ?_); intro r n hr hl) | ((with_reducible refine upon_fsub ?_); intro r n hr hl) | ((with_reducible refine upon_fmul ?_); intro r n hr hl) | ((with_reducible refine upon_fdiv ?_); intro r n hr hl) | ((with_reducible refine upon_fmax (by assumption) (by assumption) ?_); intro r n hr hl) | ((with_reducible refine upon_fmin (by assumption) (by assumption) ?_); intro r n hr hl))
  go_loopw [6, 31] (AngLoop w (fdiv (fmin (val (sizeB a)) (val (sizeB b))) (fmax (val (sizeB a)) (val (sizeB b))))) (fun _ i _ => 3 - (intOf i).toNat)
  case atStart => exact ⟨0, _, by omega, rfl, rfl, by simp [angTs, *], (by first | with_reducible exact Dr.mk _ _ | with_reducible exact Dr.refl _)⟩
  case round =>
    obtain ⟨k, r, hk, rfl, rfl, hr, nn, rfl⟩ := hrel
    by_cases hk3 : k < 3
    · go_wp2_with (first | (go_at_call 83; refine (sqrt_any _ _).mono ?_; rintro e w' ⟨r, rfl, ⟨n, rfl⟩, hr, hl⟩) | ((with_reducible refine upon_fadd ?_); intro r n hr hl) | ((with_reducible refine upon_fsub ?_); intro r n hr hl) | ((with_reducible refine upon_fmul ?_); intro r n hr hl) | ((with_reducible refine upon_fdiv ?_); intro r n hr hl) | ((with_reducible refine upon_fmax (by assumption) (by assumption) ?_); intro r n hr hl) | ((with_reducible refine upon_fmin (by assumption) (by assumption) ?_); intro r n hr hl))
      go_roundw
      case rel => exact ⟨k + 1, _, by omega, by go_num, rfl, by simp [angTs, angT, one, *], Dr.mk _ _⟩
      case measure => simp [intOf]; omega
    · obtain rfl : k = 3 := by omega
      go_wp2_with (first | ((with_reducible refine upon_fadd ?_); intro r n hr hl) | ((with_reducible refine upon_fsub ?_); intro r n hr hl) | ((with_reducible refine upon_fmul ?_); intro r n hr hl) | ((with_reducible refine upon_fdiv ?_); intro r n hr hl) | ((with_reducible refine upon_fmax (by assumption) (by assumption) ?_); intro r n hr hl) | ((with_reducible refine upon_fmin (by assumption) (by assumption) ?_); intro r n hr hl))
      go_loopw [9, 10] (AngLoop2 w (fmul (angTs 3 (fdiv (fmin (val (sizeB a)) (val (sizeB b))) (fmax (val (sizeB a)) (val (sizeB b))))) (angTs 3 (fdiv (fmin (val (sizeB a)) (val (sizeB b))) (fmax (val (sizeB a)) (val (sizeB b))))))) (fun _ d _ => dLeft d)
      case atStart => exact ⟨0, _, by omega, by rw [dB_0], rfl, rfl, (by first | with_reducible exact Dr.mk _ _ | with_reducible exact Dr.refl _)⟩
      case round =>
        obtain ⟨k, r, hk, rfl, rfl, hr, nn, rfl⟩ := hrel
        by_cases hk7 : k < 7
        · have d1 := dB_pos k hk7
          have d2 := dB_next k hk7
          go_wp2_with (first | ((with_reducible refine upon_fadd ?_); intro r n hr hl) | ((with_reducible refine upon_fsub ?_); intro r n hr hl) | ((with_reducible refine upon_fmul ?_); intro r n hr hl) | ((with_reducible refine upon_fdiv ?_); intro r n hr hl) | ((with_reducible refine upon_fmax (by assumption) (by assumption) ?_); intro r n hr hl) | ((with_reducible refine upon_fmin (by assumption) (by assumption) ?_); intro r n hr hl))
          go_roundw
          case rel => exact ⟨k + 1, _, by omega, by rw [val_inj (hr.trans d2)], rfl, by simp [angS, one, *], Dr.mk _ _⟩
          case measure => rw [val_inj (hr.trans d2)]; exact dLeft_next k hk7
        · obtain rfl : k = 7 := by omega
          have d1 := dB_end
          go_wp2_with (first | ((with_reducible refine upon_fadd ?_); intro r n hr hl) | ((with_reducible refine upon_fsub ?_); intro r n hr hl) | ((with_reducible refine upon_fmul ?_); intro r n hr hl) | ((with_reducible refine upon_fdiv ?_); intro r n hr hl) | ((with_reducible refine upon_fmax (by assumption) (by assumption) ?_); intro r n hr hl) | ((with_reducible refine upon_fmin (by assumption) (by assumption) ?_); intro r n hr hl))
          all_goals
            go_ret2
            exact ⟨_, rfl, (by first | with_reducible exact Dr.mk _ _ | with_reducible exact Dr.refl _), by simp [angP, angW, angV, angI, angR, angB, cv, ← val_size, *], (by first | with_reducible assumption | with_reducible exact isW_0 | with_reducible exact isW_inf)⟩

def AngLoop3 (w : World) (u : Option Nat) (s d : Value) (wr : World) : Prop := ∃ (k r : Nat), k ≤ 7 ∧ d = .int .i64 (13 - 2 * (k : Int)) ∧ s = .float .f64 r ∧ val r = angS u k ∧ Dr w wr

end Go.Proofs.YtfalbdlfopfgcaaGreatDoor

