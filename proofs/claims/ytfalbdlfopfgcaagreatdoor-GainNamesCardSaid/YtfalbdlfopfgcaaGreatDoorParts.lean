/- The functions of package parts and of its reference, each once: what they give. No condition but that a word has 64 bits where the sign is turned. -/
import Derived.Test.YtfalbdlfopfgcaaGreatDoorBase
import Derived.Test.YtfalbdlfopfgcaaGreatDoorMod
namespace Go.Proofs.YtfalbdlfopfgcaaGreatDoor
open Go.RowKit

theorem size_any (x : Nat) (w : World) :
    Calls Tryz.prog 81 #[.float .f64 x] w fun e w' => e = .returned (.float .f64 (sizeB x)) ∧ w = w' := by
  go_enter Tryz.func81, Tryz.ntmps81
  go_wp2
  go_ret
  exact ⟨rfl, rfl⟩
set_option maxHeartbeats 400000 in
theorem Finite_any (a b : Nat) (w : World) :
    Calls Tryz.prog 52 #[.complex .f64 a b] w (RetB w (cfin (cv a b))) := by
  unfold cfin fin cv
  by_cases h : feq (fsub (val a) (val a)) (val 0) = true
  all_goals
    try simp only [Bool.not_eq_true] at h
    go_enter Tryz.func52, Tryz.ntmps52
    go_wp2_with (first | ((with_reducible refine upon_fadd ?_); intro r n hr hl) | ((with_reducible refine upon_fsub ?_); intro r n hr hl) | ((with_reducible refine upon_fmul ?_); intro r n hr hl) | ((with_reducible refine upon_fdiv ?_); intro r n hr hl) | ((with_reducible refine upon_fmax (by assumption) (by assumption) ?_); intro r n hr hl) | ((with_reducible refine upon_fmin (by assumption) (by assumption) ?_); intro r n hr hl))
    go_ret
    exact ⟨by simp [*], (by first | with_reducible exact Dr.mk _ _ | with_reducible exact Dr.refl _)⟩

set_option maxHeartbeats 400000 in
theorem FiniteReal_any (a : Nat) (w : World) :
    Calls Tryz.prog 71 #[.float .f64 a] w (RetB w (fin (val a))) := by
  unfold fin
  go_enter Tryz.func71, Tryz.ntmps71
  go_wp2_with (first | ((with_reducible refine upon_fadd ?_); intro r n hr hl) | ((with_reducible refine upon_fsub ?_); intro r n hr hl) | ((with_reducible refine upon_fmul ?_); intro r n hr hl) | ((with_reducible refine upon_fdiv ?_); intro r n hr hl) | ((with_reducible refine upon_fmax (by assumption) (by assumption) ?_); intro r n hr hl) | ((with_reducible refine upon_fmin (by assumption) (by assumption) ?_); intro r n hr hl))
  go_ret
  exact ⟨by simp [*], (by first | with_reducible exact Dr.mk _ _ | with_reducible exact Dr.refl _)⟩

set_option maxHeartbeats 400000 in
theorem Zero_any (a b : Nat) (w : World) :
    Calls Tryz.prog 53 #[.complex .f64 a b] w fun e w' => e = .returned (.bool (czero (cv a b))) ∧ w = w' := by
  unfold czero cv
  by_cases h : feq (val a) (val 0) = true
  all_goals
    try simp only [Bool.not_eq_true] at h
    go_enter Tryz.func53, Tryz.ntmps53
    go_wp2
    go_ret
    exact ⟨by simp [*], rfl⟩
set_option maxHeartbeats 400000 in
theorem Div_any (a b c d : Nat) (w : World) :
    Calls Tryz.prog 54 #[.complex .f64 a b, .complex .f64 c d] w (RetC w (cdiv (cv a b) (cv c d))) := by
  go_enter Tryz.func54, Tryz.ntmps54
  go_wp2_with (first | (go_at_call 81; refine (size_any _ _).mono ?_; rintro e w' ⟨rfl, rfl⟩) | ((with_reducible refine upon_fadd ?_); intro r n hr hl) | ((with_reducible refine upon_fsub ?_); intro r n hr hl) | ((with_reducible refine upon_fmul ?_); intro r n hr hl) | ((with_reducible refine upon_fdiv ?_); intro r n hr hl) | ((with_reducible refine upon_fmax (by assumption) (by assumption) ?_); intro r n hr hl) | ((with_reducible refine upon_fmin (by assumption) (by assumption) ?_); intro r n hr hl))
  all_goals
    go_ret
    exact ⟨_, _, rfl, (by first | with_reducible exact Dr.mk _ _ | with_reducible exact Dr.refl _), by simp [cdiv, cv, ← val_size, *], (by first | with_reducible assumption | with_reducible exact isW_0 | with_reducible exact isW_inf), (by first | with_reducible assumption | with_reducible exact isW_0 | with_reducible exact isW_inf)⟩

set_option maxHeartbeats 400000 in
theorem Size2_any (a b : Nat) (w : World) :
    Calls Tryz.prog 57 #[.complex .f64 a b] w (RetF w (size2 (cv a b))) := by
  go_enter Tryz.func57, Tryz.ntmps57
  go_wp2_with (first | ((with_reducible refine upon_fadd ?_); intro r n hr hl) | ((with_reducible refine upon_fsub ?_); intro r n hr hl) | ((with_reducible refine upon_fmul ?_); intro r n hr hl) | ((with_reducible refine upon_fdiv ?_); intro r n hr hl) | ((with_reducible refine upon_fmax (by assumption) (by assumption) ?_); intro r n hr hl) | ((with_reducible refine upon_fmin (by assumption) (by assumption) ?_); intro r n hr hl))
  go_ret
  exact ⟨_, rfl, (by first | with_reducible exact Dr.mk _ _ | with_reducible exact Dr.refl _), by simp [size2, cv, *], (by first | with_reducible assumption | with_reducible exact isW_0 | with_reducible exact isW_inf)⟩
end Go.Proofs.YtfalbdlfopfgcaaGreatDoor

