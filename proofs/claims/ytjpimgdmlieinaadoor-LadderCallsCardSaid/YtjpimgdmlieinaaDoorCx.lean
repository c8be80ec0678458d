/- The functions of package parts and of its reference on complex numbers, each once: what they give. No condition. -/
import Derived.Test.YtjpimgdmlieinaaDoorBase
import Derived.Test.YtjpimgdmlieinaaDoorMod
namespace Go.Proofs.YtjpimgdmlieinaaDoor
open Go.RowKit

theorem size_any (x : Nat) (w : World) :
    Calls Tryd.prog 86 #[.float .f64 x] w fun e w' => e = .returned (.float .f64 (sizeB x)) ∧ w = w' := by
  go_enter Tryd.func86, Tryd.ntmps86
  go_wp2
  go_ret
  exact ⟨rfl, rfl⟩
theorem rsize_any (x : Nat) (w : World) :
    Calls Tryd.prog 107 #[.float .f64 x] w fun e w' => e = .returned (.float .f64 (sizeB x)) ∧ w = w' := by
  go_enter Tryd.func107, Tryd.ntmps107
  go_wp2
  go_ret
  exact ⟨rfl, rfl⟩
set_option maxHeartbeats 400000 in
theorem Finite_any (a b : Nat) (w : World) :
    Calls Tryd.prog 50 #[.complex .f64 a b] w (RetB w (cfin (cv a b))) := by
  unfold cfin fin cv
  by_cases h : feq (fsub (val a) (val a)) (val 0) = true
  all_goals
    try simp only [Bool.not_eq_true] at h
    go_enter Tryd.func50, Tryd.ntmps50
    go_wp2_with (first | ((with_reducible refine upon_fadd ?_); intro r n hr hl) | ((with_reducible refine upon_fsub ?_); intro r n hr hl) | ((with_reducible refine upon_fmul ?_); intro r n hr hl) | ((with_reducible refine upon_fdiv ?_); intro r n hr hl) | ((with_reducible refine upon_fmax (by assumption) (by assumption) ?_); intro r n hr hl) | ((with_reducible refine upon_fmin (by assumption) (by assumption) ?_); intro r n hr hl))
    go_ret
    exact ⟨by simp [*], (by first | with_reducible exact Dr.mk _ _ | with_reducible exact Dr.refl _)⟩
set_option maxHeartbeats 400000 in
theorem FiniteReal_any (a : Nat) (w : World) :
    Calls Tryd.prog 98 #[.float .f64 a] w (RetB w (fin (val a))) := by
  unfold fin
  go_enter Tryd.func98, Tryd.ntmps98
  go_wp2_with (first | ((with_reducible refine upon_fadd ?_); intro r n hr hl) | ((with_reducible refine upon_fsub ?_); intro r n hr hl) | ((with_reducible refine upon_fmul ?_); intro r n hr hl) | ((with_reducible refine upon_fdiv ?_); intro r n hr hl) | ((with_reducible refine upon_fmax (by assumption) (by assumption) ?_); intro r n hr hl) | ((with_reducible refine upon_fmin (by assumption) (by assumption) ?_); intro r n hr hl))
  go_ret
  exact ⟨by simp [*], (by first | with_reducible exact Dr.mk _ _ | with_reducible exact Dr.refl _)⟩
set_option maxHeartbeats 400000 in
theorem rFinite_any (a b : Nat) (w : World) :
    Calls Tryd.prog 62 #[.complex .f64 a b] w (RetB w (cfin (cv a b))) := by
  unfold cfin cv
  by_cases h : fin (val a) = true
  all_goals
    try simp only [Bool.not_eq_true] at h
    go_enter Tryd.func62, Tryd.ntmps62
    go_wp2_with (first | (go_at_call 98; refine (FiniteReal_any _ _).mono ?_; rintro e w' ⟨rfl, n, rfl⟩) | ((with_reducible refine upon_fadd ?_); intro r n hr hl) | ((with_reducible refine upon_fsub ?_); intro r n hr hl) | ((with_reducible refine upon_fmul ?_); intro r n hr hl) | ((with_reducible refine upon_fdiv ?_); intro r n hr hl) | ((with_reducible refine upon_fmax (by assumption) (by assumption) ?_); intro r n hr hl) | ((with_reducible refine upon_fmin (by assumption) (by assumption) ?_); intro r n hr hl))
    go_ret
    exact ⟨by simp [*], (by first | with_reducible exact Dr.mk _ _ | with_reducible exact Dr.refl _)⟩
set_option maxHeartbeats 400000 in
theorem Zero_any (a b : Nat) (w : World) :
    Calls Tryd.prog 79 #[.complex .f64 a b] w fun e w' => e = .returned (.bool (czero (cv a b))) ∧ w = w' := by
  unfold czero cv
  by_cases h : feq (val a) (val 0) = true
  all_goals
    try simp only [Bool.not_eq_true] at h
    go_enter Tryd.func79, Tryd.ntmps79
    go_wp2
    go_ret
    exact ⟨by simp [*], rfl⟩
set_option maxHeartbeats 400000 in
theorem rZero_any (a b : Nat) (w : World) :
    Calls Tryd.prog 82 #[.complex .f64 a b] w fun e w' => e = .returned (.bool (czero (cv a b))) ∧ w = w' := by
  unfold czero cv
  by_cases h : feq (val a) (val 0) = true
  all_goals
    try simp only [Bool.not_eq_true] at h
    go_enter Tryd.func82, Tryd.ntmps82
    go_wp2
    go_ret
    exact ⟨by simp [*], rfl⟩
set_option maxHeartbeats 400000 in
theorem Div_any (a b c d : Nat) (w : World) :
    Calls Tryd.prog 81 #[.complex .f64 a b, .complex .f64 c d] w (RetC w (cdiv (cv a b) (cv c d))) := by
  go_enter Tryd.func81, Tryd.ntmps81
  go_wp2_with (first | (go_at_call 86; refine (size_any _ _).mono ?_; rintro e w' ⟨rfl, rfl⟩) | ((with_reducible refine upon_fadd ?_); intro r n hr hl) | ((with_reducible refine upon_fsub ?_); intro r n hr hl) | ((with_reducible refine upon_fmul ?_); intro r n hr hl) | ((with_reducible refine upon_fdiv ?_); intro r n hr hl) | ((with_reducible refine upon_fmax (by assumption) (by assumption) ?_); intro r n hr hl) | ((with_reducible refine upon_fmin (by assumption) (by assumption) ?_); intro r n hr hl))
  all_goals
    go_ret
    exact ⟨_, _, rfl, (by first | with_reducible exact Dr.mk _ _ | with_reducible exact Dr.refl _), by simp [cdiv, cv, ← val_size, *], (by first | with_reducible assumption | with_reducible exact isW_0 | with_reducible exact isW_inf), (by first | with_reducible assumption | with_reducible exact isW_0 | with_reducible exact isW_inf)⟩
theorem of_any (a b : Nat) (w : World) :
    Calls Tryd.prog 101 #[.float .f64 a, .float .f64 b] w fun e w' => e = .returned (.complex .f64 a b) ∧ w = w' := by
  go_enter Tryd.func101, Tryd.ntmps101
  go_wp2
  go_ret
  exact ⟨rfl, rfl⟩
set_option maxRecDepth 100000 in
set_option maxHeartbeats 400000 in
theorem rDiv_any (a b c d : Nat) (w : World) :
    Calls Tryd.prog 84 #[.complex .f64 a b, .complex .f64 c d] w (RetC w (cdiv (cv a b) (cv c d))) := by
  go_enter Tryd.func84, Tryd.ntmps84
  go_wp2_with (first | (go_at_call 107; refine (rsize_any _ _).mono ?_; rintro e w' ⟨rfl, rfl⟩) | (go_at_call 101; refine (of_any _ _ _).mono ?_; rintro e w' ⟨rfl, rfl⟩) | ((with_reducible refine upon_fadd ?_); intro r n hr hl) | ((with_reducible refine upon_fsub ?_); intro r n hr hl) | ((with_reducible refine upon_fmul ?_); intro r n hr hl) | ((with_reducible refine upon_fdiv ?_); intro r n hr hl) | ((with_reducible refine upon_fmax (by assumption) (by assumption) ?_); intro r n hr hl) | ((with_reducible refine upon_fmin (by assumption) (by assumption) ?_); intro r n hr hl))
  all_goals
    go_ret
    exact ⟨_, _, rfl, (by first | with_reducible exact Dr.mk _ _ | with_reducible exact Dr.refl _), by simp [cdiv, cv, ← val_size, *], (by first | with_reducible assumption | with_reducible exact isW_0 | with_reducible exact isW_inf), (by first | with_reducible assumption | with_reducible exact isW_0 | with_reducible exact isW_inf)⟩

set_option maxRecDepth 100000 in
set_option maxHeartbeats 400000 in
theorem Add_any (a b c d : Nat) (w : World) :
    Calls Tryd.prog 41 #[.complex .f64 a b, .complex .f64 c d] w (RetC w (cadd (cv a b) (cv c d))) := by
  go_enter Tryd.func41, Tryd.ntmps41
  go_wp2_with (first | ((with_reducible refine upon_fadd ?_); intro r n hr hl) | ((with_reducible refine upon_fsub ?_); intro r n hr hl) | ((with_reducible refine upon_fmul ?_); intro r n hr hl) | ((with_reducible refine upon_fdiv ?_); intro r n hr hl) | ((with_reducible refine upon_fmax (by assumption) (by assumption) ?_); intro r n hr hl) | ((with_reducible refine upon_fmin (by assumption) (by assumption) ?_); intro r n hr hl))
  go_ret
  exact ⟨_, _, rfl, (by first | with_reducible exact Dr.mk _ _ | with_reducible exact Dr.refl _), by simp [cadd, cv, *], (by first | with_reducible assumption | with_reducible exact isW_0 | with_reducible exact isW_inf), (by first | with_reducible assumption | with_reducible exact isW_0 | with_reducible exact isW_inf)⟩

set_option maxRecDepth 100000 in
set_option maxHeartbeats 400000 in
theorem Sub_any (a b c d : Nat) (w : World) :
    Calls Tryd.prog 80 #[.complex .f64 a b, .complex .f64 c d] w (RetC w (csub (cv a b) (cv c d))) := by
  go_enter Tryd.func80, Tryd.ntmps80
  go_wp2_with (first | ((with_reducible refine upon_fadd ?_); intro r n hr hl) | ((with_reducible refine upon_fsub ?_); intro r n hr hl) | ((with_reducible refine upon_fmul ?_); intro r n hr hl) | ((with_reducible refine upon_fdiv ?_); intro r n hr hl) | ((with_reducible refine upon_fmax (by assumption) (by assumption) ?_); intro r n hr hl) | ((with_reducible refine upon_fmin (by assumption) (by assumption) ?_); intro r n hr hl))
  go_ret
  exact ⟨_, _, rfl, (by first | with_reducible exact Dr.mk _ _ | with_reducible exact Dr.refl _), by simp [csub, cv, *], (by first | with_reducible assumption | with_reducible exact isW_0 | with_reducible exact isW_inf), (by first | with_reducible assumption | with_reducible exact isW_0 | with_reducible exact isW_inf)⟩

set_option maxRecDepth 100000 in
set_option maxHeartbeats 400000 in
theorem Mul_any (a b c d : Nat) (w : World) :
    Calls Tryd.prog 42 #[.complex .f64 a b, .complex .f64 c d] w (RetC w (cmul (cv a b) (cv c d))) := by
  go_enter Tryd.func42, Tryd.ntmps42
  go_wp2_with (first | ((with_reducible refine upon_fadd ?_); intro r n hr hl) | ((with_reducible refine upon_fsub ?_); intro r n hr hl) | ((with_reducible refine upon_fmul ?_); intro r n hr hl) | ((with_reducible refine upon_fdiv ?_); intro r n hr hl) | ((with_reducible refine upon_fmax (by assumption) (by assumption) ?_); intro r n hr hl) | ((with_reducible refine upon_fmin (by assumption) (by assumption) ?_); intro r n hr hl))
  go_ret
  exact ⟨_, _, rfl, (by first | with_reducible exact Dr.mk _ _ | with_reducible exact Dr.refl _), by simp [cmul, cv, *], (by first | with_reducible assumption | with_reducible exact isW_0 | with_reducible exact isW_inf), (by first | with_reducible assumption | with_reducible exact isW_0 | with_reducible exact isW_inf)⟩

set_option maxRecDepth 100000 in
set_option maxHeartbeats 400000 in
theorem Scale_any (x a b : Nat) (w : World) :
    Calls Tryd.prog 77 #[.float .f64 x, .complex .f64 a b] w (RetC w (cscale (val x) (cv a b))) := by
  go_enter Tryd.func77, Tryd.ntmps77
  go_wp2_with (first | ((with_reducible refine upon_fadd ?_); intro r n hr hl) | ((with_reducible refine upon_fsub ?_); intro r n hr hl) | ((with_reducible refine upon_fmul ?_); intro r n hr hl) | ((with_reducible refine upon_fdiv ?_); intro r n hr hl) | ((with_reducible refine upon_fmax (by assumption) (by assumption) ?_); intro r n hr hl) | ((with_reducible refine upon_fmin (by assumption) (by assumption) ?_); intro r n hr hl))
  go_ret
  exact ⟨_, _, rfl, (by first | with_reducible exact Dr.mk _ _ | with_reducible exact Dr.refl _), by simp [cscale, cv, *], (by first | with_reducible assumption | with_reducible exact isW_0 | with_reducible exact isW_inf), (by first | with_reducible assumption | with_reducible exact isW_0 | with_reducible exact isW_inf)⟩

set_option maxRecDepth 100000 in
set_option maxHeartbeats 400000 in
theorem Size1_any (a b : Nat) (w : World) :
    Calls Tryd.prog 45 #[.complex .f64 a b] w (RetF w (size1 (cv a b))) := by
  go_enter Tryd.func45, Tryd.ntmps45
  go_wp2_with (first | (go_at_call 86; refine (size_any _ _).mono ?_; rintro e w' ⟨rfl, rfl⟩) | ((with_reducible refine upon_fadd ?_); intro r n hr hl) | ((with_reducible refine upon_fsub ?_); intro r n hr hl) | ((with_reducible refine upon_fmul ?_); intro r n hr hl) | ((with_reducible refine upon_fdiv ?_); intro r n hr hl) | ((with_reducible refine upon_fmax (by assumption) (by assumption) ?_); intro r n hr hl) | ((with_reducible refine upon_fmin (by assumption) (by assumption) ?_); intro r n hr hl))
  go_ret
  exact ⟨_, rfl, (by first | with_reducible exact Dr.mk _ _ | with_reducible exact Dr.refl _), by simp [size1, cv, ← val_size, *], (by first | with_reducible assumption | with_reducible exact isW_0 | with_reducible exact isW_inf)⟩

set_option maxRecDepth 100000 in
set_option maxHeartbeats 400000 in
theorem Inv_any (a b : Nat) (w : World) :
    Calls Tryd.prog 49 #[.complex .f64 a b] w (RetC w (cdiv (cv 4607182418800017408 0) (cv a b))) := by
  go_enter Tryd.func49, Tryd.ntmps49
  go_wp2_with (first | (go_at_call 81; (with_reducible refine (Div_any _ _ _ _ _).mono ?_); rintro e w' ⟨x, y, rfl, ⟨nd, rfl⟩, hv, l1, l2⟩) | ((with_reducible refine upon_fadd ?_); intro r n hr hl) | ((with_reducible refine upon_fsub ?_); intro r n hr hl) | ((with_reducible refine upon_fmul ?_); intro r n hr hl) | ((with_reducible refine upon_fdiv ?_); intro r n hr hl) | ((with_reducible refine upon_fmax (by assumption) (by assumption) ?_); intro r n hr hl) | ((with_reducible refine upon_fmin (by assumption) (by assumption) ?_); intro r n hr hl))
  go_ret
  exact ⟨_, _, rfl, (by first | with_reducible exact Dr.mk _ _ | with_reducible exact Dr.refl _), hv, l1, l2⟩

set_option maxRecDepth 100000 in
set_option maxHeartbeats 400000 in
theorem rAdd_any (a b c d : Nat) (w : World) :
    Calls Tryd.prog 60 #[.complex .f64 a b, .complex .f64 c d] w (RetC w (cadd (cv a b) (cv c d))) := by
  go_enter Tryd.func60, Tryd.ntmps60
  go_wp2_with (first | (go_at_call 101; refine (of_any _ _ _).mono ?_; rintro e w' ⟨rfl, rfl⟩) | ((with_reducible refine upon_fadd ?_); intro r n hr hl) | ((with_reducible refine upon_fsub ?_); intro r n hr hl) | ((with_reducible refine upon_fmul ?_); intro r n hr hl) | ((with_reducible refine upon_fdiv ?_); intro r n hr hl) | ((with_reducible refine upon_fmax (by assumption) (by assumption) ?_); intro r n hr hl) | ((with_reducible refine upon_fmin (by assumption) (by assumption) ?_); intro r n hr hl))
  go_ret
  exact ⟨_, _, rfl, (by first | with_reducible exact Dr.mk _ _ | with_reducible exact Dr.refl _), by simp [cadd, cv, *], (by first | with_reducible assumption | with_reducible exact isW_0 | with_reducible exact isW_inf), (by first | with_reducible assumption | with_reducible exact isW_0 | with_reducible exact isW_inf)⟩

set_option maxRecDepth 100000 in
set_option maxHeartbeats 400000 in
theorem rSub_any (a b c d : Nat) (w : World) :
    Calls Tryd.prog 83 #[.complex .f64 a b, .complex .f64 c d] w (RetC w (csub (cv a b) (cv c d))) := by
  go_enter Tryd.func83, Tryd.ntmps83
  go_wp2_with (first | (go_at_call 101; refine (of_any _ _ _).mono ?_; rintro e w' ⟨rfl, rfl⟩) | ((with_reducible refine upon_fadd ?_); intro r n hr hl) | ((with_reducible refine upon_fsub ?_); intro r n hr hl) | ((with_reducible refine upon_fmul ?_); intro r n hr hl) | ((with_reducible refine upon_fdiv ?_); intro r n hr hl) | ((with_reducible refine upon_fmax (by assumption) (by assumption) ?_); intro r n hr hl) | ((with_reducible refine upon_fmin (by assumption) (by assumption) ?_); intro r n hr hl))
  go_ret
  exact ⟨_, _, rfl, (by first | with_reducible exact Dr.mk _ _ | with_reducible exact Dr.refl _), by simp [csub, cv, *], (by first | with_reducible assumption | with_reducible exact isW_0 | with_reducible exact isW_inf), (by first | with_reducible assumption | with_reducible exact isW_0 | with_reducible exact isW_inf)⟩

set_option maxRecDepth 100000 in
set_option maxHeartbeats 400000 in
theorem rMul_any (a b c d : Nat) (w : World) :
    Calls Tryd.prog 76 #[.complex .f64 a b, .complex .f64 c d] w (RetC w (cmul (cv a b) (cv c d))) := by
  go_enter Tryd.func76, Tryd.ntmps76
  go_wp2_with (first | (go_at_call 101; refine (of_any _ _ _).mono ?_; rintro e w' ⟨rfl, rfl⟩) | ((with_reducible refine upon_fadd ?_); intro r n hr hl) | ((with_reducible refine upon_fsub ?_); intro r n hr hl) | ((with_reducible refine upon_fmul ?_); intro r n hr hl) | ((with_reducible refine upon_fdiv ?_); intro r n hr hl) | ((with_reducible refine upon_fmax (by assumption) (by assumption) ?_); intro r n hr hl) | ((with_reducible refine upon_fmin (by assumption) (by assumption) ?_); intro r n hr hl))
  go_ret
  exact ⟨_, _, rfl, (by first | with_reducible exact Dr.mk _ _ | with_reducible exact Dr.refl _), by simp [cmul, cv, *], (by first | with_reducible assumption | with_reducible exact isW_0 | with_reducible exact isW_inf), (by first | with_reducible assumption | with_reducible exact isW_0 | with_reducible exact isW_inf)⟩

set_option maxRecDepth 100000 in
set_option maxHeartbeats 400000 in
theorem rScale_any (x a b : Nat) (w : World) :
    Calls Tryd.prog 78 #[.float .f64 x, .complex .f64 a b] w (RetC w (cscale (val x) (cv a b))) := by
  go_enter Tryd.func78, Tryd.ntmps78
  go_wp2_with (first | (go_at_call 101; refine (of_any _ _ _).mono ?_; rintro e w' ⟨rfl, rfl⟩) | ((with_reducible refine upon_fadd ?_); intro r n hr hl) | ((with_reducible refine upon_fsub ?_); intro r n hr hl) | ((with_reducible refine upon_fmul ?_); intro r n hr hl) | ((with_reducible refine upon_fdiv ?_); intro r n hr hl) | ((with_reducible refine upon_fmax (by assumption) (by assumption) ?_); intro r n hr hl) | ((with_reducible refine upon_fmin (by assumption) (by assumption) ?_); intro r n hr hl))
  go_ret
  exact ⟨_, _, rfl, (by first | with_reducible exact Dr.mk _ _ | with_reducible exact Dr.refl _), by simp [cscale, cv, *], (by first | with_reducible assumption | with_reducible exact isW_0 | with_reducible exact isW_inf), (by first | with_reducible assumption | with_reducible exact isW_0 | with_reducible exact isW_inf)⟩

set_option maxRecDepth 100000 in
set_option maxHeartbeats 400000 in
theorem rSize1_any (a b : Nat) (w : World) :
    Calls Tryd.prog 85 #[.complex .f64 a b] w (RetF w (size1 (cv a b))) := by
  go_enter Tryd.func85, Tryd.ntmps85
  go_wp2_with (first | (go_at_call 107; refine (rsize_any _ _).mono ?_; rintro e w' ⟨rfl, rfl⟩) | ((with_reducible refine upon_fadd ?_); intro r n hr hl) | ((with_reducible refine upon_fsub ?_); intro r n hr hl) | ((with_reducible refine upon_fmul ?_); intro r n hr hl) | ((with_reducible refine upon_fdiv ?_); intro r n hr hl) | ((with_reducible refine upon_fmax (by assumption) (by assumption) ?_); intro r n hr hl) | ((with_reducible refine upon_fmin (by assumption) (by assumption) ?_); intro r n hr hl))
  go_ret
  exact ⟨_, rfl, (by first | with_reducible exact Dr.mk _ _ | with_reducible exact Dr.refl _), by simp [size1, cv, ← val_size, *], (by first | with_reducible assumption | with_reducible exact isW_0 | with_reducible exact isW_inf)⟩

set_option maxRecDepth 100000 in
set_option maxHeartbeats 400000 in
theorem rInv_any (a b : Nat) (w : World) :
    Calls Tryd.prog 61 #[.complex .f64 a b] w (RetC w (cdiv (cv 4607182418800017408 0) (cv a b))) := by
  go_enter Tryd.func61, Tryd.ntmps61
  go_wp2_with (first | (go_at_call 84; (with_reducible refine (rDiv_any _ _ _ _ _).mono ?_); rintro e w' ⟨x, y, rfl, ⟨nd, rfl⟩, hv, l1, l2⟩) | (go_at_call 101; refine (of_any _ _ _).mono ?_; rintro e w' ⟨rfl, rfl⟩) | ((with_reducible refine upon_fadd ?_); intro r n hr hl) | ((with_reducible refine upon_fsub ?_); intro r n hr hl) | ((with_reducible refine upon_fmul ?_); intro r n hr hl) | ((with_reducible refine upon_fdiv ?_); intro r n hr hl) | ((with_reducible refine upon_fmax (by assumption) (by assumption) ?_); intro r n hr hl) | ((with_reducible refine upon_fmin (by assumption) (by assumption) ?_); intro r n hr hl))
  go_ret
  exact ⟨_, _, rfl, (by first | with_reducible exact Dr.mk _ _ | with_reducible exact Dr.refl _), hv, l1, l2⟩
end Go.Proofs.YtjpimgdmlieinaaDoor
