/- The functions of package parts and of its reference, each once: what they give. No condition but that a word has 64 bits where the sign is turned. -/
import Derived.Test.YtnedjhoefmmelaaBase
import Derived.Test.YtnedjhoefmmelaaMod
namespace Go.Proofs.Ytnedjhoefmmelaa
open Go.RowKit

theorem size_any (x : Nat) (w : World) :
    Calls Try.prog 87 #[.float .f64 x] w fun e w' => e = .returned (.float .f64 (sizeB x)) ∧ w = w' := by
  go_enter Try.func87, Try.ntmps87
  go_wp2
  go_ret
  exact ⟨rfl, rfl⟩
theorem rsize_any (x : Nat) (w : World) :
    Calls Try.prog 88 #[.float .f64 x] w fun e w' => e = .returned (.float .f64 (sizeB x)) ∧ w = w' := by
  go_enter Try.func88, Try.ntmps88
  go_wp2
  go_ret
  exact ⟨rfl, rfl⟩
theorem turned_any (x : Nat) (w : World) (hx : IsW x) :
    Calls Try.prog 64 #[.float .f64 x] w fun e w' => e = .returned (.float .f64 (negB x)) ∧ w = w' := by
  have ht := intBits_turn x hx
  go_enter Try.func64, Try.ntmps64
  go_wp2
  go_ret
  exact ⟨rfl, rfl⟩

set_option maxHeartbeats 400000 in
theorem Finite_any (a b : Nat) (w : World) :
    Calls Try.prog 51 #[.complex .f64 a b] w (RetB w (cfin (cv a b))) := by
  unfold cfin fin cv
  by_cases h : feq (fsub (val a) (val a)) (val 0) = true
  all_goals
    try simp only [Bool.not_eq_true] at h
    go_enter Try.func51, Try.ntmps51
    go_wp2_with (first | ((with_reducible refine upon_fadd ?_); intro r n hr hl) | ((with_reducible refine upon_fsub ?_); intro r n hr hl) | ((with_reducible refine upon_fmul ?_); intro r n hr hl) | ((with_reducible refine upon_fdiv ?_); intro r n hr hl) | ((with_reducible refine upon_fmax (by assumption) (by assumption) ?_); intro r n hr hl) | ((with_reducible refine upon_fmin (by assumption) (by assumption) ?_); intro r n hr hl))
    go_ret
    exact ⟨by simp [*], (by first | with_reducible exact Dr.mk _ _ | with_reducible exact Dr.refl _)⟩

set_option maxHeartbeats 400000 in
theorem FiniteReal_any (a : Nat) (w : World) :
    Calls Try.prog 48 #[.float .f64 a] w (RetB w (fin (val a))) := by
  unfold fin
  go_enter Try.func48, Try.ntmps48
  go_wp2_with (first | ((with_reducible refine upon_fadd ?_); intro r n hr hl) | ((with_reducible refine upon_fsub ?_); intro r n hr hl) | ((with_reducible refine upon_fmul ?_); intro r n hr hl) | ((with_reducible refine upon_fdiv ?_); intro r n hr hl) | ((with_reducible refine upon_fmax (by assumption) (by assumption) ?_); intro r n hr hl) | ((with_reducible refine upon_fmin (by assumption) (by assumption) ?_); intro r n hr hl))
  go_ret
  exact ⟨by simp [*], (by first | with_reducible exact Dr.mk _ _ | with_reducible exact Dr.refl _)⟩

set_option maxHeartbeats 400000 in
theorem rFinite_any (a b : Nat) (w : World) :
    Calls Try.prog 54 #[.complex .f64 a b] w (RetB w (cfin (cv a b))) := by
  unfold cfin cv
  by_cases h : fin (val a) = true
  all_goals
    try simp only [Bool.not_eq_true] at h
    go_enter Try.func54, Try.ntmps54
    go_wp2_with (first | (go_at_call 48; refine (FiniteReal_any _ _).mono ?_; rintro e w' ⟨rfl, n, rfl⟩) | ((with_reducible refine upon_fadd ?_); intro r n hr hl) | ((with_reducible refine upon_fsub ?_); intro r n hr hl) | ((with_reducible refine upon_fmul ?_); intro r n hr hl) | ((with_reducible refine upon_fdiv ?_); intro r n hr hl) | ((with_reducible refine upon_fmax (by assumption) (by assumption) ?_); intro r n hr hl) | ((with_reducible refine upon_fmin (by assumption) (by assumption) ?_); intro r n hr hl))
    go_ret
    exact ⟨by simp [*], (by first | with_reducible exact Dr.mk _ _ | with_reducible exact Dr.refl _)⟩

set_option maxHeartbeats 400000 in
theorem Zero_any (a b : Nat) (w : World) :
    Calls Try.prog 52 #[.complex .f64 a b] w fun e w' => e = .returned (.bool (czero (cv a b))) ∧ w = w' := by
  unfold czero cv
  by_cases h : feq (val a) (val 0) = true
  all_goals
    try simp only [Bool.not_eq_true] at h
    go_enter Try.func52, Try.ntmps52
    go_wp2
    go_ret
    exact ⟨by simp [*], rfl⟩
set_option maxHeartbeats 400000 in
theorem rZero_any (a b : Nat) (w : World) :
    Calls Try.prog 55 #[.complex .f64 a b] w fun e w' => e = .returned (.bool (czero (cv a b))) ∧ w = w' := by
  unfold czero cv
  by_cases h : feq (val a) (val 0) = true
  all_goals
    try simp only [Bool.not_eq_true] at h
    go_enter Try.func55, Try.ntmps55
    go_wp2
    go_ret
    exact ⟨by simp [*], rfl⟩

set_option maxHeartbeats 400000 in
theorem Div_any (a b c d : Nat) (w : World) :
    Calls Try.prog 53 #[.complex .f64 a b, .complex .f64 c d] w (RetC w (cdiv (cv a b) (cv c d))) := by
  go_enter Try.func53, Try.ntmps53
  go_wp2_with (first | (go_at_call 87; refine (size_any _ _).mono ?_; rintro e w' ⟨rfl, rfl⟩) | ((with_reducible refine upon_fadd ?_); intro r n hr hl) | ((with_reducible refine upon_fsub ?_); intro r n hr hl) | ((with_reducible refine upon_fmul ?_); intro r n hr hl) | ((with_reducible refine upon_fdiv ?_); intro r n hr hl) | ((with_reducible refine upon_fmax (by assumption) (by assumption) ?_); intro r n hr hl) | ((with_reducible refine upon_fmin (by assumption) (by assumption) ?_); intro r n hr hl))
  all_goals
    go_ret
    exact ⟨_, _, rfl, (by first | with_reducible exact Dr.mk _ _ | with_reducible exact Dr.refl _), by simp [cdiv, cv, ← val_size, *], (by first | with_reducible assumption | with_reducible exact isW_0 | with_reducible exact isW_inf), (by first | with_reducible assumption | with_reducible exact isW_0 | with_reducible exact isW_inf)⟩

theorem of_any (a b : Nat) (w : World) :
    Calls Try.prog 89 #[.float .f64 a, .float .f64 b] w fun e w' => e = .returned (.complex .f64 a b) ∧ w = w' := by
  go_enter Try.func89, Try.ntmps89
  go_wp2
  go_ret
  exact ⟨rfl, rfl⟩
set_option maxRecDepth 100000 in
set_option maxHeartbeats 400000 in
theorem rDiv_any (a b c d : Nat) (w : World) :
    Calls Try.prog 56 #[.complex .f64 a b, .complex .f64 c d] w (RetC w (cdiv (cv a b) (cv c d))) := by
  go_enter Try.func56, Try.ntmps56
  go_wp2_with (first | (go_at_call 88; refine (rsize_any _ _).mono ?_; rintro e w' ⟨rfl, rfl⟩) | (go_at_call 89; refine (of_any _ _ _).mono ?_; rintro e w' ⟨rfl, rfl⟩) | ((with_reducible refine upon_fadd ?_); intro r n hr hl) | ((with_reducible refine upon_fsub ?_); intro r n hr hl) | ((with_reducible refine upon_fmul ?_); intro r n hr hl) | ((with_reducible refine upon_fdiv ?_); intro r n hr hl) | ((with_reducible refine upon_fmax (by assumption) (by assumption) ?_); intro r n hr hl) | ((with_reducible refine upon_fmin (by assumption) (by assumption) ?_); intro r n hr hl))
  all_goals
    go_ret
    exact ⟨_, _, rfl, (by first | with_reducible exact Dr.mk _ _ | with_reducible exact Dr.refl _), by simp [cdiv, cv, ← val_size, *], (by first | with_reducible assumption | with_reducible exact isW_0 | with_reducible exact isW_inf), (by first | with_reducible assumption | with_reducible exact isW_0 | with_reducible exact isW_inf)⟩

set_option maxHeartbeats 400000 in
theorem Size2_any (a b : Nat) (w : World) :
    Calls Try.prog 60 #[.complex .f64 a b] w (RetF w (size2 (cv a b))) := by
  go_enter Try.func60, Try.ntmps60
  go_wp2_with (first | ((with_reducible refine upon_fadd ?_); intro r n hr hl) | ((with_reducible refine upon_fsub ?_); intro r n hr hl) | ((with_reducible refine upon_fmul ?_); intro r n hr hl) | ((with_reducible refine upon_fdiv ?_); intro r n hr hl) | ((with_reducible refine upon_fmax (by assumption) (by assumption) ?_); intro r n hr hl) | ((with_reducible refine upon_fmin (by assumption) (by assumption) ?_); intro r n hr hl))
  go_ret
  exact ⟨_, rfl, (by first | with_reducible exact Dr.mk _ _ | with_reducible exact Dr.refl _), by simp [size2, cv, *], (by first | with_reducible assumption | with_reducible exact isW_0 | with_reducible exact isW_inf)⟩
set_option maxHeartbeats 400000 in
theorem rSize2_any (a b : Nat) (w : World) :
    Calls Try.prog 92 #[.complex .f64 a b] w (RetF w (size2 (cv a b))) := by
  go_enter Try.func92, Try.ntmps92
  go_wp2_with (first | ((with_reducible refine upon_fadd ?_); intro r n hr hl) | ((with_reducible refine upon_fsub ?_); intro r n hr hl) | ((with_reducible refine upon_fmul ?_); intro r n hr hl) | ((with_reducible refine upon_fdiv ?_); intro r n hr hl) | ((with_reducible refine upon_fmax (by assumption) (by assumption) ?_); intro r n hr hl) | ((with_reducible refine upon_fmin (by assumption) (by assumption) ?_); intro r n hr hl))
  go_ret
  exact ⟨_, rfl, (by first | with_reducible exact Dr.mk _ _ | with_reducible exact Dr.refl _), by simp [size2, cv, *], (by first | with_reducible assumption | with_reducible exact isW_0 | with_reducible exact isW_inf)⟩
theorem Conj_any (a b : Nat) (w : World) (hb : IsW b) :
    Calls Try.prog 28 #[.complex .f64 a b] w fun e w' => e = .returned (.complex .f64 a (negB b)) ∧ w = w' := by
  go_enter Try.func28, Try.ntmps28
  go_wp2_with (first | (go_at_call 64; refine (turned_any _ _ (by assumption)).mono ?_; rintro e w' ⟨rfl, rfl⟩))
  go_ret
  exact ⟨rfl, rfl⟩
end Go.Proofs.Ytnedjhoefmmelaa
