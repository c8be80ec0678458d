/- The functions of package parts and of its reference, each once: what they give. No condition but that a word has 64 bits where the sign is turned. The size of a complex number, in the program and in its references: what they give. Conditions: words have 64 bits. -/
import Derived.Test.YtfalbdlfopfgcaaGreatDoorFlM
namespace Go.Proofs.YtfalbdlfopfgcaaGreatDoor
open Go.RowKit

theorem size_any (x : Nat) (w : World) :
    Calls Tryz.prog 81 #[.float .f64 x] w fun e w' => e = .returned (.float .f64 (sizeB x)) ∧ w = w' := by
  go_enter Tryz.func81, Tryz.ntmps81
  go_wp2
  go_ret
  exact ⟨rfl, rfl⟩
set_option maxHeartbeats 400000 in
theorem Finite_any (a b : Nat) (w : World) :
    Calls Tryz.prog 52 #[.complex .f64 a b] w (RetB w (cfin (cv a b))) := by
  unfold cfin fin cv
  by_cases h : feq (fsub (val a) (val a)) (val 0) = true
  all_goals
    try simp only [Bool.not_eq_true] at h
    go_enter Tryz.func52, Tryz.ntmps52
    go_wp2_with (first | ((with_reducible refine upon_fadd ?_); intro r n hr hl) | ((with_reducible refine upon_fsub ?_); intro r n hr hl) | ((with_reducible refine upon_fmul ?_); intro r n hr hl) | ((with_reducible refine upon_fdiv ?_); intro r n hr hl) | ((with_reducible refine upon_fmax (by assumption) (by assumption) ?_); intro r n hr hl) | ((with_reducible refine upon_fmin (by assumption) (by assumption) ?_); intro r n hr hl))
    go_ret
    exact ⟨by simp [*], (by first | with_reducible exact Dr.mk _ _ | with_reducible exact Dr.refl _)⟩

set_option maxHeartbeats 400000 in
theorem FiniteReal_any (a : Nat) (w : World) :
    Calls Tryz.prog 71 #[.float .f64 a] w (RetB w (fin (val a))) := by
  unfold fin
  go_enter Tryz.func71, Tryz.ntmps71
  go_wp2_with (first | ((with_reducible refine upon_fadd ?_); intro r n hr hl) | ((with_reducible refine upon_fsub ?_); intro r n hr hl) | ((with_reducible refine upon_fmul ?_); intro r n hr hl) | ((with_reducible refine upon_fdiv ?_); intro r n hr hl) | ((with_reducible refine upon_fmax (by assumption) (by assumption) ?_); intro r n hr hl) | ((with_reducible refine upon_fmin (by assumption) (by assumption) ?_); intro r n hr hl))
  go_ret
  exact ⟨by simp [*], (by first | with_reducible exact Dr.mk _ _ | with_reducible exact Dr.refl _)⟩

set_option maxHeartbeats 400000 in
theorem Zero_any (a b : Nat) (w : World) :
    Calls Tryz.prog 53 #[.complex .f64 a b] w fun e w' => e = .returned (.bool (czero (cv a b))) ∧ w = w' := by
  unfold czero cv
  by_cases h : feq (val a) (val 0) = true
  all_goals
    try simp only [Bool.not_eq_true] at h
    go_enter Tryz.func53, Tryz.ntmps53
    go_wp2
    go_ret
    exact ⟨by simp [*], rfl⟩
set_option maxHeartbeats 400000 in
theorem Div_any (a b c d : Nat) (w : World) :
    Calls Tryz.prog 54 #[.complex .f64 a b, .complex .f64 c d] w (RetC w (cdiv (cv a b) (cv c d))) := by
  go_enter Tryz.func54, Tryz.ntmps54
  go_wp2_with (first | (go_at_call 81; refine (size_any _ _).mono ?_; rintro e w' ⟨rfl, rfl⟩) | ((with_reducible refine upon_fadd ?_); intro r n hr hl) | ((with_reducible refine upon_fsub ?_); intro r n hr hl) | ((with_reducible refine upon_fmul ?_); intro r n hr hl) | ((with_reducible refine upon_fdiv ?_); intro r n hr hl) | ((with_reducible refine upon_fmax (by assumption) (by assumption) ?_); intro r n hr hl) | ((with_reducible refine upon_fmin (by assumption) (by assumption) ?_); intro r n hr hl))
  all_goals
    go_ret
    exact ⟨_, _, rfl, (by first | with_reducible exact Dr.mk _ _ | with_reducible exact Dr.refl _), by simp [cdiv, cv, ← val_size, *], (by first | with_reducible assumption | with_reducible exact isW_0 | with_reducible exact isW_inf), (by first | with_reducible assumption | with_reducible exact isW_0 | with_reducible exact isW_inf)⟩

set_option maxHeartbeats 400000 in
theorem Size2_any (a b : Nat) (w : World) :
    Calls Tryz.prog 57 #[.complex .f64 a b] w (RetF w (size2 (cv a b))) := by
  go_enter Tryz.func57, Tryz.ntmps57
  go_wp2_with (first | ((with_reducible refine upon_fadd ?_); intro r n hr hl) | ((with_reducible refine upon_fsub ?_); intro r n hr hl) | ((with_reducible refine upon_fmul ?_); intro r n hr hl) | ((with_reducible refine upon_fdiv ?_); intro r n hr hl) | ((with_reducible refine upon_fmax (by assumption) (by assumption) ?_); intro r n hr hl) | ((with_reducible refine upon_fmin (by assumption) (by assumption) ?_); intro r n hr hl))
  go_ret
  exact ⟨_, rfl, (by first | with_reducible exact Dr.mk _ _ | with_reducible exact Dr.refl _), by simp [size2, cv, *], (by first | with_reducible assumption | with_reducible exact isW_0 | with_reducible exact isW_inf)⟩
end Go.Proofs.YtfalbdlfopfgcaaGreatDoor

namespace Go.Proofs.YtfalbdlfopfgcaaGreatDoor
open Go.RowKit

theorem mabs_any (x : Nat) (w : World) :
    Calls Tryz.prog 84 #[.float .f64 x] w fun e w' => e = .returned (.float .f64 (sizeB x)) ∧ w = w' := by
  go_enter Tryz.func84, Tryz.ntmps84
  go_wp2
  go_ret
  exact ⟨rfl, rfl⟩
theorem isInf_any (x : Nat) (w : World) :
    Calls Tryz.prog 70 #[.float .f64 x, .int .i64 0] w fun e w' => e = .returned (.bool (isInf (val x))) ∧ w = w' := by
  unfold isInf
  go_enter Tryz.func70, Tryz.ntmps70
  go_wp2_with (first | (go_at_call 84; refine (mabs_any _ _).mono ?_; rintro e w' ⟨rfl, rfl⟩))
  go_ret
  exact ⟨by simp [val_size], rfl⟩
theorem inf_any (w : World) :
    Calls Tryz.prog 82 #[.int .i64 1] w fun e w' => e = .returned (.float .f64 9218868437227405312) ∧ w = w' := by
  go_enter Tryz.func82, Tryz.ntmps82
  go_wp2
  go_ret
  exact ⟨rfl, rfl⟩
theorem call_sqrt (x : Nat) (w : World) : ∃ r n, (callFunc 102 #[.float .f64 x]).run Tryz.prog w = .ok (.value (.float .f64 r)) (w.drewN n) ∧ val r = fsqrt (val x) ∧ IsW r := by
  obtain ⟨r, n, h1, h2, h3⟩ := run_fsqrt (P := Tryz.prog) w x
  refine ⟨r, n, ?_, h2, h3⟩
  rw [run_callFunc_extern (e := Extern.MathSqrt.sqrt) Tryz.func102 (by kernel_rfl) (by kernel_rfl) (by kernel_rfl) (by kernel_rfl) _ w, h1, Result.andThen_ok]
theorem upon_res {P : Program} {o : Oper} {a : Act} {K : Act → World → Prop} {Q : Exit → Act → World → Prop} {w : World} {R : Result Next} {v : Option Nat}
    (hR : ∃ r n, R = .ok (.value (.float .f64 r)) (w.drewN n) ∧ val r = v ∧ IsW r) (h : ∀ r n, val r = v → IsW r → K (a.put o.dst (.float .f64 r)) (w.drewN n)) : Oper.upon P o a K Q R := by
  obtain ⟨r, n, rfl, h2, h3⟩ := hR
  exact h r n h2 h3
theorem upon_sqrt {P : Program} {f : FuncId} (hf : ∀ x w, ∃ r n, (callFunc f #[.float .f64 x]).run P w = .ok (.value (.float .f64 r)) (w.drewN n) ∧ val r = fsqrt (val x) ∧ IsW r)
    {o : Oper} {a : Act} {K : Act → World → Prop} {Q : Exit → Act → World → Prop} {w : World} {x : Nat} (h : ∀ r n, val r = fsqrt (val x) → IsW r → K (a.put o.dst (.float .f64 r)) (w.drewN n)) :
    Oper.upon P o a K Q (Sem.run P (callFunc f #[.float .f64 x]) w) := upon_res (hf x w) h
theorem sqrt_any (x : Nat) (w : World) :
    Calls Tryz.prog 83 #[.float .f64 x] w (RetF w (fsqrt (val x))) := by
  go_enter Tryz.func83, Tryz.ntmps83
  go_wp2_with (first | ((with_reducible refine upon_sqrt call_sqrt ?_); intro r n hr hl))
  go_ret
  exact ⟨_, rfl, (by first | with_reducible exact Dr.mk _ _ | with_reducible exact Dr.refl _), by assumption, by assumption⟩

set_option maxHeartbeats 1000000 in
theorem Abs_any (a b : Nat) (w : World) :
    Calls Tryz.prog 56 #[.complex .f64 a b] w (RetF w (absP (cv a b))) := by
  unfold absP cv hyp inf
  simp only [← val_size]
  by_cases h1 : isInf (val a) = true <;> try simp only [Bool.not_eq_true] at h1
  all_goals by_cases h3 : feq (val (sizeB a)) (val 0) = true <;> try simp only [Bool.not_eq_true] at h3
  all_goals by_cases h5 : feq (val (sizeB b)) (val 0) = true <;> try simp only [Bool.not_eq_true] at h5
  all_goals
    go_enter Tryz.func56, Tryz.ntmps56
    go_wp2_with (first | (go_at_call 81; refine (size_any _ _).mono ?_; rintro e w' ⟨rfl, rfl⟩) | (go_at_call 70; refine (isInf_any _ _).mono ?_; rintro e w' ⟨rfl, rfl⟩) | (go_at_call 82; refine (inf_any _).mono ?_; rintro e w' ⟨rfl, rfl⟩) | (go_at_call 83; refine (sqrt_any _ _).mono ?_; rintro e w' ⟨r, rfl, ⟨n, rfl⟩, hr, hl⟩) | ((with_reducible refine upon_fadd ?_); intro r n hr hl) | ((with_reducible refine upon_fsub ?_); intro r n hr hl) | ((with_reducible refine upon_fmul ?_); intro r n hr hl) | ((with_reducible refine upon_fdiv ?_); intro r n hr hl) | ((with_reducible refine upon_fmax (by assumption) (by assumption) ?_); intro r n hr hl) | ((with_reducible refine upon_fmin (by assumption) (by assumption) ?_); intro r n hr hl))
    all_goals
      go_ret
      exact ⟨_, rfl, (by first | with_reducible exact Dr.mk _ _ | with_reducible exact Dr.refl _), by simp [*], (by first | with_reducible assumption | with_reducible exact isW_0 | with_reducible exact isW_inf)⟩
end Go.Proofs.YtfalbdlfopfgcaaGreatDoor
