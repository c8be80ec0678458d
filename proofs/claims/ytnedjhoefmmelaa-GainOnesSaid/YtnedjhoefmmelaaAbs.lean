/- The size of a complex number, in the program and in its references: what they give. Conditions: words have 64 bits. -/
import Derived.Test.YtnedjhoefmmelaaParts
namespace Go.Proofs.Ytnedjhoefmmelaa
open Go.RowKit

theorem mabs_any (x : Nat) (w : World) :
    Calls Try.prog 93 #[.float .f64 x] w fun e w' => e = .returned (.float .f64 (sizeB x)) ∧ w = w' := by
  go_enter Try.func93, Try.ntmps93
  go_wp2
  go_ret
  exact ⟨rfl, rfl⟩
theorem isInf_any (x : Nat) (w : World) :
    Calls Try.prog 82 #[.float .f64 x, .int .i64 0] w fun e w' => e = .returned (.bool (isInf (val x))) ∧ w = w' := by
  unfold isInf
  go_enter Try.func82, Try.ntmps82
  go_wp2_with (first | (go_at_call 93; refine (mabs_any _ _).mono ?_; rintro e w' ⟨rfl, rfl⟩))
  go_ret
  exact ⟨by simp [val_size], rfl⟩
theorem inf_any (w : World) :
    Calls Try.prog 86 #[.int .i64 1] w fun e w' => e = .returned (.float .f64 9218868437227405312) ∧ w = w' := by
  go_enter Try.func86, Try.ntmps86
  go_wp2
  go_ret
  exact ⟨rfl, rfl⟩
theorem infinite_any (x : Nat) (w : World) :
    Calls Try.prog 111 #[.float .f64 x] w fun e w' => e = .returned (.bool (feq (fsize (val x)) inf)) ∧ w = w' := by
  unfold inf
  go_enter Try.func111, Try.ntmps111
  go_wp2_with (first | (go_at_call 88; refine (rsize_any _ _).mono ?_; rintro e w' ⟨rfl, rfl⟩) | (go_at_call 86; refine (inf_any _).mono ?_; rintro e w' ⟨rfl, rfl⟩))
  go_ret
  exact ⟨by simp [val_size], rfl⟩
theorem call_sqrt (x : Nat) (w : World) : ∃ r n, (callFunc 110 #[.float .f64 x]).run Try.prog w = .ok (.value (.float .f64 r)) (w.drewN n) ∧ val r = fsqrt (val x) ∧ IsW r := by
  obtain ⟨r, n, h1, h2, h3⟩ := run_fsqrt (P := Try.prog) w x
  refine ⟨r, n, ?_, h2, h3⟩
  rw [run_callFunc_extern (e := Extern.MathSqrt.sqrt) Try.func110 (by kernel_rfl) (by kernel_rfl) (by kernel_rfl) (by kernel_rfl) _ w, h1, Result.andThen_ok]
theorem upon_res {P : Program} {o : Oper} {a : Act} {K : Act → World → Prop} {Q : Exit → Act → World → Prop} {w : World} {R : Result Next} {v : Option Nat}
    (hR : ∃ r n, R = .ok (.value (.float .f64 r)) (w.drewN n) ∧ val r = v ∧ IsW r) (h : ∀ r n, val r = v → IsW r → K (a.put o.dst (.float .f64 r)) (w.drewN n)) : Oper.upon P o a K Q R := by
  obtain ⟨r, n, rfl, h2, h3⟩ := hR
  exact h r n h2 h3
theorem upon_sqrt {P : Program} {f : FuncId} (hf : ∀ x w, ∃ r n, (callFunc f #[.float .f64 x]).run P w = .ok (.value (.float .f64 r)) (w.drewN n) ∧ val r = fsqrt (val x) ∧ IsW r)
    {o : Oper} {a : Act} {K : Act → World → Prop} {Q : Exit → Act → World → Prop} {w : World} {x : Nat} (h : ∀ r n, val r = fsqrt (val x) → IsW r → K (a.put o.dst (.float .f64 r)) (w.drewN n)) :
    Oper.upon P o a K Q (Sem.run P (callFunc f #[.float .f64 x]) w) := upon_res (hf x w) h
theorem sqrt_any (x : Nat) (w : World) :
    Calls Try.prog 90 #[.float .f64 x] w (RetF w (fsqrt (val x))) := by
  go_enter Try.func90, Try.ntmps90
  go_wp2_with (first | ((with_reducible refine upon_sqrt call_sqrt ?_); intro r n hr hl))
  go_ret
  exact ⟨_, rfl, (by first | with_reducible exact Dr.mk _ _ | with_reducible exact Dr.refl _), by assumption, by assumption⟩

set_option maxHeartbeats 1000000 in
theorem Abs_any (a b : Nat) (w : World) :
    Calls Try.prog 58 #[.complex .f64 a b] w (RetF w (absP (cv a b))) := by
  unfold absP cv hyp inf
  simp only [← val_size]
  by_cases h1 : isInf (val a) = true <;> try simp only [Bool.not_eq_true] at h1
  all_goals by_cases h3 : feq (val (sizeB a)) (val 0) = true <;> try simp only [Bool.not_eq_true] at h3
  all_goals by_cases h5 : feq (val (sizeB b)) (val 0) = true <;> try simp only [Bool.not_eq_true] at h5
  all_goals
    go_enter Try.func58, Try.ntmps58
    go_wp2_with (first | (go_at_call 87; refine (size_any _ _).mono ?_; rintro e w' ⟨rfl, rfl⟩) | (go_at_call 82; refine (isInf_any _ _).mono ?_; rintro e w' ⟨rfl, rfl⟩) | (go_at_call 86; refine (inf_any _).mono ?_; rintro e w' ⟨rfl, rfl⟩) | (go_at_call 90; refine (sqrt_any _ _).mono ?_; rintro e w' ⟨r, rfl, ⟨n, rfl⟩, hr, hl⟩) | ((with_reducible refine upon_fadd ?_); intro r n hr hl) | ((with_reducible refine upon_fsub ?_); intro r n hr hl) | ((with_reducible refine upon_fmul ?_); intro r n hr hl) | ((with_reducible refine upon_fdiv ?_); intro r n hr hl) | ((with_reducible refine upon_fmax (by assumption) (by assumption) ?_); intro r n hr hl) | ((with_reducible refine upon_fmin (by assumption) (by assumption) ?_); intro r n hr hl))
    all_goals
      go_ret
      exact ⟨_, rfl, (by first | with_reducible exact Dr.mk _ _ | with_reducible exact Dr.refl _), by simp [*], (by first | with_reducible assumption | with_reducible exact isW_0 | with_reducible exact isW_inf)⟩
end Go.Proofs.Ytnedjhoefmmelaa
