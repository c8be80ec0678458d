/- math.Ldexp of 1: what it gives. Condition: the power lies between -1074 and 1023. -/
import Derived.Test.YtnedjhoefmmelaaAbs
namespace Go.Proofs.Ytnedjhoefmmelaa
open Go.RowKit

theorem ld1 : feq (val 4607182418800017408) (val 0) = false ∧ isInf (val 4607182418800017408) = false ∧ feq (val 4607182418800017408) (val 4607182418800017408) = true ∧
    flt (val (sizeB 4607182418800017408)) (val 4503599627370496) = false := by decide +kernel
theorem isNaN_one (w : World) :
    Calls Try.prog 83 #[.float .f64 4607182418800017408] w fun e w' => e = .returned (.bool false) ∧ w = w' := by
  have h := ld1.2.2.1
  go_enter Try.func83, Try.ntmps83
  go_wp2
  go_ret
  exact ⟨rfl, rfl⟩
theorem normalize_one (w : World) :
    Calls Try.prog 84 #[.float .f64 4607182418800017408] w fun e w' => e = .returned (.tuple #[.float .f64 4607182418800017408, .int .i64 0]) ∧ w = w' := by
  have h := ld1.2.2.2
  go_enter Try.func84, Try.ntmps84
  go_wp2_with (first | (go_at_call 93; refine (mabs_any _ _).mono ?_; rintro e w' ⟨rfl, rfl⟩))
  go_ret2
  exact ⟨rfl, rfl⟩

@[go_sem high] theorem ib1 : Op.intBits .and .i64 1023 2047 = pure (.int .i64 1023) := rfl
@[go_sem high] theorem ib2 : Op.intBits .andNot .u64 4607182418800017408 9218868437227405312 = pure (.int .u64 0) := rfl
theorem or0 {n : Int} (h : 0 ≤ n) (h2 : n < 18446744073709551616) : bits .or .u64 0 n = n := by
  show IntKind.u64.wrap ((BitVec.ofInt 64 0 ||| BitVec.ofInt 64 n).toNat : Int) = n
  obtain ⟨m, rfl⟩ := Int.eq_ofNat_of_zero_le h
  rw [show BitVec.ofInt 64 0 = 0#64 from rfl, BitVec.zero_or, BitVec.ofInt_natCast, BitVec.toNat_ofNat, IntKind.wrap_u64]
  omega
/-- 2^k. -/
def ldV (k : Int) : Option Nat := if k < -1022 then fmul (val 4368491638549381120) (val ((k + 1076).toNat * 4503599627370496)) else fmul one (val ((k + 1023).toNat * 4503599627370496))

theorem ldexp_one (k : Int) (w : World) (h1 : -1074 ≤ k) (h2 : k ≤ 1023) :
    Calls Try.prog 50 #[.float .f64 4607182418800017408, .int .i64 k] w (RetF w (ldV k)) := by
  obtain ⟨hq1, hq2, _, _⟩ := ld1
  obtain ⟨v, hv⟩ : ∃ v, v = ldV k := ⟨_, rfl⟩
  rw [← hv]
  have HV := hid hv
  clear hv
  by_cases h3 : k < -1022
  · go_enter Try.func50, Try.ntmps50
    go_wp2_with (first | (go_at_call 82; refine (isInf_any _ _).mono ?_; rintro e w' ⟨rfl, rfl⟩) | (go_at_call 83; refine (isNaN_one _).mono ?_; rintro e w' ⟨rfl, rfl⟩) | (go_at_call 84; refine (normalize_one _).mono ?_; rintro e w' ⟨rfl, rfl⟩) | ((with_reducible refine upon_fadd ?_); intro r n hr hl) | ((with_reducible refine upon_fsub ?_); intro r n hr hl) | ((with_reducible refine upon_fmul ?_); intro r n hr hl) | ((with_reducible refine upon_fdiv ?_); intro r n hr hl) | ((with_reducible refine upon_fmax (by assumption) (by assumption) ?_); intro r n hr hl) | ((with_reducible refine upon_fmin (by assumption) (by assumption) ?_); intro r n hr hl))
    go_ret
    exact ⟨_, rfl, (by first | with_reducible exact Dr.mk _ _ | with_reducible exact Dr.refl _), by rw [HV.out, hr, or0 (by omega) (by omega), ldV, if_pos h3]; congr 2; omega, (by first | with_reducible assumption | with_reducible exact isW_0 | with_reducible exact isW_inf)⟩
  · go_enter Try.func50, Try.ntmps50
    go_wp2_with (first | (go_at_call 82; refine (isInf_any _ _).mono ?_; rintro e w' ⟨rfl, rfl⟩) | (go_at_call 83; refine (isNaN_one _).mono ?_; rintro e w' ⟨rfl, rfl⟩) | (go_at_call 84; refine (normalize_one _).mono ?_; rintro e w' ⟨rfl, rfl⟩) | ((with_reducible refine upon_fadd ?_); intro r n hr hl) | ((with_reducible refine upon_fsub ?_); intro r n hr hl) | ((with_reducible refine upon_fmul ?_); intro r n hr hl) | ((with_reducible refine upon_fdiv ?_); intro r n hr hl) | ((with_reducible refine upon_fmax (by assumption) (by assumption) ?_); intro r n hr hl) | ((with_reducible refine upon_fmin (by assumption) (by assumption) ?_); intro r n hr hl))
    go_ret
    exact ⟨_, rfl, (by first | with_reducible exact Dr.mk _ _ | with_reducible exact Dr.refl _), by rw [HV.out, hr, or0 (by omega) (by omega), ldV, if_neg (by omega)]; unfold one; congr 2; omega, (by first | with_reducible assumption | with_reducible exact isW_0 | with_reducible exact isW_inf)⟩
theorem Ldexp_one (k : Int) (w : World) (h1 : -1074 ≤ k) (h2 : k ≤ 1023) :
    Calls Try.prog 15 #[.float .f64 4607182418800017408, .int .i64 k] w (RetF w (ldV k)) := by
  go_enter Try.func15, Try.ntmps15
  go_wp2_with (first | (go_at_call 50; refine (ldexp_one _ _ h1 h2).mono ?_; rintro e w' ⟨x, rfl, ⟨n, rfl⟩, hr, hl⟩))
  go_ret
  exact ⟨_, rfl, (by first | with_reducible exact Dr.mk _ _ | with_reducible exact Dr.refl _), hr, hl⟩
end Go.Proofs.Ytnedjhoefmmelaa
