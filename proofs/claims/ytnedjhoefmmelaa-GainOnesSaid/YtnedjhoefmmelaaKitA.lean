/- Sameness of reals and numbers, numbers out of bits, the marks: the small functions of the kit and of the reference. Conditions: words have 64 bits. -/
import Derived.Test.YtnedjhoefmmelaaParts
import Derived.Deep.RegionWith
import Derived.BigRegion
namespace Go.Proofs.Ytnedjhoefmmelaa
open Go.RowKit

theorem feq_self (a : Nat) : feq (val a) (val a) = !nanB a := by
  cases h : nanB a
  · rw [val_some h]
    have : Ieee.double.order a a = some .eq := by
      rw [← read_nan] at h
      unfold Ieee.Format.order
      cases hr : Ieee.double.read a <;> rw [hr] at h <;> simp [Ieee.Datum.isNaN] at h <;> simp [Ieee.Datum.order]
    simp [feq, ford, this]
  · rw [val_none h]; rfl

theorem val_eq_iff {a b : Nat} : val a = val b ↔ (a = b ∨ nanB a = true ∧ nanB b = true) := by
  unfold val
  cases ha : nanB a <;> cases hb : nanB b <;> simp
  · intro e; subst e; rw [ha] at hb; cases hb
  · intro e; subst e; rw [ha] at hb; cases hb
/-- Are two values the same? -/
def same (x y : Option Nat) : Bool := decide (x = y)
def csame (x y : CV) : Bool := same x.1 y.1 && same x.2 y.2
theorem same_val (a b : Nat) : same (val a) (val b) = ((a : Int) == (b : Int) || (nanB a && nanB b)) := by
  unfold same
  rw [Bool.eq_iff_iff, decide_eq_true_eq, val_eq_iff]
  simp only [Bool.or_eq_true, beq_iff_eq, Bool.and_eq_true]
  constructor
  · rintro (h | h)
    · exact .inl (by omega)
    · exact .inr h
  · rintro (h | h)
    · exact .inl (by omega)
    · exact .inr h

theorem rSameReal_any (a b : Nat) (w : World) :
    Calls Try.prog 26 #[.float .f64 a, .float .f64 b] w fun e w' => e = .returned (.bool (same (val a) (val b))) ∧ w = w' := by
  have ha := feq_self a
  have hb := feq_self b
  rw [same_val]
  cases h1 : nanB a <;> cases h2 : nanB b
  all_goals
    rw [h1] at ha
    rw [h2] at hb
    go_enter Try.func26, Try.ntmps26
    go_wp2
    go_ret
    exact ⟨by simp, rfl⟩
theorem kSameReal_any (a b : Nat) (w : World) :
    Calls Try.prog 81 #[.float .f64 a, .float .f64 b] w fun e w' => e = .returned (.bool (same (val a) (val b))) ∧ w = w' := by
  have ha := feq_self a
  have hb := feq_self b
  rw [same_val]
  cases h0 : ((a : Int) == (b : Int)) <;> cases h1 : nanB a <;> cases h2 : nanB b
  all_goals
    rw [h1] at ha
    rw [h2] at hb
    go_enter Try.func81, Try.ntmps81
    go_wp2
    go_ret
    exact ⟨by simp, rfl⟩
theorem rSame_any (a b c d : Nat) (w : World) :
    Calls Try.prog 25 #[.complex .f64 a b, .complex .f64 c d] w fun e w' => e = .returned (.bool (csame (cv a b) (cv c d))) ∧ w = w' := by
  unfold csame cv
  cases h0 : same (val a) (val c)
  all_goals
    go_enter Try.func25, Try.ntmps25
    go_wp2_with (first | (go_at_call 26; refine (rSameReal_any _ _ _).mono ?_; rintro e w' ⟨rfl, rfl⟩))
    go_ret
    exact ⟨by simp, rfl⟩
theorem kSame_any (a b c d : Nat) (w : World) :
    Calls Try.prog 80 #[.complex .f64 a b, .complex .f64 c d] w fun e w' => e = .returned (.bool (csame (cv a b) (cv c d))) ∧ w = w' := by
  unfold csame cv
  cases h0 : same (val a) (val c)
  all_goals
    go_enter Try.func80, Try.ntmps80
    go_wp2_with (first | (go_at_call 81; refine (kSameReal_any _ _ _).mono ?_; rintro e w' ⟨rfl, rfl⟩))
    go_ret
    exact ⟨by simp, rfl⟩

theorem Dr.row {w w' : World} (h : Dr w w') {a : Option Addr} {xs : List Value} (hr : Row w a xs) : Row w' a xs := by
  obtain ⟨n, rfl⟩ := h
  exact hr

/-- A mark. -/
def markV (k i : Int) : Option Nat := fsub (val (ofInt (-1000 * k - i))) (val 4620130267728707584)
theorem markReals_any (k i : Int) (w : World) (hk0 : 0 ≤ k) (hk : k ≤ 1000) (hi0 : 0 ≤ i) (hi : i ≤ 9007199254740992) :
    Calls Try.prog 47 #[.int .i64 k, .int .i64 i] w (RetF w (markV k i)) := by
  unfold markV ofInt
  go_enter Try.func47, Try.ntmps47
  go_wp2_with (first | ((with_reducible refine upon_fadd ?_); intro r n hr hl) | ((with_reducible refine upon_fsub ?_); intro r n hr hl) | ((with_reducible refine upon_fmul ?_); intro r n hr hl) | ((with_reducible refine upon_fdiv ?_); intro r n hr hl) | ((with_reducible refine upon_fmax (by assumption) (by assumption) ?_); intro r n hr hl) | ((with_reducible refine upon_fmin (by assumption) (by assumption) ?_); intro r n hr hl))
  go_ret
  exact ⟨_, rfl, (by first | with_reducible exact Dr.mk _ _ | with_reducible exact Dr.refl _), by assumption, (by first | with_reducible assumption | with_reducible exact isW_0 | with_reducible exact isW_inf)⟩

set_option maxHeartbeats 1000000 in
theorem Number_any (a b : Nat) (w : World) :
    Calls Try.prog 16 #[.agg #[.int .u64 a, .int .u64 b]] w fun e w' => e = .returned (.complex .f64 a b) ∧ Below w.heap.size w w' := by
  go_enter Try.func16, Try.ntmps16
  go_wp2
  go_quiet (fail)
  go_wp2
  go_ret
  exact ⟨rfl, below_drewN' ((Below.refl _ _).alloc (Nat.le_refl _) _) _⟩
end Go.Proofs.Ytnedjhoefmmelaa
