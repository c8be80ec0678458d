/- Sameness of reals and numbers, numbers out of bits, the marks: the small functions of the kit and of the reference. Conditions: words have 64 bits. -/
import Derived.Test.YtfalbdlfopfgcaaGreatDoorParts
import Derived.Deep.RegionWith
import Derived.BigRegion
namespace Go.Proofs.YtfalbdlfopfgcaaGreatDoor
open Go.RowKit

theorem feq_self (a : Nat) : feq (val a) (val a) = !nanB a := by
  cases h : nanB a
  · rw [val_some h]
    have : Ieee.double.order a a = some .eq := by
      rw [← read_nan] at h
      unfold Ieee.Format.order
      cases hr : Ieee.double.read a <;> rw [hr] at h <;> simp [Ieee.Datum.isNaN] at h <;> simp [Ieee.Datum.order]
    simp [feq, ford, this]
  · rw [val_none h]; rfl

theorem val_eq_iff {a b : Nat} : val a = val b ↔ (a = b ∨ nanB a = true ∧ nanB b = true) := by
  unfold val
  cases ha : nanB a <;> cases hb : nanB b <;> simp
  · intro e; subst e; rw [ha] at hb; cases hb
  · intro e; subst e; rw [ha] at hb; cases hb
/-- Are two values the same? -/
def same (x y : Option Nat) : Bool := decide (x = y)
def csame (x y : CV) : Bool := same x.1 y.1 && same x.2 y.2
theorem same_val (a b : Nat) : same (val a) (val b) = ((a : Int) == (b : Int) || (nanB a && nanB b)) := by
  unfold same
  rw [Bool.eq_iff_iff, decide_eq_true_eq, val_eq_iff]
  simp only [Bool.or_eq_true, beq_iff_eq, Bool.and_eq_true]
  constructor
  · rintro (h | h)
    · exact .inl (by omega)
    · exact .inr h
  · rintro (h | h)
    · exact .inl (by omega)
    · exact .inr h

theorem rSameReal_any (a b : Nat) (w : World) :
    Calls Tryz.prog 31 #[.float .f64 a, .float .f64 b] w fun e w' => e = .returned (.bool (same (val a) (val b))) ∧ w = w' := by
  have ha := feq_self a
  have hb := feq_self b
  rw [same_val]
  cases h1 : nanB a <;> cases h2 : nanB b
  all_goals
    rw [h1] at ha
    rw [h2] at hb
    go_enter Tryz.func31, Tryz.ntmps31
    go_wp2
    go_ret
    exact ⟨by simp, rfl⟩
theorem Dr.row {w w' : World} (h : Dr w w') {a : Option Addr} {xs : List Value} (hr : Row w a xs) : Row w' a xs := by
  obtain ⟨n, rfl⟩ := h
  exact hr

/-- A mark. -/
def markV (k i : Int) : Option Nat := fsub (val (ofInt (-1000 * k - i))) (val 4620130267728707584)
end Go.Proofs.YtfalbdlfopfgcaaGreatDoor

