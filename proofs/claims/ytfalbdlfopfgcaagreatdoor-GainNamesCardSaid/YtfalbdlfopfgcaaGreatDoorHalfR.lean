/- Half power, in the reference: what it gives. Conditions: words have 64 bits; the length as the reach has it. -/
import Derived.Test.YtfalbdlfopfgcaaGreatDoorHalf
namespace Go.Proofs.YtfalbdlfopfgcaaGreatDoor
open Go.RowKit

def rHalfA (w : World) (l : List Nat) (i : Value) (wr : World) : Prop := ∃ k : Nat, k ≤ l.length ∧ i = .int .i64 k ∧ ((l.take k).map val).all fin = true ∧ Dr w wr
def rHalfB (w : World) (l : List Nat) (best i : Value) (wr : World) : Prop := ∃ (k r : Nat), k ≤ l.length ∧ i = .int .i64 k ∧ best = .float .f64 r ∧
  val r = halfM ((l.take k).map val) ∧ IsW r ∧ (((l.take k).map val).any fun x => flt x (val 0)) = false ∧ Dr w wr

end Go.Proofs.YtfalbdlfopfgcaaGreatDoor

