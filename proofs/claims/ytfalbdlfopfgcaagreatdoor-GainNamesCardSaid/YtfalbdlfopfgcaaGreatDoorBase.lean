/- What this program's own tables say: the functions without a body that are met, the types of the slices. No condition. -/
import Derived.Test.YtfalbdlfopfgcaaGreatDoorSl
import Derived.Test.YtfalbdlfopfgcaaGreatDoorRows
namespace Go.Proofs.YtfalbdlfopfgcaaGreatDoor
open Go.RowKit

@[go_sem high] theorem call_bits (x : Nat) (w : World) : (callFunc 42 #[.float .f64 x]).run Tryz.prog w = .ok (.value (.int .u64 x)) w :=
  run_callFunc_extern (e := Extern.MathFloatBits.float64bits) Tryz.func42 (by kernel_rfl) (by kernel_rfl) (by kernel_rfl) (by kernel_rfl) _ w
@[go_sem high] theorem call_frombits (n : Int) (w : World) : (callFunc 12 #[.int .u64 n]).run Tryz.prog w = .ok (.value (.float .f64 n.toNat)) w :=
  run_callFunc_extern (e := Extern.MathFloatBits.float64frombits) Tryz.func12 (by kernel_rfl) (by kernel_rfl) (by kernel_rfl) (by kernel_rfl) _ w

theorem info_f64 : (Tryz.prog.info? 29).map (fun i => (i.zero, i.size, i.bytes)) = some (some (.float .f64 0), 1, 8) := by kernel_rfl
theorem info_int : (Tryz.prog.info? 3).map (fun i => (i.zero, i.size, i.bytes)) = some (some (.int .i64 0), 1, 8) := by kernel_rfl
end Go.Proofs.YtfalbdlfopfgcaaGreatDoor

