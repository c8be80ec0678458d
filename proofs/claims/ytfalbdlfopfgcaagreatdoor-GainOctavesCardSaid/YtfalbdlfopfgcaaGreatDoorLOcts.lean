/- GainOctaves, walked. Condition: the tables lie there, words have 64 bits. -/
import Derived.Test.YtfalbdlfopfgcaaGreatDoorWq
namespace Go.Proofs.YtfalbdlfopfgcaaGreatDoor
open Go.RowKit

set_option maxRecDepth 100000 in
set_option maxHeartbeats 4000000 in
theorem octaves_walk (W : World) (tb : Tabs W) (ti : Lib.TabIs Tryz.prog W "internal/strconv.uint64pow10" .u64 Lib.pow10Tab) (a b : Nat) (ha : IsW a) (hb : IsW b) : Calls Tryz.prog 4 #[.int .u64 a, .int .u64 b] W fun e w' => e = .returned (.bool true) ∧ Below W.heap.size W w' := by
  have HA := hid fun w => Octave_any a w ha
  have HB := hid fun w => rOctave_any a w ha
  have HC := hid fun w (h : Below W.heap.size W w) => Decade_any a w (tb.below h) (tabIs_below ti h)
  have HD := hid fun w => rDecade_any a w
  have HE := hid fun w => Octaves_any a b w ha hb
  have HF := hid fun w => rOctaves_any a b w ha hb
  go_enter Tryz.func4, Tryz.ntmps4
  go_wp2_with (first
    | (go_at_call 13; (with_reducible refine (HA.out _).mono ?_); rintro E1 w1 ⟨rfl, n1, rfl⟩)
    | (go_at_call 14; (with_reducible refine (HB.out _).mono ?_); rintro E2 w2 ⟨rfl, hb2⟩; have c2 := bl2 (bldn (Below.refl _ W) n1) hb2)
    | (go_at_call 15; (with_reducible refine (HC.out _ c2).mono ?_); rintro E3 w3 ⟨rfl, hb3⟩; have c3 := bl2 c2 hb3)
    | (go_at_call 16; (with_reducible refine (HD.out _).mono ?_); rintro E4 w4 ⟨rfl, hb4⟩; have c4 := bl2 c3 hb4)
    | (go_at_call 17; (with_reducible refine (HE.out _).mono ?_); rintro E5 w5 ⟨rfl, n5, rfl⟩)
    | (go_at_call 18; (with_reducible refine (HF.out _).mono ?_); rintro E6 w6 ⟨rfl, hb6⟩; have c6 := bl2 (bldn c4 n5) hb6)
    | (go_at_call 19; (with_reducible refine (lives_any _).mono ?_); rintro E7 w7 ⟨rfl, hb7⟩; have c7 := bl2 c6 hb7))
  go_ret
  exact ⟨rfl, c7⟩
end Go.Proofs.YtfalbdlfopfgcaaGreatDoor

