/- The examples of the chapter on gains that each statement asks first: they hold. No condition. -/
import Derived.Test.YtfalbdlfopfgcaaGreatDoorGain
import Derived.Test.YtfalbdlfopfgcaaGreatDoorHalfR
import Derived.Test.YtfalbdlfopfgcaaGreatDoorOct
namespace Go.Proofs.YtfalbdlfopfgcaaGreatDoor
open Go.RowKit

theorem Sl_lit (w : World) (e : Nat) (cs : List Value) : Sl (w.alloc (.cells cs.toArray e)) (.slice (some ⟨w.heap.size, 0, none⟩) cs.length cs.length) cs := by
  refine ⟨some ⟨w.heap.size, 0, none⟩, cs.length, rfl, fun _ => ⟨w.heap.size, 0, rfl, fun i x hx => ?_⟩, (fun h => by cases h), Nat.le_refl _⟩
  rw [Nat.zero_add, World.cell?_alloc_new]
  simpa using hx

theorem lv1 : ofE (cv 0 4611686018427387904) (cv 4607182418800017408 0) = 0 ∧ ofG (cv 0 4611686018427387904) (cv 4607182418800017408 0) = (some 0, some 4611686018427387904) := by decide +kernel
def lvL : List Nat := [4607182418800017408, 4616189618054758400, 4613937818241073152, 4607182418800017408, 4611686018427387904, 0]
theorem lv2 : halfE (lvL.map val) = 0 ∧ halfL (lvL.map val) = [1, 3, 4, 5] := by decide +kernel
theorem lv2w : ∀ b ∈ lvL, IsW b := by unfold IsW; decide +kernel
theorem lv3 : octM 4613937818241073152 = 1 ∧ aboveE (val 4613937818241073152) = 0 := by decide +kernel

theorem lv_Of (w : World) : Calls Tryz.prog 20 #[.complex .f64 0 4611686018427387904, .complex .f64 4607182418800017408 0] w (RetCE w (some 0, some 4611686018427387904) 0) := by
  have h := Of_any 0 4611686018427387904 4607182418800017408 0 w
  rw [lv1.1, lv1.2] at h
  exact h
theorem lv_Half (v : Value) (w : World) (hs : Sl w v (lvL.map F)) : Calls Tryz.prog 25 #[v] w (RetLE w 3 ([1, 3, 4, 5].map I) 0) := by
  have h := Half_any lvL v w (by decide) lv2w hs
  rw [lv2.1, lv2.2] at h
  exact h
theorem lv_Oct (w : World) : Calls Tryz.prog 13 #[.float .f64 4613937818241073152] w fun e w' => e = .returned (.tuple #[.int .i64 1, .int .i64 0]) ∧ Dr w w' := by
  have h := Octave_any 4613937818241073152 w (by unfold IsW; omega)
  rw [lv3.1, lv3.2] at h
  exact h
theorem lv_same (va vb : Value) (w : World) (ha : Sl w va ([1, 3, 4, 5].map I)) (hb : Sl w vb ([1, 3, 4, 5].map I)) : Calls Tryz.prog 51 #[va, vb] w (RetB w true) :=
  SameInts_any [1, 3, 4, 5] [1, 3, 4, 5] va vb w (by decide) (by decide) ha hb
theorem lv_feq : (feq (some 0) (val 0) && feq (some 4611686018427387904) (val 4611686018427387904)) = true := by decide +kernel

set_option maxRecDepth 100000 in
theorem lives_any (w : World) : Calls Tryz.prog 19 #[] w fun e w' => e = .returned (.bool true) ∧ Below w.heap.size w w' := by
  have hq1 : feq (some 0) (val 0) = true := by decide +kernel
  have hq2 : feq (some 4611686018427387904) (val 4611686018427387904) = true := by decide +kernel
  go_enter Tryz.func19, Tryz.ntmps19
  go_wp2_with (go_at_call 20; refine (lv_Of _).mono ?_; rintro e w' ⟨x, y, rfl, ⟨n, rfl⟩, hr, hx, hy⟩)
  obtain ⟨hr1, hr2⟩ := Prod.mk.inj hr
  refine (lv_Half _ _ (by exact Sl_lit (w.drewN n) 29 (lvL.map F))).mono ?_
  rintro e w1 ⟨v, rfl, hown, hb⟩
  have hsl := Sl.of_owns hown
  have hb0 : Below w.heap.size w w1 := (below_drewN' ((Below.refl w.heap.size w).alloc (Nat.le_refl _) (.cells (lvL.map F).toArray 29)) n).trans (hb.mono (by simp))
  have hz : w.heap.size ≤ w1.heap.size := hb0.size
  clear hown hb hr hx hy
  go_wp2_with (go_at_call 13; refine (lv_Oct _).mono ?_; rintro e w' ⟨rfl, n2, rfl⟩)
  refine (lv_same _ _ _ (by exact hsl.below ((below_drewN' (Below.refl _ w1) n2).alloc (by simp) _)) (by exact Sl_lit (w1.drewN n2) 3 ([1, 3, 4, 5].map I))).mono ?_
  rintro e w3 ⟨rfl, n3, rfl⟩
  go_wp2
  go_ret
  exact ⟨rfl, below_drewN' ((below_drewN' hb0 n2).alloc (by simpa using hz) _) n3⟩
end Go.Proofs.YtfalbdlfopfgcaaGreatDoor

