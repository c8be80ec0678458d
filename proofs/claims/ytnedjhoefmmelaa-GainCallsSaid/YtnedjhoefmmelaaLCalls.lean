/- GainCalls: the walk: the statement's function returns true and leaves what was there. Condition: words have 64 bits. -/
import Derived.Test.YtnedjhoefmmelaaLives
import Derived.Test.YtnedjhoefmmelaaPlain
namespace Go.Proofs.Ytnedjhoefmmelaa
open Go.RowKit

theorem csame_of {x y u v : Nat} {z : CV} (h1 : cv x y = z) (h2 : cv u v = z) : csame (cv x y) (cv u v) = true := by rw [h1, h2]; simp [csame, same]
theorem same_of {x y : Nat} {z : Option Nat} (h1 : val x = z) (h2 : val y = z) : same (val x) (val y) = true := by rw [h1, h2]; simp [same]

set_option maxRecDepth 100000 in
set_option maxHeartbeats 8000000 in
theorem calls_walk (a b c d : Nat) (w : World) (ha : IsW a) (hb : IsW b) :
    Calls Try.prog 5 #[.agg #[.int .u64 a, .int .u64 b], .agg #[.int .u64 c, .int .u64 d]] w fun e w' => e = .returned (.bool true) ∧ Below w.heap.size w w' := by
  obtain ⟨n1, g1, h1, k1⟩ : ∃ n g, Hid (∀ w, Calls Try.prog 17 #[.complex .f64 a b, .complex .f64 c d] w (RetCE w g n)) ∧ Hid (∀ w, Calls Try.prog 18 #[.complex .f64 a b, .complex .f64 c d] w (RetCE w g n)) :=
    ⟨_, _, fun w => Of_any a b c d w, fun w => rOf_any a b c d w⟩
  obtain ⟨n2, g2, h2, k2⟩ : ∃ n g, Hid (∀ w, Calls Try.prog 19 #[.complex .f64 a b] w (RetFE w g n)) ∧ Hid (∀ w, Calls Try.prog 20 #[.complex .f64 a b] w (RetFE w g n)) :=
    ⟨_, _, fun w => Size_any a b w, fun w => by have h := sz_same ha hb; rw [h.1, h.2]; exact rSize_any a b w⟩
  obtain ⟨n3, g3, h3, k3⟩ : ∃ n g, Hid (∀ w, Calls Try.prog 21 #[.complex .f64 a b] w (RetFE w g n)) ∧ Hid (∀ w, Calls Try.prog 22 #[.complex .f64 a b] w (RetFE w g n)) :=
    ⟨_, _, fun w => Power_any a b w, fun w => rPower_any a b w⟩
  obtain ⟨n4, g4, h4, k4⟩ : ∃ n g, Hid (∀ w, Calls Try.prog 23 #[.complex .f64 a b] w (RetFE w g n)) ∧ Hid (∀ w, Calls Try.prog 24 #[.complex .f64 a b] w (RetFE w g n)) :=
    ⟨_, _, fun w => Lag_any a b w, fun w => by have h := lag_same ha hb; rw [h]; exact rLag_any a b w⟩
  go_enter Try.func5, Try.ntmps5
  go_wp2_with fail
  go_region_with (go_at_call 16; refine (Number_any _ _ _).mono ?_; rintro e w1 ⟨rfl, hb1⟩; try (have hc1 := hb1.cell (p := ⟨w.heap.size + 1, 0, none⟩) (by simp); have hc2 := hb1.cell (p := ⟨w.heap.size + 1, 1, none⟩) (by simp); have hz := hb1.size; have HB := hid hb1; clear hb1; simp at hz hc1 hc2))
  all_goals
    have hbb : Below w.heap.size w w1 := ((((Below.refl w.heap.size w).alloc (Nat.le_refl _) _).alloc (by simp) _).drew.trans (HB.out.mono (by simp; omega))).trans (hb1.mono (by omega))
    have BB := hid hbb
    clear hc1 hc2 HB hb1 hbb hz
    go_wp2_with (first
      | (go_at_call 17; refine (h1.out _).mono ?_; rintro e w' ⟨x, y, rfl, ⟨n, rfl⟩, hr, hx, hy⟩; have R1 := hid hr; clear hr)
      | (go_at_call 18; refine (k1.out _).mono ?_; rintro e w' ⟨u, v, rfl, ⟨n, rfl⟩, hr, hx, hy⟩; have S1 := hid hr; clear hr)
      | (go_at_call 19; refine (h2.out _).mono ?_; rintro e w' ⟨x, rfl, ⟨n, rfl⟩, hr, hx⟩; have R2 := hid hr; clear hr)
      | (go_at_call 20; refine (k2.out _).mono ?_; rintro e w' ⟨x, rfl, ⟨n, rfl⟩, hr, hx⟩; have S2 := hid hr; clear hr)
      | (go_at_call 21; refine (h3.out _).mono ?_; rintro e w' ⟨x, rfl, ⟨n, rfl⟩, hr, hx⟩; have R3 := hid hr; clear hr)
      | (go_at_call 22; refine (k3.out _).mono ?_; rintro e w' ⟨x, rfl, ⟨n, rfl⟩, hr, hx⟩; have S3 := hid hr; clear hr)
      | (go_at_call 23; refine (h4.out _).mono ?_; rintro e w' ⟨x, rfl, ⟨n, rfl⟩, hr, hx⟩; have R4 := hid hr; clear hr)
      | (go_at_call 24; refine (k4.out _).mono ?_; rintro e w' ⟨x, rfl, ⟨n, rfl⟩, hr, hx⟩; have S4 := hid hr; clear hr))
    refine (lives_any _).mono ?_
    rintro e w5 ⟨rfl, hb5⟩
    have B5 := hid (below_of_drewN hb5)
    clear hb5
    go_wp2_with (first
      | (go_at_call 25; refine (rSame_any _ _ _ _ _).mono ?_; rintro e w' ⟨rfl, rfl⟩; rw [csame_of R1.out S1.out])
      | (go_at_call 26; refine (rSameReal_any _ _ _).mono ?_; rintro e w' ⟨rfl, rfl⟩; first | rw [same_of R2.out S2.out] | rw [same_of R3.out S3.out] | rw [same_of R4.out S4.out]))
    go_ret
    exact ⟨rfl, BB.out.trans (B5.out.mono BB.out.size)⟩
end Go.Proofs.Ytnedjhoefmmelaa
