/- The octaves between two reals, on both sides. Condition: words have 64 bits. -/
import Derived.Test.YtfalbdlfopfgcaaGreatDoorWp
import Derived.Test.YtfalbdlfopfgcaaGreatDoorLives
namespace Go.Proofs.YtfalbdlfopfgcaaGreatDoor
open Go.RowKit

def octsE (x y : Nat) : Int := if aboveE (val x) = 0 then aboveE (val y) else aboveE (val x)
def octsM (x y : Nat) : Int := if aboveE (val x) = 0 ∧ aboveE (val y) = 0 then octM y - octM x else 0
theorem octM_b (x : Nat) (hx : IsW x) : -1100 ≤ octM x ∧ octM x ≤ 4000 := by
  unfold octM octK
  unfold IsW at hx
  have := bitLen_le x
  split
  · split <;> omega
  · omega
set_option maxRecDepth 100000 in
set_option maxHeartbeats 4000000 in
theorem Octaves_any (x y : Nat) (w : World) (hx : IsW x) (hy : IsW y) : Calls Tryz.prog 17 #[.float .f64 x, .float .f64 y] w fun e w' => e = .returned (.tuple #[.int .i64 (octsM x y), .int .i64 (octsE x y)]) ∧ Dr w w' := by
  have b1 := octM_b x hx
  have b2 := octM_b y hy
  have HX := hid fun w => Octave_any x w hx
  have HY := hid fun w => Octave_any y w hy
  obtain ⟨E, hE⟩ : ∃ E, E = octsE x y := ⟨_, rfl⟩
  obtain ⟨M, hM⟩ : ∃ M, M = octsM x y := ⟨_, rfl⟩
  rw [← hE, ← hM]
  unfold octsE at hE
  unfold octsM at hM
  obtain ⟨ex, hex⟩ : ∃ e, e = aboveE (val x) := ⟨_, rfl⟩
  obtain ⟨ey, hey⟩ : ∃ e, e = aboveE (val y) := ⟨_, rfl⟩
  obtain ⟨mx, hmx⟩ : ∃ e, e = octM x := ⟨_, rfl⟩
  obtain ⟨my, hmy⟩ : ∃ e, e = octM y := ⟨_, rfl⟩
  rw [← hex, ← hmx] at HX
  rw [← hey, ← hmy] at HY
  rw [← hex, ← hey] at hE hM
  rw [← hmx, ← hmy] at hM
  rw [← hmx] at b1
  rw [← hmy] at b2
  clear hex hey hmx hmy
  by_cases h1 : ex = 0
  · by_cases h2 : ey = 0
    · rw [if_pos h1] at hE
      rw [if_pos ⟨h1, h2⟩] at hM
      replace hE := hid hE
      replace hM := hid hM
      subst h1 h2
      go_enter Tryz.func17, Tryz.ntmps17
      go_wp2_with (go_at_call 13; first | ((with_reducible refine (HX.out _).mono ?_); rintro E1 w1 ⟨rfl, n1, rfl⟩) | ((with_reducible refine (HY.out _).mono ?_); rintro E1 w1 ⟨rfl, n1, rfl⟩))
      go_ret2
      exact ⟨by rw [hE.out, hM.out]; rfl, (by repeat (first | with_reducible exact Dr.refl _ | with_reducible refine Dr.more ?_ _))⟩
    · rw [if_pos h1] at hE
      rw [if_neg (fun h => h2 h.2)] at hM
      replace hE := hid hE
      replace hM := hid hM
      have g2 : (ey != 0) = true := by simp [h2]
      subst h1
      clear h2
      go_enter Tryz.func17, Tryz.ntmps17
      go_wp2_with (go_at_call 13; first | ((with_reducible refine (HX.out _).mono ?_); rintro E1 w1 ⟨rfl, n1, rfl⟩) | ((with_reducible refine (HY.out _).mono ?_); rintro E1 w1 ⟨rfl, n1, rfl⟩))
      go_ret2
      exact ⟨by rw [hE.out, hM.out]; rfl, (by repeat (first | with_reducible exact Dr.refl _ | with_reducible refine Dr.more ?_ _))⟩
  · rw [if_neg h1] at hE
    rw [if_neg (fun h => h1 h.1)] at hM
    replace hE := hid hE
    replace hM := hid hM
    have g2 : (ex != 0) = true := by simp [h1]
    clear h1
    go_enter Tryz.func17, Tryz.ntmps17
    go_wp2_with (go_at_call 13; first | ((with_reducible refine (HX.out _).mono ?_); rintro E1 w1 ⟨rfl, n1, rfl⟩) | ((with_reducible refine (HY.out _).mono ?_); rintro E1 w1 ⟨rfl, n1, rfl⟩))
    go_ret2
    exact ⟨by rw [hE.out, hM.out]; rfl, (by repeat (first | with_reducible exact Dr.refl _ | with_reducible refine Dr.more ?_ _))⟩
set_option maxRecDepth 100000 in
set_option maxHeartbeats 4000000 in
theorem rOctaves_any (x y : Nat) (w : World) (hx : IsW x) (hy : IsW y) : Calls Tryz.prog 18 #[.float .f64 x, .float .f64 y] w fun e w' => e = .returned (.tuple #[.int .i64 (octsM x y), .int .i64 (octsE x y)]) ∧ Below w.heap.size w w' := by
  have b1 := octM_b x hx
  have b2 := octM_b y hy
  have HX := hid fun w => rOctave_any x w hx
  have HY := hid fun w => rOctave_any y w hy
  obtain ⟨E, hE⟩ : ∃ E, E = octsE x y := ⟨_, rfl⟩
  obtain ⟨M, hM⟩ : ∃ M, M = octsM x y := ⟨_, rfl⟩
  rw [← hE, ← hM]
  unfold octsE at hE
  unfold octsM at hM
  obtain ⟨ex, hex⟩ : ∃ e, e = aboveE (val x) := ⟨_, rfl⟩
  obtain ⟨ey, hey⟩ : ∃ e, e = aboveE (val y) := ⟨_, rfl⟩
  obtain ⟨mx, hmx⟩ : ∃ e, e = octM x := ⟨_, rfl⟩
  obtain ⟨my, hmy⟩ : ∃ e, e = octM y := ⟨_, rfl⟩
  rw [← hex, ← hmx] at HX
  rw [← hey, ← hmy] at HY
  rw [← hex, ← hey] at hE hM
  rw [← hmx, ← hmy] at hM
  rw [← hmx] at b1
  rw [← hmy] at b2
  clear hex hey hmx hmy
  by_cases h1 : ex = 0
  · by_cases h2 : ey = 0
    · rw [if_pos h1] at hE
      rw [if_pos ⟨h1, h2⟩] at hM
      replace hE := hid hE
      replace hM := hid hM
      subst h1 h2
      go_enter Tryz.func18, Tryz.ntmps18
      go_wp2_with (go_at_call 14; first | ((with_reducible refine (HX.out _).mono ?_); rintro E1 w1 ⟨rfl, hb1⟩) | ((with_reducible refine (HY.out _).mono ?_); rintro E1 w2 ⟨rfl, hb2⟩))
      go_ret2
      exact ⟨by rw [hE.out, hM.out]; rfl, bl2 hb1 hb2⟩
    · rw [if_pos h1] at hE
      rw [if_neg (fun h => h2 h.2)] at hM
      replace hE := hid hE
      replace hM := hid hM
      have g2 : (ey != 0) = true := by simp [h2]
      subst h1
      clear h2
      go_enter Tryz.func18, Tryz.ntmps18
      go_wp2_with (go_at_call 14; first | ((with_reducible refine (HX.out _).mono ?_); rintro E1 w1 ⟨rfl, hb1⟩) | ((with_reducible refine (HY.out _).mono ?_); rintro E1 w2 ⟨rfl, hb2⟩))
      go_ret2
      exact ⟨by rw [hE.out, hM.out]; rfl, bl2 hb1 hb2⟩
  · rw [if_neg h1] at hE
    rw [if_neg (fun h => h1 h.1)] at hM
    replace hE := hid hE
    replace hM := hid hM
    have g2 : (ex != 0) = true := by simp [h1]
    clear h1
    go_enter Tryz.func18, Tryz.ntmps18
    go_wp2_with (go_at_call 14; first | ((with_reducible refine (HX.out _).mono ?_); rintro E1 w1 ⟨rfl, hb1⟩) | ((with_reducible refine (HY.out _).mono ?_); rintro E1 w2 ⟨rfl, hb2⟩))
    go_ret2
    exact ⟨by rw [hE.out, hM.out]; rfl, hb1⟩
end Go.Proofs.YtfalbdlfopfgcaaGreatDoor

