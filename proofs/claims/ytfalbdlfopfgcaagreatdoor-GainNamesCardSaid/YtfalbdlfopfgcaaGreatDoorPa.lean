/- internal/strconv's unrounded scaling: what the small functions and uscale tell. Condition: the scaler's cells. -/
import Derived.Test.YtfalbdlfopfgcaaGreatDoorBase
import Derived.Test.YtfalbdlfopfgcaaGreatDoorMod
import Derived.Test.YtfalbdlfopfgcaaGreatDoorShelf
namespace Go.Proofs.YtfalbdlfopfgcaaGreatDoor
open Go.RowKit

@[go_sem high] theorem call_ifrombits (n : Int) (w : World) : (callFunc 152 #[.int .u64 n]).run Tryz.prog w = .ok (.value (.float .f64 n.toNat)) w :=
  run_callFunc_extern (e := Extern.MathFloatBits.float64frombits) Tryz.func152 (by kernel_rfl) (by kernel_rfl) (by kernel_rfl) (by kernel_rfl) _ w
theorem bool2u_any (b : Bool) (w : World) : Calls Tryz.prog 151 #[.bool b] w fun e w' => e = .returned (.int .u64 (if b then 1 else 0)) ∧ w' = w := by
  cases b
  all_goals
    go_enter Tryz.func151, Tryz.ntmps151
    go_wp2
    go_ret
    exact ⟨rfl, rfl⟩
theorem bool2u_v (b : Bool) (z : Int) (h : z = if b then 1 else 0) (w : World) : Calls Tryz.prog 151 #[.bool b] w fun e w' => e = .returned (.int .u64 z) ∧ w' = w := by
  rw [h]
  exact bool2u_any b w
theorem bool2i_any (b : Bool) (w : World) : Calls Tryz.prog 156 #[.bool b] w fun e w' => e = .returned (.int .i64 (if b then 1 else 0)) ∧ w' = w := by
  cases b
  all_goals
    go_enter Tryz.func156, Tryz.ntmps156
    go_wp2
    go_ret
    exact ⟨rfl, rfl⟩
theorem log2Pow10_any (p : Int) (h1 : -400 ≤ p) (h2 : p ≤ 400) (w : World) : Calls Tryz.prog 172 #[.int .i64 p] w fun e w' => e = .returned (.int .i64 (p * 108853 / 32768)) ∧ w' = w := by
  have hw : IntKind.i64.wrap (p * 108853) = p * 108853 := IntWalk.i64_in _ (by omega)
  go_enter Tryz.func172, Tryz.ntmps172
  go_wp2
  go_ret
  exact ⟨rfl, rfl⟩
theorem unmin_any (w : World) : Calls Tryz.prog 175 #[.int .u64 9007199254740992] w fun e w' => e = .returned (.int .u64 36028797018963966) ∧ w' = w := by
  go_enter Tryz.func175, Tryz.ntmps175
  go_wp2
  go_ret
  exact ⟨rfl, rfl⟩
theorem uround_any (u : Nat) (hu : u < 18446744073709551600) (w : World) : Calls Tryz.prog 177 #[.int .u64 u] w fun e w' => e = .returned (.int .u64 ((u + 1 + u / 4 % 2) / 4 : Nat)) ∧ w' = w := by
  go_enter Tryz.func177, Tryz.ntmps177
  have h1 : bits .and .u64 ((u : Int) / 4) 1 = (u : Int) / 4 % 2 := by
    have h := bits_and_u64_nat (u / 4) 1 (by omega) (by omega)
    rw [Nat.and_one_is_mod] at h
    have e : ((u / 4 : Nat) : Int) = (u : Int) / 4 := by omega
    rw [e] at h
    rw [show (1 : Int) = ((1 : Nat) : Int) from rfl, h]
    omega
  have h2 : IntKind.u64.wrap ((u : Int) + 1 + (u : Int) / 4 % 2) = (u : Int) + 1 + (u : Int) / 4 % 2 := by rw [IntKind.wrap_u64]; omega
  go_wp2
  go_ret
  refine ⟨?_, rfl⟩
  show Ending.returned (.int .u64 (((u : Int) + 1 + (u : Int) / 4 % 2) / 4)) = _
  rw [show ((u : Int) + 1 + (u : Int) / 4 % 2) / 4 = (((u + 1 + u / 4 % 2) / 4 : Nat) : Int) by omega]
theorem and63 (s : Nat) (hs : s < 64) : bits .and .i64 (s : Int) 63 = (s : Int) := by
  have h : ∀ s : Fin 64, bits .and .i64 (s.val : Int) 63 = (s.val : Int) := by decide +kernel
  exact h ⟨s, hs⟩
def uscN (x hi lo s : Nat) : Nat :=
  if x * hi / 18446744073709551616 / 2 ^ s * 2 ^ s ≠ x * hi / 18446744073709551616 then (x * hi / 18446744073709551616 / 2 ^ s) ||| 1
  else ((x * hi / 18446744073709551616 + 18446744073709551616 - (if x * hi % 18446744073709551616 < x * lo / 18446744073709551616 then 1 else 0)) % 18446744073709551616 / 2 ^ s) ||| (if 1 < (x * hi % 18446744073709551616 + 18446744073709551616 - x * lo / 18446744073709551616) % 18446744073709551616 then 1 else 0)
set_option maxRecDepth 100000 in
set_option maxHeartbeats 1000000 in
theorem uscale_any (x hi lo s : Nat) (hx : x < 18446744073709551616) (hh : hi < 18446744073709551616) (hl : lo < 18446744073709551616) (hs : s < 64) (b : Nat) (w : World) (c0 : w.cell? ⟨b, 0, none⟩ = some (.int .u64 hi)) (c1 : w.cell? ⟨b, 1, none⟩ = some (.int .u64 lo)) (c2 : w.cell? ⟨b, 2, none⟩ = some (.int .i64 s)) :
    Calls Tryz.prog 174 #[.int .u64 x, .pointer (some ⟨b, 0, none⟩)] w fun e w' => e = .returned (.int .u64 (uscN x hi lo s)) ∧ Dr w w' := by
  obtain ⟨H, hH⟩ : ∃ H, H = x * hi / 18446744073709551616 := ⟨_, rfl⟩
  obtain ⟨M, hM⟩ : ∃ M, M = x * hi % 18446744073709551616 := ⟨_, rfl⟩
  obtain ⟨T, hT⟩ : ∃ T, T = x * lo / 18446744073709551616 := ⟨_, rfl⟩
  have HM := hid fun w => Tryz.bits_Mul64 x hi hx hh w
  have HM2 := hid fun w => Tryz.bits_Mul64 x lo hx hl w
  rw [← hH, ← hM] at HM
  rw [← hT] at HM2
  have hs1 := and63 s hs
  have hs0 : (0 : Int) ≤ (s : Int) := by omega
  have hHl : H < 18446744073709551616 := by
    rw [hH]
    have := Nat.mul_le_mul (Nat.le_of_lt_succ hx : x ≤ 18446744073709551615) (Nat.le_of_lt_succ hh : hi ≤ 18446744073709551615)
    omega
  have hMl : M < 18446744073709551616 := by rw [hM]; exact Nat.mod_lt _ (by decide)
  have hTl : T < 18446744073709551616 := by
    rw [hT]
    have := Nat.mul_le_mul (Nat.le_of_lt_succ hx : x ≤ 18446744073709551615) (Nat.le_of_lt_succ hl : lo ≤ 18446744073709551615)
    omega
  obtain ⟨U, hU⟩ : ∃ U, U = uscN x hi lo s := ⟨_, rfl⟩
  unfold uscN at hU
  rw [← hH, ← hM, ← hT] at hU
  rw [show uscN x hi lo s = U by rw [hU]; unfold uscN; rw [← hH, ← hM, ← hT]]
  clear hH hM hT hx hh hl
  obtain ⟨R, hR⟩ : ∃ R, R = H / 2 ^ s := ⟨_, rfl⟩
  obtain ⟨Q, hQ⟩ : ∃ Q, Q = R * 2 ^ s := ⟨_, rfl⟩
  rw [← hR, ← hQ] at hU
  have hQH : Q ≤ H := by rw [hQ, hR]; exact Nat.div_mul_le_self H (2 ^ s)
  have hRH : R ≤ H := by rw [hR]; exact Nat.div_le_self _ _
  have gR : (H : Int) / 2 ^ s = (R : Int) := by rw [hR]; push_cast; rfl
  have gQ : (R : Int) * 2 ^ s = (Q : Int) := by rw [hQ]; push_cast; rfl
  have gw : IntKind.u64.wrap (Q : Int) = (Q : Int) := by rw [IntKind.wrap_u64]; omega
  by_cases hq : Q = H
  · rw [if_neg (by simpa using hq)] at hU
    have g1 : ((Q : Int) != (H : Int)) = false := by simp [hq]
    obtain ⟨D, hD⟩ : ∃ D, D = (M + 18446744073709551616 - T) % 18446744073709551616 := ⟨_, rfl⟩
    rw [← hD] at hU
    have gD : IntKind.u64.wrap ((M : Int) - (T : Int)) = (D : Int) := by rw [IntKind.wrap_u64, hD]; omega
    obtain ⟨J, hJ⟩ : ∃ J, J = (H + 18446744073709551616 - (if M < T then 1 else 0)) % 18446744073709551616 := ⟨_, rfl⟩
    rw [← hJ] at hU
    obtain ⟨S, hS⟩ : ∃ S, S = J / 2 ^ s := ⟨_, rfl⟩
    rw [← hS] at hU
    have gS : (J : Int) / 2 ^ s = (S : Int) := by rw [hS]; push_cast; rfl
    have hJl : J < 18446744073709551616 := by rw [hJ]; exact Nat.mod_lt _ (by decide)
    have hSl : S ≤ J := by rw [hS]; exact Nat.div_le_self _ _
    have o1 := bits_or_u64_nat S 1 (by omega) (by omega)
    have o0 := bits_or_u64_nat S 0 (by omega) (by omega)
    have o1' : bits .or .u64 (S : Int) 1 = ((S ||| 1 : Nat) : Int) := o1
    have o0' : bits .or .u64 (S : Int) 0 = ((S ||| 0 : Nat) : Int) := o0
    have hM1 : M < T → IntKind.u64.wrap ((H : Int) - 1) = (J : Int) := fun h => by rw [if_pos h] at hJ; rw [IntKind.wrap_u64, hJ]; omega
    have hM0 : ¬ M < T → (H : Int) = (J : Int) := fun h => by rw [if_neg h] at hJ; omega
    by_cases hmt : M < T
    · have g2 : decide (M < T) = true := by simp; omega
      have g3 := hM1 hmt
      by_cases hd : 1 < D
      · have HB1 := fun w => bool2u_v true 1 rfl w
        have HB2 := fun w => bool2u_v true 1 rfl w
        have g4 := hid (show decide ((1 : Int) < (D : Int)) = true by simp; omega)
        rw [if_pos hd] at hU
        replace hU := hid hU
        replace HB1 := hid HB1
        replace HB2 := hid HB2
        clear hq hmt hd hM1 hM0 hJ hS hD hR hQ o1 o0
        go_enter Tryz.func174, Tryz.ntmps174
        go_upto_region 7 with (first
          | (go_at_call 63; first | ((with_reducible refine (HM.out _).mono ?_); rintro E1 w1 ⟨rfl, rfl⟩) | ((with_reducible refine (HM2.out _).mono ?_); rintro E1 w1 ⟨rfl, rfl⟩))
          | (go_at_call 151; (try rw [g2]); (with_reducible refine (HB1.out _).mono ?_); rintro E1 w1 ⟨rfl, rfl⟩))
        go_quiet ((go_at_call 151; rw [g4.out]; exact Calls.quiet_of_same (HB2.out _)))
        go_wp2
        go_ret
        rw [hU.out]
        exact ⟨rfl, Dr.mk _ _⟩
      · have HB1 := fun w => bool2u_v true 1 rfl w
        have HB2 := fun w => bool2u_v false 0 rfl w
        have g4 := hid (show decide ((1 : Int) < (D : Int)) = false by simp; omega)
        rw [if_neg hd, Nat.or_zero] at hU
        replace hU := hid hU
        replace HB1 := hid HB1
        replace HB2 := hid HB2
        clear hq hmt hd hM1 hM0 hJ hS hD hR hQ o1 o0
        go_enter Tryz.func174, Tryz.ntmps174
        go_upto_region 7 with (first
          | (go_at_call 63; first | ((with_reducible refine (HM.out _).mono ?_); rintro E1 w1 ⟨rfl, rfl⟩) | ((with_reducible refine (HM2.out _).mono ?_); rintro E1 w1 ⟨rfl, rfl⟩))
          | (go_at_call 151; (try rw [g2]); (with_reducible refine (HB1.out _).mono ?_); rintro E1 w1 ⟨rfl, rfl⟩))
        go_quiet ((go_at_call 151; rw [g4.out]; exact Calls.quiet_of_same (HB2.out _)))
        go_wp2
        go_ret
        rw [hU.out]
        exact ⟨rfl, Dr.mk _ _⟩
    · have g2 : decide (M < T) = false := by simp; omega
      obtain rfl : J = H := by have := hM0 hmt; omega
      obtain rfl : S = R := by rw [hS, hR]
      by_cases hd : 1 < D
      · have HB1 := fun w => bool2u_v false 0 rfl w
        have HB2 := fun w => bool2u_v true 1 rfl w
        have g4 := hid (show decide ((1 : Int) < (D : Int)) = true by simp; omega)
        rw [if_pos hd] at hU
        replace hU := hid hU
        replace HB1 := hid HB1
        replace HB2 := hid HB2
        clear hq hmt hd hM1 hM0 hJ hS hD hR hQ o1 o0
        go_enter Tryz.func174, Tryz.ntmps174
        go_upto_region 7 with (first
          | (go_at_call 63; first | ((with_reducible refine (HM.out _).mono ?_); rintro E1 w1 ⟨rfl, rfl⟩) | ((with_reducible refine (HM2.out _).mono ?_); rintro E1 w1 ⟨rfl, rfl⟩))
          | (go_at_call 151; (try rw [g2]); (with_reducible refine (HB1.out _).mono ?_); rintro E1 w1 ⟨rfl, rfl⟩))
        go_quiet ((go_at_call 151; rw [g4.out]; exact Calls.quiet_of_same (HB2.out _)))
        go_wp2
        go_ret
        rw [hU.out]
        exact ⟨rfl, Dr.mk _ _⟩
      · have HB1 := fun w => bool2u_v false 0 rfl w
        have HB2 := fun w => bool2u_v false 0 rfl w
        have g4 := hid (show decide ((1 : Int) < (D : Int)) = false by simp; omega)
        rw [if_neg hd, Nat.or_zero] at hU
        replace hU := hid hU
        replace HB1 := hid HB1
        replace HB2 := hid HB2
        clear hq hmt hd hM1 hM0 hJ hS hD hR hQ o1 o0
        go_enter Tryz.func174, Tryz.ntmps174
        go_upto_region 7 with (first
          | (go_at_call 63; first | ((with_reducible refine (HM.out _).mono ?_); rintro E1 w1 ⟨rfl, rfl⟩) | ((with_reducible refine (HM2.out _).mono ?_); rintro E1 w1 ⟨rfl, rfl⟩))
          | (go_at_call 151; (try rw [g2]); (with_reducible refine (HB1.out _).mono ?_); rintro E1 w1 ⟨rfl, rfl⟩))
        go_quiet ((go_at_call 151; rw [g4.out]; exact Calls.quiet_of_same (HB2.out _)))
        go_wp2
        go_ret
        rw [hU.out]
        exact ⟨rfl, Dr.mk _ _⟩
  · rw [if_pos (by simpa using hq)] at hU
    have g1 : ((Q : Int) != (H : Int)) = true := by simp; omega
    have o1 := bits_or_u64_nat R 1 (by omega) (by omega)
    have o1' : bits .or .u64 (R : Int) 1 = ((R ||| 1 : Nat) : Int) := o1
    replace hU := hid hU
    clear hq hR hQ o1 HM2
    go_enter Tryz.func174, Tryz.ntmps174
    go_wp2_with (go_at_call 63; (with_reducible refine (HM.out _).mono ?_); rintro E1 w1 ⟨rfl, rfl⟩)
    go_ret
    rw [hU.out]
    exact ⟨rfl, Dr.refl _⟩
end Go.Proofs.YtfalbdlfopfgcaaGreatDoor

