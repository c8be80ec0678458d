/- internal/strconv's unrounded scaling: what the small functions and uscale tell. Condition: the scaler's cells. internal/strconv.prescale, pack64, parseFloat64. Conditions: the table's cells. internal/strconv.parseFloat64. Conditions: the table of powers lies there; the number is not 0 and below 2^64; the power from -345 to 310. -/
import Derived.Test.YtfalbdlfopfgcaaGreatDoorFlM
import Derived.Test.YtfalbdlfopfgcaaGreatDoorShelf
import GoSem.PinnedTables
namespace Go.Proofs.YtfalbdlfopfgcaaGreatDoor
open Go.RowKit

@[go_sem high] theorem call_ifrombits (n : Int) (w : World) : (callFunc 152 #[.int .u64 n]).run Tryz.prog w = .ok (.value (.float .f64 n.toNat)) w :=
  run_callFunc_extern (e := Extern.MathFloatBits.float64frombits) Tryz.func152 (by kernel_rfl) (by kernel_rfl) (by kernel_rfl) (by kernel_rfl) _ w
theorem bool2u_any (b : Bool) (w : World) : Calls Tryz.prog 151 #[.bool b] w fun e w' => e = .returned (.int .u64 (if b then 1 else 0)) ∧ w' = w := by
  cases b
  all_goals
    go_enter Tryz.func151, Tryz.ntmps151
    go_wp2
    go_ret
    exact ⟨rfl, rfl⟩
theorem bool2u_v (b : Bool) (z : Int) (h : z = if b then 1 else 0) (w : World) : Calls Tryz.prog 151 #[.bool b] w fun e w' => e = .returned (.int .u64 z) ∧ w' = w := by
  rw [h]
  exact bool2u_any b w
theorem bool2i_any (b : Bool) (w : World) : Calls Tryz.prog 156 #[.bool b] w fun e w' => e = .returned (.int .i64 (if b then 1 else 0)) ∧ w' = w := by
  cases b
  all_goals
    go_enter Tryz.func156, Tryz.ntmps156
    go_wp2
    go_ret
    exact ⟨rfl, rfl⟩
theorem log2Pow10_any (p : Int) (h1 : -400 ≤ p) (h2 : p ≤ 400) (w : World) : Calls Tryz.prog 172 #[.int .i64 p] w fun e w' => e = .returned (.int .i64 (p * 108853 / 32768)) ∧ w' = w := by
  have hw : IntKind.i64.wrap (p * 108853) = p * 108853 := IntWalk.i64_in _ (by omega)
  go_enter Tryz.func172, Tryz.ntmps172
  go_wp2
  go_ret
  exact ⟨rfl, rfl⟩
theorem unmin_any (w : World) : Calls Tryz.prog 175 #[.int .u64 9007199254740992] w fun e w' => e = .returned (.int .u64 36028797018963966) ∧ w' = w := by
  go_enter Tryz.func175, Tryz.ntmps175
  go_wp2
  go_ret
  exact ⟨rfl, rfl⟩
theorem uround_any (u : Nat) (hu : u < 18446744073709551600) (w : World) : Calls Tryz.prog 177 #[.int .u64 u] w fun e w' => e = .returned (.int .u64 ((u + 1 + u / 4 % 2) / 4 : Nat)) ∧ w' = w := by
  go_enter Tryz.func177, Tryz.ntmps177
  have h1 : bits .and .u64 ((u : Int) / 4) 1 = (u : Int) / 4 % 2 := by
    have h := bits_and_u64_nat (u / 4) 1 (by omega) (by omega)
    rw [Nat.and_one_is_mod] at h
    have e : ((u / 4 : Nat) : Int) = (u : Int) / 4 := by omega
    rw [e] at h
    rw [show (1 : Int) = ((1 : Nat) : Int) from rfl, h]
    omega
  have h2 : IntKind.u64.wrap ((u : Int) + 1 + (u : Int) / 4 % 2) = (u : Int) + 1 + (u : Int) / 4 % 2 := by rw [IntKind.wrap_u64]; omega
  go_wp2
  go_ret
  refine ⟨?_, rfl⟩
  show Ending.returned (.int .u64 (((u : Int) + 1 + (u : Int) / 4 % 2) / 4)) = _
  rw [show ((u : Int) + 1 + (u : Int) / 4 % 2) / 4 = (((u + 1 + u / 4 % 2) / 4 : Nat) : Int) by omega]
theorem and63 (s : Nat) (hs : s < 64) : bits .and .i64 (s : Int) 63 = (s : Int) := by
  have h : ∀ s : Fin 64, bits .and .i64 (s.val : Int) 63 = (s.val : Int) := by decide +kernel
  exact h ⟨s, hs⟩
def uscN (x hi lo s : Nat) : Nat :=
  if x * hi / 18446744073709551616 / 2 ^ s * 2 ^ s ≠ x * hi / 18446744073709551616 then (x * hi / 18446744073709551616 / 2 ^ s) ||| 1
  else ((x * hi / 18446744073709551616 + 18446744073709551616 - (if x * hi % 18446744073709551616 < x * lo / 18446744073709551616 then 1 else 0)) % 18446744073709551616 / 2 ^ s) ||| (if 1 < (x * hi % 18446744073709551616 + 18446744073709551616 - x * lo / 18446744073709551616) % 18446744073709551616 then 1 else 0)
set_option maxRecDepth 100000 in
set_option maxHeartbeats 1000000 in
theorem uscale_any (x hi lo s : Nat) (hx : x < 18446744073709551616) (hh : hi < 18446744073709551616) (hl : lo < 18446744073709551616) (hs : s < 64) (b : Nat) (w : World) (c0 : w.cell? ⟨b, 0, none⟩ = some (.int .u64 hi)) (c1 : w.cell? ⟨b, 1, none⟩ = some (.int .u64 lo)) (c2 : w.cell? ⟨b, 2, none⟩ = some (.int .i64 s)) :
    Calls Tryz.prog 174 #[.int .u64 x, .pointer (some ⟨b, 0, none⟩)] w fun e w' => e = .returned (.int .u64 (uscN x hi lo s)) ∧ Dr w w' := by
  obtain ⟨H, hH⟩ : ∃ H, H = x * hi / 18446744073709551616 := ⟨_, rfl⟩
  obtain ⟨M, hM⟩ : ∃ M, M = x * hi % 18446744073709551616 := ⟨_, rfl⟩
  obtain ⟨T, hT⟩ : ∃ T, T = x * lo / 18446744073709551616 := ⟨_, rfl⟩
  have HM := hid fun w => Tryz.bits_Mul64 x hi hx hh w
  have HM2 := hid fun w => Tryz.bits_Mul64 x lo hx hl w
  rw [← hH, ← hM] at HM
  rw [← hT] at HM2
  have hs1 := and63 s hs
  have hs0 : (0 : Int) ≤ (s : Int) := by omega
  have hHl : H < 18446744073709551616 := by
    rw [hH]
    have := Nat.mul_le_mul (Nat.le_of_lt_succ hx : x ≤ 18446744073709551615) (Nat.le_of_lt_succ hh : hi ≤ 18446744073709551615)
    omega
  have hMl : M < 18446744073709551616 := by rw [hM]; exact Nat.mod_lt _ (by decide)
  have hTl : T < 18446744073709551616 := by
    rw [hT]
    have := Nat.mul_le_mul (Nat.le_of_lt_succ hx : x ≤ 18446744073709551615) (Nat.le_of_lt_succ hl : lo ≤ 18446744073709551615)
    omega
  obtain ⟨U, hU⟩ : ∃ U, U = uscN x hi lo s := ⟨_, rfl⟩
  unfold uscN at hU
  rw [← hH, ← hM, ← hT] at hU
  rw [show uscN x hi lo s = U by rw [hU]; unfold uscN; rw [← hH, ← hM, ← hT]]
  clear hH hM hT hx hh hl
  obtain ⟨R, hR⟩ : ∃ R, R = H / 2 ^ s := ⟨_, rfl⟩
  obtain ⟨Q, hQ⟩ : ∃ Q, Q = R * 2 ^ s := ⟨_, rfl⟩
  rw [← hR, ← hQ] at hU
  have hQH : Q ≤ H := by rw [hQ, hR]; exact Nat.div_mul_le_self H (2 ^ s)
  have hRH : R ≤ H := by rw [hR]; exact Nat.div_le_self _ _
  have gR : (H : Int) / 2 ^ s = (R : Int) := by rw [hR]; push_cast; rfl
  have gQ : (R : Int) * 2 ^ s = (Q : Int) := by rw [hQ]; push_cast; rfl
  have gw : IntKind.u64.wrap (Q : Int) = (Q : Int) := by rw [IntKind.wrap_u64]; omega
  by_cases hq : Q = H
  · rw [if_neg (by simpa using hq)] at hU
    have g1 : ((Q : Int) != (H : Int)) = false := by simp [hq]
    obtain ⟨D, hD⟩ : ∃ D, D = (M + 18446744073709551616 - T) % 18446744073709551616 := ⟨_, rfl⟩
    rw [← hD] at hU
    have gD : IntKind.u64.wrap ((M : Int) - (T : Int)) = (D : Int) := by rw [IntKind.wrap_u64, hD]; omega
    obtain ⟨J, hJ⟩ : ∃ J, J = (H + 18446744073709551616 - (if M < T then 1 else 0)) % 18446744073709551616 := ⟨_, rfl⟩
    rw [← hJ] at hU
    obtain ⟨S, hS⟩ : ∃ S, S = J / 2 ^ s := ⟨_, rfl⟩
    rw [← hS] at hU
    have gS : (J : Int) / 2 ^ s = (S : Int) := by rw [hS]; push_cast; rfl
    have hJl : J < 18446744073709551616 := by rw [hJ]; exact Nat.mod_lt _ (by decide)
    have hSl : S ≤ J := by rw [hS]; exact Nat.div_le_self _ _
    have o1 := bits_or_u64_nat S 1 (by omega) (by omega)
    have o0 := bits_or_u64_nat S 0 (by omega) (by omega)
    have o1' : bits .or .u64 (S : Int) 1 = ((S ||| 1 : Nat) : Int) := o1
    have o0' : bits .or .u64 (S : Int) 0 = ((S ||| 0 : Nat) : Int) := o0
    have hM1 : M < T → IntKind.u64.wrap ((H : Int) - 1) = (J : Int) := fun h => by rw [if_pos h] at hJ; rw [IntKind.wrap_u64, hJ]; omega
    have hM0 : ¬ M < T → (H : Int) = (J : Int) := fun h => by rw [if_neg h] at hJ; omega
    by_cases hmt : M < T
    · have g2 : decide (M < T) = true := by simp; omega
      have g3 := hM1 hmt
      by_cases hd : 1 < D
      · have HB1 := fun w => bool2u_v true 1 rfl w
        have HB2 := fun w => bool2u_v true 1 rfl w
        have g4 := hid (show decide ((1 : Int) < (D : Int)) = true by simp; omega)
        rw [if_pos hd] at hU
        replace hU := hid hU
        replace HB1 := hid HB1
        replace HB2 := hid HB2
        clear hq hmt hd hM1 hM0 hJ hS hD hR hQ o1 o0
        go_enter Tryz.func174, Tryz.ntmps174
        go_upto_region 7 with (first
          | (go_at_call 63; first | ((with_reducible refine (HM.out _).mono ?_); rintro E1 w1 ⟨rfl, rfl⟩) | ((with_reducible refine (HM2.out _).mono ?_); rintro E1 w1 ⟨rfl, rfl⟩))
          | (go_at_call 151; (try rw [g2]); (with_reducible refine (HB1.out _).mono ?_); rintro E1 w1 ⟨rfl, rfl⟩))
        go_quiet ((go_at_call 151; rw [g4.out]; exact Calls.quiet_of_same (HB2.out _)))
        go_wp2
        go_ret
        rw [hU.out]
        exact ⟨rfl, Dr.mk _ _⟩
      · have HB1 := fun w => bool2u_v true 1 rfl w
        have HB2 := fun w => bool2u_v false 0 rfl w
        have g4 := hid (show decide ((1 : Int) < (D : Int)) = false by simp; omega)
        rw [if_neg hd, Nat.or_zero] at hU
        replace hU := hid hU
        replace HB1 := hid HB1
        replace HB2 := hid HB2
        clear hq hmt hd hM1 hM0 hJ hS hD hR hQ o1 o0
        go_enter Tryz.func174, Tryz.ntmps174
        go_upto_region 7 with (first
          | (go_at_call 63; first | ((with_reducible refine (HM.out _).mono ?_); rintro E1 w1 ⟨rfl, rfl⟩) | ((with_reducible refine (HM2.out _).mono ?_); rintro E1 w1 ⟨rfl, rfl⟩))
          | (go_at_call 151; (try rw [g2]); (with_reducible refine (HB1.out _).mono ?_); rintro E1 w1 ⟨rfl, rfl⟩))
        go_quiet ((go_at_call 151; rw [g4.out]; exact Calls.quiet_of_same (HB2.out _)))
        go_wp2
        go_ret
        rw [hU.out]
        exact ⟨rfl, Dr.mk _ _⟩
    · have g2 : decide (M < T) = false := by simp; omega
      obtain rfl : J = H := by have := hM0 hmt; omega
      obtain rfl : S = R := by rw [hS, hR]
      by_cases hd : 1 < D
      · have HB1 := fun w => bool2u_v false 0 rfl w
        have HB2 := fun w => bool2u_v true 1 rfl w
        have g4 := hid (show decide ((1 : Int) < (D : Int)) = true by simp; omega)
        rw [if_pos hd] at hU
        replace hU := hid hU
        replace HB1 := hid HB1
        replace HB2 := hid HB2
        clear hq hmt hd hM1 hM0 hJ hS hD hR hQ o1 o0
        go_enter Tryz.func174, Tryz.ntmps174
        go_upto_region 7 with (first
          | (go_at_call 63; first | ((with_reducible refine (HM.out _).mono ?_); rintro E1 w1 ⟨rfl, rfl⟩) | ((with_reducible refine (HM2.out _).mono ?_); rintro E1 w1 ⟨rfl, rfl⟩))
          | (go_at_call 151; (try rw [g2]); (with_reducible refine (HB1.out _).mono ?_); rintro E1 w1 ⟨rfl, rfl⟩))
        go_quiet ((go_at_call 151; rw [g4.out]; exact Calls.quiet_of_same (HB2.out _)))
        go_wp2
        go_ret
        rw [hU.out]
        exact ⟨rfl, Dr.mk _ _⟩
      · have HB1 := fun w => bool2u_v false 0 rfl w
        have HB2 := fun w => bool2u_v false 0 rfl w
        have g4 := hid (show decide ((1 : Int) < (D : Int)) = false by simp; omega)
        rw [if_neg hd, Nat.or_zero] at hU
        replace hU := hid hU
        replace HB1 := hid HB1
        replace HB2 := hid HB2
        clear hq hmt hd hM1 hM0 hJ hS hD hR hQ o1 o0
        go_enter Tryz.func174, Tryz.ntmps174
        go_upto_region 7 with (first
          | (go_at_call 63; first | ((with_reducible refine (HM.out _).mono ?_); rintro E1 w1 ⟨rfl, rfl⟩) | ((with_reducible refine (HM2.out _).mono ?_); rintro E1 w1 ⟨rfl, rfl⟩))
          | (go_at_call 151; (try rw [g2]); (with_reducible refine (HB1.out _).mono ?_); rintro E1 w1 ⟨rfl, rfl⟩))
        go_quiet ((go_at_call 151; rw [g4.out]; exact Calls.quiet_of_same (HB2.out _)))
        go_wp2
        go_ret
        rw [hU.out]
        exact ⟨rfl, Dr.mk _ _⟩
  · rw [if_pos (by simpa using hq)] at hU
    have g1 : ((Q : Int) != (H : Int)) = true := by simp; omega
    have o1 := bits_or_u64_nat R 1 (by omega) (by omega)
    have o1' : bits .or .u64 (R : Int) 1 = ((R ||| 1 : Nat) : Int) := o1
    replace hU := hid hU
    clear hq hR hQ o1 HM2
    go_enter Tryz.func174, Tryz.ntmps174
    go_wp2_with (go_at_call 63; (with_reducible refine (HM.out _).mono ?_); rintro E1 w1 ⟨rfl, rfl⟩)
    go_ret
    rw [hU.out]
    exact ⟨rfl, Dr.refl _⟩
end Go.Proofs.YtfalbdlfopfgcaaGreatDoor

namespace Go.Proofs.YtfalbdlfopfgcaaGreatDoor
open Go.RowKit

set_option maxRecDepth 100000 in
set_option maxHeartbeats 1000000 in
theorem prescale_any (e p lp : Int) (k hi lo : Nat) (hp : p + 348 = (k : Int)) (hk : k < 696) (he : -5000 ≤ e ∧ e ≤ 5000) (hl : -5000 ≤ lp ∧ lp ≤ 5000) (b : Nat) (w : World) (hb : ¬ b = 11)
    (x y z : Value) (h : w.heap[b]? = some (.cells #[x, y, z] 227 (0, 0))) (t0 : w.cell? ⟨11, k * 2, none⟩ = some (.int .u64 hi)) (t1 : w.cell? ⟨11, k * 2 + 1, none⟩ = some (.int .u64 lo)) :
    Calls Tryz.prog 173 #[.pointer (some ⟨b, 0, none⟩), .int .i64 e, .int .i64 p, .int .i64 lp] w fun E w' => E = .returned (.tuple #[]) ∧ w' = ((w.setCell ⟨b, 0, none⟩ (.int .u64 hi)).setCell ⟨b, 1, none⟩ (.int .u64 lo)).setCell ⟨b, 2, none⟩ (.int .i64 (-(e + lp + 3))) := by
  have c0 : w.cell? ⟨b, 0, none⟩ = some x := by simp [World.cell?, h]
  have c1 : w.cell? ⟨b, 1, none⟩ = some y := by simp [World.cell?, h]
  have c2 : w.cell? ⟨b, 2, none⟩ = some z := by simp [World.cell?, h]
  have f0 : w.frozen? ⟨b, 0, none⟩ = false := by simp [World.frozen?, h]
  have f1 : w.frozen? ⟨b, 1, none⟩ = false := by simp [World.frozen?, h]
  have f2 : w.frozen? ⟨b, 2, none⟩ = false := by simp [World.frozen?, h]
  have hb' : ¬ 11 = b := fun h => hb h.symm
  have hw1 : IntKind.i64.wrap (e + lp) = e + lp := IntWalk.i64_in _ (by omega)
  have hw2 : IntKind.i64.wrap (e + lp + 3) = e + lp + 3 := IntWalk.i64_in _ (by omega)
  have hw3 : IntKind.i64.wrap (-(e + lp + 3)) = -(e + lp + 3) := IntWalk.i64_in _ (by omega)
  have hw4 : IntKind.i64.wrap (k : Int) = (k : Int) := IntWalk.i64_in _ (by omega)
  have g1 : (k : Int) < 696 := by omega
  clear h
  go_enter Tryz.func173, Tryz.ntmps173
  go_wp2
  go_end0
  exact ⟨rfl, rfl⟩
theorem bits_andNot_u64 (a : Nat) (ha : a < 18446744073709551616) : bits .andNot .u64 (a : Int) 4503599627370496 = ((a &&& 18442240474082181119 : Nat) : Int) := by
  have hx : a &&& 18442240474082181119 < 2 ^ 64 := Nat.and_lt_two_pow _ (by omega)
  have h1 : (BitVec.ofInt 64 (a : Int)).toNat = a := by
    rw [BitVec.ofInt_natCast, BitVec.toNat_ofNat]; exact Nat.mod_eq_of_lt (by omega)
  show IntKind.u64.wrap ((BitVec.ofInt 64 (a : Int) &&& ~~~ BitVec.ofInt 64 4503599627370496).toNat : Int) = _
  rw [BitVec.toNat_and, h1, show (~~~ BitVec.ofInt 64 4503599627370496).toNat = 18442240474082181119 from by decide, IntKind.wrap_u64]
  omega
/-- What pack64 tells. -/
def packN (m : Nat) (e : Int) : Nat := if m &&& 4503599627370496 = 0 then m else if 972 ≤ e then (m &&& 9223372036854775808) ||| 9218868437227405312 else (m &&& 18442240474082181119) ||| ((1075 + e).toNat * 4503599627370496)
def packE (m : Nat) (e : Int) : Value := if m &&& 4503599627370496 = 0 then .nilIface else if 972 ≤ e then .iface 155 (.int .i64 1) else .nilIface
set_option maxRecDepth 100000 in
set_option maxHeartbeats 1000000 in
theorem pack64_any (m : Nat) (e : Int) (hm : m < 18446744073709551616) (h1 : -1075 ≤ e) (h2 : e ≤ 2000) (w : World) :
    Calls Tryz.prog 180 #[.int .u64 m, .int .i64 e] w fun E w' => E = .returned (.tuple #[.float .f64 (packN m e), packE m e]) ∧ w' = w := by
  have a1 : bits .and .u64 (m : Int) 4503599627370496 = ((m &&& 4503599627370496 : Nat) : Int) := bits_and_u64_nat m 4503599627370496 hm (by omega)
  have a2 : bits .and .u64 (m : Int) 9223372036854775808 = ((m &&& 9223372036854775808 : Nat) : Int) := bits_and_u64_nat m 9223372036854775808 hm (by omega)
  have a3 := bits_andNot_u64 m hm
  have hb2 : m &&& 9223372036854775808 < 18446744073709551616 := Nat.lt_of_le_of_lt Nat.and_le_left hm
  have hb3 : m &&& 18442240474082181119 < 18446744073709551616 := Nat.lt_of_le_of_lt Nat.and_le_left hm
  obtain ⟨x1, e1⟩ : ∃ x, x = m &&& 4503599627370496 := ⟨_, rfl⟩
  obtain ⟨x2, e2⟩ : ∃ x, x = m &&& 9223372036854775808 := ⟨_, rfl⟩
  obtain ⟨x3, e3⟩ : ∃ x, x = m &&& 18442240474082181119 := ⟨_, rfl⟩
  have o2 : bits .or .u64 (x2 : Int) 9218868437227405312 = ((x2 ||| 9218868437227405312 : Nat) : Int) := bits_or_u64_nat x2 9218868437227405312 (by omega) (by omega)
  obtain ⟨F, hF⟩ : ∃ F, F = packN m e := ⟨_, rfl⟩
  obtain ⟨G, hG⟩ : ∃ G, G = packE m e := ⟨_, rfl⟩
  rw [← hF, ← hG]
  unfold packN at hF
  unfold packE at hG
  rw [← e1] at a1 hF hG
  rw [← e2] at a2 hF hb2
  rw [← e3] at a3 hF hb3
  clear e1 e2 e3
  by_cases c1 : x1 = 0
  · rw [if_pos c1] at hF hG
    have g1 : ((x1 : Int) == 0) = true := by simp [c1]
    clear c1
    replace hF := hid hF
    replace hG := hid hG
    go_enter Tryz.func180, Tryz.ntmps180
    go_wp2
    go_ret2
    rw [hF.out, hG.out]
    exact ⟨rfl, rfl⟩
  · rw [if_neg c1] at hF hG
    have g1 : ((x1 : Int) == 0) = false := by simp; omega
    by_cases c2 : 972 ≤ e
    · rw [if_pos c2] at hF hG
      clear c1
      replace hF := hid hF
      replace hG := hid hG
      go_enter Tryz.func180, Tryz.ntmps180
      go_wp2
      go_ret2
      rw [hF.out, hG.out]
      exact ⟨rfl, rfl⟩
    · rw [if_neg c2] at hF hG
      obtain ⟨q, hq⟩ : ∃ q, q = (1075 + e).toNat := ⟨_, rfl⟩
      have hq2 : (q : Int) = 1075 + e := by omega
      have o3 : bits .or .u64 (x3 : Int) ((1075 + e) * 4503599627370496) = ((x3 ||| (q * 4503599627370496) : Nat) : Int) := by
        rw [← hq2]
        have := bits_or_u64_nat x3 (q * 4503599627370496) (by omega) (by omega)
        rw [Int.natCast_mul] at this
        exact this
      rw [← hq] at hF
      clear hq hq2 c1
      have g2 : e < 972 := by omega
      clear c2
      replace hF := hid hF
      replace hG := hid hG
      go_enter Tryz.func180, Tryz.ntmps180
      go_wp2
      go_ret2
      rw [hF.out, hG.out]
      exact ⟨rfl, rfl⟩
end Go.Proofs.YtfalbdlfopfgcaaGreatDoor

namespace Go.Proofs.YtfalbdlfopfgcaaGreatDoor
open Go.RowKit

def p10 (k : Nat) : Nat × Nat := Go.Pinned.pow10Rows.getD k (0, 0)
theorem bitLenAux_le (f : Nat) : ∀ x, Lib.bitLenAux f x ≤ f := by
  induction f with
  | zero => intro x; simp [Lib.bitLenAux]
  | succ f ih =>
    intro x
    simp only [Lib.bitLenAux]
    split
    · omega
    · have := ih (x / 2); omega
theorem bitLen_le (x : Nat) : Lib.bitLen x ≤ 64 := bitLenAux_le 64 x
theorem bitLenAux_spec : ∀ (f x : Nat), x < 2 ^ f → 0 < x → 1 ≤ Lib.bitLenAux f x ∧ 2 ^ (Lib.bitLenAux f x - 1) ≤ x ∧ x < 2 ^ Lib.bitLenAux f x := by
  intro f
  induction f with
  | zero => intro x h h0; simp at h; omega
  | succ f ih =>
    intro x h h0
    simp only [Lib.bitLenAux]
    rw [if_neg (by omega)]
    rw [Nat.pow_succ] at h
    rcases Nat.eq_zero_or_pos (x / 2) with h1 | h1
    · have hx : x = 1 := by omega
      subst hx
      have : Lib.bitLenAux f (1 / 2) = 0 := by
        cases f <;> simp [Lib.bitLenAux]
      rw [this]
      decide
    · obtain ⟨a, b, c⟩ := ih (x / 2) (by omega) h1
      generalize Lib.bitLenAux f (x / 2) = k at *
      obtain ⟨j, rfl⟩ : ∃ j, k = j + 1 := ⟨k - 1, by omega⟩
      rw [show 1 + (j + 1) - 1 = j + 1 from by omega, show 1 + (j + 1) = (j + 1) + 1 from by omega]
      rw [Nat.add_sub_cancel] at b
      rw [Nat.pow_succ] at c ⊢
      have e : 2 ^ (j + 1) = 2 ^ j * 2 := Nat.pow_succ ..
      rw [Nat.pow_succ]
      omega
/-- The table of powers lies in the world. -/
def PTab (w : World) : Prop := ∀ k, k < 696 → w.cell? ⟨11, k * 2, none⟩ = some (.int .u64 ((p10 k).1 : Nat)) ∧ w.cell? ⟨11, k * 2 + 1, none⟩ = some (.int .u64 ((p10 k).2 : Nat))
theorem p10_lt (k : Nat) : (p10 k).1 < 18446744073709551616 ∧ (p10 k).2 < 18446744073709551616 := by
  have h : ∀ x ∈ Go.Pinned.pow10Rows, x.1 < 18446744073709551616 ∧ x.2 < 18446744073709551616 := by decide +kernel
  unfold p10
  rw [List.getD_eq_getElem?_getD]
  cases hk : Go.Pinned.pow10Rows[k]? with
  | none => exact ⟨by decide, by decide⟩
  | some x => exact h x (List.mem_of_getElem? hk)
theorem PTab.below {w w' : World} (h : PTab w) (hb : Below w.heap.size w w') : PTab w' := fun k hk => by
  obtain ⟨h1, h2⟩ := h k hk
  exact ⟨(hb.cell (World.block_lt_of_cell? _ _ h1)).trans h1, (hb.cell (World.block_lt_of_cell? _ _ h2)).trans h2⟩
theorem uscN_lt (x hi lo s : Nat) (hx : x < 18446744073709551616) (hh : hi < 18446744073709551616) (hs : 8 ≤ s) : uscN x hi lo s ≤ 72057594037927936 := by
  have hH : x * hi / 18446744073709551616 < 18446744073709551616 := by
    have := Nat.mul_le_mul (Nat.le_of_lt_succ hx : x ≤ 18446744073709551615) (Nat.le_of_lt_succ hh : hi ≤ 18446744073709551615)
    omega
  have key : ∀ J t, J < 18446744073709551616 → t ≤ 1 → J / 2 ^ s ||| t ≤ 72057594037927936 := by
    intro J t hJ ht
    have h1 : J / 2 ^ s ≤ J / 2 ^ 8 := Nat.div_le_div_left (Nat.pow_le_pow_right (by decide) hs) (by decide)
    have h2 : J / 2 ^ s ||| t < 2 ^ 56 := Nat.or_lt_two_pow (by omega) (by omega)
    omega
  unfold uscN
  split
  · exact key _ 1 hH (Nat.le_refl _)
  · refine key _ _ (Nat.mod_lt _ (by decide)) ?_
    split <;> omega
theorem blk_nw (w : World) (o : Obj) : (w.alloc o).heap[w.heap.size]? = some o := by
  show (w.heap.push _)[w.heap.size]? = _
  simp
theorem bl_w (w : World) (o : Obj) : Below w.heap.size w (w.alloc o) := (Below.refl _ w).alloc (Nat.le_refl _) o
def pfL (p : Int) : Int := p * 108853 / 32768
def pfE (d : Nat) (p : Int) : Int := min 1074 (53 - (Lib.bitLen d : Int) - pfL p)
def pfS (d : Nat) (p : Int) : Int := -(pfE d p - (64 - (Lib.bitLen d : Int)) + pfL p + 3)
def pfU (d : Nat) (p : Int) : Nat := uscN (d * 2 ^ (64 - Lib.bitLen d)) (p10 (p + 348).toNat).1 (p10 (p + 348).toNat).2 (pfS d p).toNat
def pfM (u : Nat) : Nat := (u + 1 + u / 4 % 2) / 4
def pfV (u : Nat) : Nat := if 36028797018963966 ≤ u then u / 2 ||| (u &&& 1) else u
/-- What parseFloat64 tells: the word, the error. -/
def pfN (d : Nat) (p : Int) (sg : Nat) : Nat := if 64 ≤ pfS d p then sg else packN (sg ||| pfM (pfV (pfU d p))) (-(pfE d p - if 36028797018963966 ≤ pfU d p then 1 else 0))
def pfG (d : Nat) (p : Int) (sg : Nat) : Value := if 64 ≤ pfS d p then .nilIface else packE (sg ||| pfM (pfV (pfU d p))) (-(pfE d p - if 36028797018963966 ≤ pfU d p then 1 else 0))
theorem pfL_b {p : Int} (h1 : -345 ≤ p) (h2 : p ≤ 310) : -1200 ≤ pfL p ∧ pfL p ≤ 1200 := by unfold pfL; omega
theorem pfS_b (d : Nat) (p : Int) : 8 ≤ pfS d p := by unfold pfS pfE; omega
set_option maxRecDepth 100000 in
set_option maxHeartbeats 2000000 in
theorem parseFloat64_any (d : Nat) (hd0 : 0 < d) (hd : d < 18446744073709551616) (p : Int) (h1 : -345 ≤ p) (h2 : p ≤ 310) (sg : Nat) (hsg : sg = 0 ∨ sg = 9223372036854775808) (w : World) (hT : PTab w) (hb : 11 < w.heap.size) :
    Calls Tryz.prog 154 #[.int .u64 d, .int .i64 p, .int .u64 sg] w fun E w' => E = .returned (.tuple #[.float .f64 (pfN d p sg), pfG d p sg]) ∧ Below w.heap.size w w' := by
  obtain ⟨b, hbl⟩ : ∃ b, b = Lib.bitLen d := ⟨_, rfl⟩
  have hb64 : b ≤ 64 := by rw [hbl]; exact bitLen_le d
  have HL := hid fun w => Tryz.bits_Len64 (d : Int) w (by omega) (by omega)
  rw [Int.toNat_natCast, ← hbl] at HL
  have HP := hid fun w => log2Pow10_any p (by omega) (by omega) w
  have hLb := pfL_b h1 h2
  obtain ⟨L, hL⟩ : ∃ L, L = pfL p := ⟨_, rfl⟩
  rw [show p * 108853 / 32768 = L from hL.symm] at HP
  rw [← hL] at hLb
  obtain ⟨e, he⟩ : ∃ e, e = pfE d p := ⟨_, rfl⟩
  have ge : min 1074 (53 - (b : Int) - L) = e := by rw [he, pfE, ← hbl, ← hL]
  have heb : -1300 ≤ e ∧ e ≤ 1074 ∧ e ≤ 53 - (b : Int) - L := by omega
  obtain ⟨S, hS⟩ : ∃ S, S = pfS d p := ⟨_, rfl⟩
  have gS : -(e - (64 - (b : Int)) + L + 3) = S := by rw [hS, pfS, ← hbl, ← hL, ← he]
  have hS8 : 8 ≤ S ∧ S ≤ 5000 := by omega
  obtain ⟨k, hk⟩ : ∃ k, k = (p + 348).toNat := ⟨_, rfl⟩
  have hk1 : p + 348 = (k : Int) := by omega
  obtain ⟨t0, t1⟩ := hT k (by omega)
  obtain ⟨ph, pl⟩ := p10_lt k
  obtain ⟨hi, hhi⟩ : ∃ hi, hi = (p10 k).1 := ⟨_, rfl⟩
  obtain ⟨lo, hlo⟩ : ∃ lo, lo = (p10 k).2 := ⟨_, rfl⟩
  rw [← hhi] at t0 ph
  rw [← hlo] at t1 pl
  have HPs := hid (prescale_any (e - (64 - (b : Int))) p L k hi lo hk1 (by omega) (by omega) (by omega) w.heap.size (w.alloc (.cells #[.int .u64 0, .int .u64 0, .int .i64 0] 227)) (by omega) (.int .u64 0) (.int .u64 0) (.int .i64 0) (blk_nw _ _) ((Below.cell (bl_w w _) (World.block_lt_of_cell? _ _ t0)).trans t0) ((Below.cell (bl_w w _) (World.block_lt_of_cell? _ _ t1)).trans t1))
  rw [gS] at HPs
  replace hbl := hid hbl
  replace hL := hid hL
  replace he := hid he
  replace hS := hid hS
  replace hk := hid hk
  replace hhi := hid hhi
  replace hlo := hid hlo
  clear hk1
  go_enter Tryz.func154, Tryz.ntmps154
  go_upto_region 6 with (first
    | (go_at_call 43; (with_reducible refine (HL.out _).mono ?_); rintro E1 w1 ⟨rfl, rfl⟩)
    | (go_at_call 172; (with_reducible refine (HP.out _).mono ?_); rintro E1 w1 ⟨rfl, rfl⟩)
    | (go_at_call 173; go_loud ((with_reducible refine HPs.out.mono ?_); rintro E1 w2 ⟨rfl, rfl⟩)))
  clear HL HP HPs ge gS t0 t1
  have hbw := bl_w w1 (.cells #[.int .u64 hi, .int .u64 lo, .int .i64 S] 227)
  have hbk := blk_nw w1 (.cells #[.int .u64 hi, .int .u64 lo, .int .i64 S] 227)
  obtain ⟨w2, hw2⟩ : ∃ w2, w2 = w1.alloc (.cells #[.int .u64 hi, .int .u64 lo, .int .i64 S] 227) := ⟨_, rfl⟩
  rw [← hw2] at hbw hbk ⊢
  clear hw2
  have c0 : w2.cell? ⟨w1.heap.size, 0, none⟩ = some (.int .u64 hi) := by simp [World.cell?, hbk]
  have c1 : w2.cell? ⟨w1.heap.size, 1, none⟩ = some (.int .u64 lo) := by simp [World.cell?, hbk]
  have c2 : w2.cell? ⟨w1.heap.size, 2, none⟩ = some (.int .i64 S) := by simp [World.cell?, hbk]
  clear hbk
  by_cases h64 : 64 ≤ S
  · have g0 : bits .or .u64 (sg : Int) 0 = (sg : Int) := by
      have := bits_or_u64_nat sg 0 (by omega) (by omega)
      rw [Nat.or_zero] at this
      exact this
    have hN : Hid (pfN d p sg = sg) := hid (by unfold pfN; rw [if_pos (by rw [← hS.out]; exact h64)])
    have hG : Hid (pfG d p sg = .nilIface) := hid (by unfold pfG; rw [if_pos (by rw [← hS.out]; exact h64)])
    go_wp2
    go_ret2
    rw [hN.out, hG.out]
    exact ⟨rfl, hbw⟩
  · obtain ⟨s, hs⟩ : ∃ s, s = S.toNat := ⟨_, rfl⟩
    obtain rfl : S = (s : Int) := by omega
    have hs64 : s < 64 := by omega
    obtain ⟨X, hX⟩ : ∃ X, X = d * 2 ^ (64 - b) := ⟨_, rfl⟩
    have hXl : X < 18446744073709551616 := by
      obtain ⟨-, -, h3⟩ := bitLenAux_spec 64 d (by omega) hd0
      have h4 : d < 2 ^ b := by rw [hbl.out]; exact h3
      rw [hX]
      calc d * 2 ^ (64 - b) < 2 ^ b * 2 ^ (64 - b) := Nat.mul_lt_mul_of_pos_right h4 (Nat.two_pow_pos _)
        _ = 2 ^ 64 := by rw [← Nat.pow_add]; congr 1; omega
        _ = 18446744073709551616 := by decide
    obtain ⟨q, hq⟩ : ∃ q, q = 64 - b := ⟨_, rfl⟩
    have gq : 64 - (b : Int) = (q : Int) := by omega
    have gX : (d : Int) * 2 ^ q = (X : Int) := by rw [hX, hq]; push_cast; rfl
    have gw : IntKind.u64.wrap (X : Int) = (X : Int) := by rw [IntKind.wrap_u64]; omega
    obtain ⟨u, hu⟩ : ∃ u, u = uscN X hi lo s := ⟨_, rfl⟩
    have hul : u ≤ 72057594037927936 := by rw [hu]; exact uscN_lt X hi lo s hXl ph (by omega)
    have HU := hid (uscale_any X hi lo s hXl ph pl hs64 w1.heap.size w2 c0 c1 c2)
    rw [← hu] at HU
    have hpu : u = pfU d p := by
      rw [hu, hX, hhi.out, hlo.out]
      unfold pfU
      rw [← hbl.out, ← hS.out, ← hk.out]
      rfl
    obtain ⟨v, hv⟩ : ∃ v, v = pfV u := ⟨_, rfl⟩
    obtain ⟨m, hm⟩ : ∃ m, m = pfM v := ⟨_, rfl⟩
    obtain ⟨o1, ho1⟩ : ∃ o1, o1 = sg ||| m := ⟨_, rfl⟩
    have a1 : bits .and .u64 (u : Int) 1 = ((u &&& 1 : Nat) : Int) := bits_and_u64_nat u 1 (by omega) (by omega)
    obtain ⟨y, hy⟩ : ∃ y, y = u &&& 1 := ⟨_, rfl⟩
    rw [← hy] at a1
    have hyl : y ≤ 1 := by rw [hy, Nat.and_one_is_mod]; omega
    by_cases hge : 36028797018963966 ≤ u
    · obtain ⟨t, ht⟩ : ∃ t, t = u / 2 := ⟨_, rfl⟩
      have gt : (u : Int) / 2 = (t : Int) := by omega
      have hvv : v = t ||| y := by rw [hv, pfV, if_pos hge, ht, hy]
      have a2 : bits .or .u64 (t : Int) (y : Int) = (v : Int) := by rw [hvv]; exact bits_or_u64_nat t y (by omega) (by omega)
      have hvl : v < 72057594037927936 := by rw [hvv]; exact Nat.or_lt_two_pow (n := 56) (by omega) (by omega)
      have HRo := hid fun w => uround_any v (by omega) w
      rw [show (v + 1 + v / 4 % 2) / 4 = m from hm.symm] at HRo
      have hml : m ≤ 18014398509481985 := by rw [hm]; unfold pfM; omega
      have hol : o1 < 18446744073709551616 := by rw [ho1]; exact Nat.or_lt_two_pow (n := 64) (by omega) (by omega)
      have a3 : bits .or .u64 (sg : Int) (m : Int) = (o1 : Int) := by rw [ho1]; exact bits_or_u64_nat sg m (by omega) (by omega)
      have HPk := hid fun w => pack64_any o1 (-(e - 1)) hol (by omega) (by omega) w
      have hN : Hid (pfN d p sg = packN o1 (-(e - 1))) := hid (by
        unfold pfN
        rw [← hS.out, if_neg h64, ← hpu, if_pos hge, ← hv, ← hm, ← ho1, ← he.out])
      have hG : Hid (pfG d p sg = packE o1 (-(e - 1))) := hid (by
        unfold pfG
        rw [← hS.out, if_neg h64, ← hpu, if_pos hge, ← hv, ← hm, ← ho1, ← he.out])
      have HUm := hid fun w => unmin_any w
      have HBi : Hid (∀ w, Calls Tryz.prog 156 #[.bool true] w fun e w' => e = .returned (.int .i64 1) ∧ w' = w) := hid fun w => bool2i_any true w
      have g36 : (36028797018963966 : Int) ≤ (u : Int) := by omega
      clear hX hq hu hs hpu hv hm ho1 hy ht hvv
      go_wp2_with (first
        | (go_at_call 174; ((with_reducible refine HU.out.mono ?_); rintro E1 w3 ⟨rfl, nu, rfl⟩))
        | (go_at_call 175; ((with_reducible refine (HUm.out _).mono ?_); rintro E1 w3 ⟨rfl, rfl⟩))
        | (go_at_call 156; ((with_reducible refine (HBi.out _).mono ?_); rintro E1 w3 ⟨rfl, rfl⟩))
        | (go_at_call 177; ((with_reducible refine (HRo.out _).mono ?_); rintro E1 w3 ⟨rfl, rfl⟩))
        | (go_at_call 180; go_loud ((with_reducible refine (HPk.out _).mono ?_); rintro E1 w3 ⟨rfl, rfl⟩)))
      go_ret2
      rw [hN.out, hG.out]
      exact ⟨rfl, below_drewN' hbw _⟩
    · obtain ⟨t, ht⟩ : ∃ t, t = u := ⟨_, rfl⟩
      have hvv : v = u := by rw [hv, pfV, if_neg hge]
      have a2 : bits .or .u64 (u : Int) (y : Int) = (v : Int) := by
        rw [hvv, bits_or_u64_nat u y (by omega) (by omega), hy]
        congr 1
        apply Nat.eq_of_testBit_eq
        intro i
        rw [Nat.testBit_or, Nat.testBit_and]
        cases u.testBit i <;> simp
      have HRo := hid fun w => uround_any v (by omega) w
      rw [show (v + 1 + v / 4 % 2) / 4 = m from hm.symm] at HRo
      have hml : m ≤ 18014398509481985 := by rw [hm]; unfold pfM; omega
      have hol : o1 < 18446744073709551616 := by rw [ho1]; exact Nat.or_lt_two_pow (n := 64) (by omega) (by omega)
      have a3 : bits .or .u64 (sg : Int) (m : Int) = (o1 : Int) := by rw [ho1]; exact bits_or_u64_nat sg m (by omega) (by omega)
      have HPk := hid fun w => pack64_any o1 (-e) hol (by omega) (by omega) w
      have hN : Hid (pfN d p sg = packN o1 (-e)) := hid (by
        unfold pfN
        rw [← hS.out, if_neg h64, ← hpu, if_neg hge, ← hv, ← hm, ← ho1, ← he.out, Int.sub_zero])
      have hG : Hid (pfG d p sg = packE o1 (-e)) := hid (by
        unfold pfG
        rw [← hS.out, if_neg h64, ← hpu, if_neg hge, ← hv, ← hm, ← ho1, ← he.out, Int.sub_zero])
      have HUm := hid fun w => unmin_any w
      have HBi : Hid (∀ w, Calls Tryz.prog 156 #[.bool false] w fun e w' => e = .returned (.int .i64 0) ∧ w' = w) := hid fun w => bool2i_any false w
      have g36 := hid (show decide ((36028797018963966 : Int) ≤ (u : Int)) = false by rw [decide_eq_false_iff_not]; omega)
      clear hX hq hu hs hpu hv hm ho1 hy ht hvv
      go_wp2_with (first
        | (go_at_call 174; ((with_reducible refine HU.out.mono ?_); rintro E1 w3 ⟨rfl, nu, rfl⟩))
        | (go_at_call 175; ((with_reducible refine (HUm.out _).mono ?_); rintro E1 w3 ⟨rfl, rfl⟩))
        | (go_at_call 156; (rw [g36.out]; (with_reducible refine (HBi.out _).mono ?_); rintro E1 w3 ⟨rfl, rfl⟩))
        | (go_at_call 177; ((with_reducible refine (HRo.out _).mono ?_); rintro E1 w3 ⟨rfl, rfl⟩))
        | (go_at_call 180; go_loud ((with_reducible refine (HPk.out _).mono ?_); rintro E1 w3 ⟨rfl, rfl⟩)))
      go_ret2
      rw [hN.out, hG.out]
      exact ⟨rfl, below_drewN' hbw _⟩
end Go.Proofs.YtfalbdlfopfgcaaGreatDoor
