/- math.Ldexp of a whole number: what it gives. Condition: the number is at most 2^53, the power not below -1074; above that the number is at least 2^52. -/
import Derived.Test.YtfalbdlfopfgcaaGreatDoorWjM
import Derived.Test.YtfalbdlfopfgcaaGreatDoorPartsM
import Derived.Test.YtfalbdlfopfgcaaGreatDoorOrdM
namespace Go.Proofs.YtfalbdlfopfgcaaGreatDoor
open Go.RowKit

theorem ofInt_pos {n t : Nat} (h1 : 1 ≤ n) (ht : t ≤ 52) (h2 : 4503599627370496 ≤ n * 2 ^ t) (h3 : n * 2 ^ t ≤ 9007199254740992) : ofInt (n : Int) = (1074 - t) * 4503599627370496 + n * 2 ^ t := by
  obtain ⟨r, hr, hr1, hr2⟩ := nearest_spec false n 0 (by omega)
  have hs : (1074 - t) * 4503599627370496 + n * 2 ^ t ≤ 9218868437227405312 := by omega
  have hm : mgn ((1074 - t) * 4503599627370496 + n * 2 ^ t) = n * 2 ^ 1074 := by
    rw [mgn_form _ _ (Or.inr h2) h3, Nat.mul_assoc, ← Nat.pow_add, show t + (1074 - t) = 1074 by omega]
  have h := hr2 _ (-1074) hs (by omega) (by omega)
  rw [hm] at h
  have e : n * 2 ^ 1074 * 2 ^ (-1074 - -1074 : Int).toNat = n * 2 ^ (0 - -1074 : Int).toNat := by
    rw [show (-1074 - -1074 : Int).toNat = 0 by omega, show (0 - -1074 : Int).toNat = 1074 by omega, Nat.pow_zero, Nat.mul_one]
  have hrs : r = (1074 - t) * 4503599627370496 + n * 2 ^ t := Nat.le_antisymm (h.2 (Nat.le_of_eq e.symm)) (h.1 (Nat.le_of_eq e))
  show FloatKind.f64.nearest (n : Int) = _
  have hd : FloatKind.f64.nearest (n : Int) = Ieee.double.nearest false n 0 := by
    show Ieee.double.nearest (decide ((n : Int) < 0)) (n : Int).natAbs 0 = _
    rw [Int.natAbs_natCast, decide_eq_false (by omega)]
  rw [hd, hr, word_eq, hrs]
  rfl
/-- The product by 1 of what has no sign. -/
theorem fmul_one {X : Nat} (hX : X < 9218868437227405312) : fmul (val 4607182418800017408) (val X) = some X := by
  have hf : IsFin X := by unfold IsFin; omega
  have hw : IsW X := by unfold IsW; omega
  have ho : IsFin 4607182418800017408 := by unfold IsFin; decide
  obtain ⟨r, h1, h2⟩ := fmul_spec (a := 4607182418800017408) (b := X) (by unfold IsW; decide) hw ho hf
  rw [ho.val, hf.val, h1]
  have hn : neg X = false := by unfold neg; rw [decide_eq_false_iff_not]; omega
  have hm : mag 4607182418800017408 = big 1074 := by decide +kernel
  rw [hm] at h2
  have h3 := h2.exact (s := X) (by omega) (by
    unfold mag
    rw [Nat.mod_eq_of_lt (show X < 9223372036854775808 by omega), Nat.mul_comm])
  rw [hn, h3]
  rfl
/-- The product by 2^-53 of a number that becomes one of the least. -/
theorem fmul_den {n t X : Nat} (ht : t ≤ 52) (h2 : 4503599627370496 ≤ n * 2 ^ t) (h3 : n * 2 ^ t < 9007199254740992) (hn : n < 4503599627370496) (hX : X = (53 - t) * 4503599627370496 + n * 2 ^ t) : fmul (val 4368491638549381120) (val X) = some n := by
  have hl : X < 9218868437227405312 := by omega
  have hf : IsFin X := by unfold IsFin; omega
  have hw : IsW X := by unfold IsW; omega
  have ho : IsFin 4368491638549381120 := by unfold IsFin; decide
  obtain ⟨r, h1, hN⟩ := fmul_spec (a := 4368491638549381120) (b := X) (by unfold IsW; decide) hw ho hf
  rw [ho.val, hf.val, h1]
  have hs : neg X = false := by unfold neg; rw [decide_eq_false_iff_not]; omega
  have hm : mag 4368491638549381120 = big 1021 := by decide +kernel
  have hmx : mag X = n * 2 ^ 53 := by
    unfold mag
    rw [Nat.mod_eq_of_lt (show X < 9223372036854775808 by omega), hX, mgn_form _ _ (Or.inr h2) (Nat.le_of_lt h3), Nat.mul_assoc, ← Nat.pow_add, show t + (53 - t) = 53 by omega]
  rw [hm, hmx] at hN
  have hr := hN.exact (s := n) (by omega) (by
    have : mgn n = n := by unfold mgn; rw [if_pos hn]
    rw [this]
    have e : big (53 + 1021) = 2 ^ 53 * big 1021 := by unfold big; exact Nat.pow_add 2 53 1021
    show n * big (53 + 1021) = big 1021 * (n * 2 ^ 53)
    rw [Nat.mul_comm (big 1021), Nat.mul_assoc, ← e])
  rw [hs, hr]
  rfl
theorem andnot_exp {x : Nat} (hx : x < 9223372036854775808) : bits .andNot .u64 (x : Int) 9218868437227405312 = ((x % 4503599627370496 : Nat) : Int) := by
  show IntKind.u64.wrap ((BitVec.ofInt 64 (x : Int) &&& ~~~ (BitVec.ofInt 64 9218868437227405312)).toNat : Int) = _
  have e : (~~~ (BitVec.ofInt 64 9218868437227405312)).toNat = 9227875636482146303 := by decide
  have hb : ∀ i : Fin 63, (9227875636482146303 : Nat).testBit i.val = decide (i.val < 52) := by decide +kernel
  have hk : x &&& 9227875636482146303 = x % 2 ^ 52 := by
    apply Nat.eq_of_testBit_eq
    intro i
    rw [Nat.testBit_and, Nat.testBit_mod_two_pow]
    by_cases hi : i < 63
    · rw [hb ⟨i, hi⟩, Bool.and_comm]
    · have h0 : x.testBit i = false := Nat.testBit_lt_two_pow (Nat.lt_of_lt_of_le (show x < 2 ^ 63 by omega) (Nat.pow_le_pow_right (by decide) (by omega)))
      rw [h0]
      simp
  rw [BitVec.toNat_and, e, BitVec.ofInt_natCast, BitVec.toNat_ofNat, Nat.mod_eq_of_lt (show x < 2 ^ 64 by omega), hk, IntKind.wrap_u64]
  omega
theorem and_exp : ∀ q : Fin 2048, bits .and .i64 (q.val : Int) 2047 = (q.val : Int) := by decide +kernel
theorem isNaN_fin {x : Nat} (hx : x < 9218868437227405312) (w : World) : Calls Tryz.prog 123 #[.float .f64 x] w fun e w' => e = .returned (.bool false) ∧ w = w' := by
  have hf : IsFin x := by unfold IsFin; omega
  have h : feq (val x) (val x) = true := by
    rw [hf.val, feq_key (by unfold IsW; omega) (by unfold IsW; omega) hf.nan hf.nan]
    simp
  go_enter Tryz.func123, Tryz.ntmps123
  go_wp2
  go_ret
  exact ⟨rfl, rfl⟩
theorem normalize_big {x : Nat} (h1 : 4503599627370496 ≤ x) (hx : x < 9218868437227405312) (w : World) : Calls Tryz.prog 124 #[.float .f64 x] w fun e w' => e = .returned (.tuple #[.float .f64 x, .int .i64 0]) ∧ w = w' := by
  have hf : IsFin x := by unfold IsFin; omega
  have hs : sizeB x = x := by unfold sizeB; omega
  have h : flt (val x) (val 4503599627370496) = false := by
    rw [hf.val, show val 4503599627370496 = some 4503599627370496 by decide +kernel, flt_key (by unfold IsW; omega) (by unfold IsW; omega) hf.nan (by decide +kernel), decide_eq_false_iff_not]
    unfold key
    rw [if_pos (by omega), if_pos (by omega)]
    omega
  have HA := hid fun w => mabs_any x w
  rw [hs] at HA
  clear hs
  go_enter Tryz.func124, Tryz.ntmps124
  go_wp2_with (first | (go_at_call 84; refine (HA.out _).mono ?_; rintro e w' ⟨rfl, rfl⟩))
  go_ret2
  exact ⟨rfl, rfl⟩
/-- The power that brings a number up to 53 bits. -/
theorem hex_up {n : Nat} (h0 : 1 ≤ n) (hn : n ≤ 9007199254740992) : ∃ t, t ≤ 52 ∧ 4503599627370496 ≤ n * 2 ^ t ∧ n * 2 ^ t ≤ 9007199254740992 ∧ (n < 9007199254740992 → n * 2 ^ t < 9007199254740992) ∧ (4503599627370496 ≤ n → t = 0) ∧ (n < 4503599627370496 → 1 ≤ t) := by
  by_cases h1 : 4503599627370496 ≤ n
  · exact ⟨0, by omega, by omega, by omega, by omega, by omega, by omega⟩
  · have a1 := Nat.log2_self_le (show n ≠ 0 by omega)
    have a2 := @Nat.lt_log2_self n
    have a3 : n.log2 < 52 := by
      rw [← Nat.pow_lt_pow_iff_right (a := 2) (by omega)]
      omega
    have b1 : 2 ^ 52 ≤ n * 2 ^ (52 - n.log2) := by
      have := Nat.mul_le_mul_right (2 ^ (52 - n.log2)) a1
      rw [← Nat.pow_add, show n.log2 + (52 - n.log2) = 52 by omega] at this
      exact this
    have b2 : n * 2 ^ (52 - n.log2) < 2 ^ 53 := by
      have := Nat.mul_lt_mul_of_pos_right a2 (Nat.two_pow_pos (52 - n.log2))
      rw [← Nat.pow_add, show n.log2 + 1 + (52 - n.log2) = 53 by omega] at this
      exact this
    exact ⟨52 - n.log2, by omega, by omega, by omega, by omega, by omega, by omega⟩
/-- What is told: the rung, at most infinity's. -/
def ldW (n : Nat) (u : Int) : Nat := min (n + (u + 1074).toNat * 4503599627370496) 9218868437227405312
theorem p52 : (2 : Nat) ^ 52 = 4503599627370496 := by decide
theorem ld_inf {n v : Nat} (h : 2047 ≤ v + n / 4503599627370496) : min (n + v * 4503599627370496) 9218868437227405312 = 9218868437227405312 := by
  have h1 := Nat.div_add_mod n 4503599627370496
  generalize n / 4503599627370496 = q at *
  generalize n % 4503599627370496 = r at *
  omega
theorem ld_fin {n v : Nat} (h : v + n / 4503599627370496 ≤ 2046) : n % 4503599627370496 + (v + n / 4503599627370496) * 4503599627370496 = n + v * 4503599627370496 ∧ n + v * 4503599627370496 < 9218868437227405312 ∧ min (n + v * 4503599627370496) 9218868437227405312 = n + v * 4503599627370496 := by
  have h1 := Nat.div_add_mod n 4503599627370496
  have h2 := Nat.mod_lt n (show 0 < 4503599627370496 by decide)
  generalize n / 4503599627370496 = q at *
  generalize n % 4503599627370496 = r at *
  omega
set_option maxRecDepth 100000 in
set_option maxHeartbeats 4000000 in
theorem ldexp_n (n : Nat) (u : Int) (h0 : 1 ≤ n) (hn : n ≤ 9007199254740992) (hu : -1074 ≤ u) (hu2 : u ≤ 1000000) (hb : u = -1074 ∨ 4503599627370496 ≤ n) (w : World) : Calls Tryz.prog 101 #[.float .f64 (ofInt (n : Int)), .int .i64 u] w (RetF w (some (ldW n u))) := by
  obtain ⟨t, t1, t2, t3, t4, t5, t6⟩ := hex_up h0 hn
  have hx := ofInt_pos h0 t1 t2 t3
  obtain ⟨k, hk⟩ : ∃ k, k = n * 2 ^ t := ⟨_, rfl⟩
  rw [← hk] at t2 t3 t4 hx
  obtain ⟨x, hxd⟩ : ∃ x, x = ofInt (n : Int) := ⟨_, rfl⟩
  rw [← hxd] at hx ⊢
  replace hxd := hid hxd
  have hk0 : 4503599627370496 ≤ n → k = n := fun h => by rw [hk, t5 h, Nat.pow_zero, Nat.mul_one]
  have x1 : 4503599627370496 ≤ x := by omega
  have x2 : x < 9218868437227405312 := by omega
  obtain ⟨E, hE⟩ : ∃ E, E = x / 4503599627370496 := ⟨_, rfl⟩
  obtain ⟨F, hF⟩ : ∃ F, F = x % 4503599627370496 := ⟨_, rfl⟩
  have e1 : (x : Int) / 4503599627370496 = (E : Int) := by omega
  have hE2 : E < 2048 := by omega
  have e2 := and_exp ⟨E, hE2⟩
  dsimp only at e2
  have e3 := andnot_exp (x := x) (by omega)
  rw [← hF] at e3
  have hf : IsFin x := by unfold IsFin; omega
  have q1 : feq (val x) (val 0) = false := by
    rw [hf.val, show val 0 = some 0 by decide +kernel, feq_key (by unfold IsW; omega) isW_0 hf.nan (by decide +kernel), decide_eq_false_iff_not]
    unfold key
    rw [if_pos (by omega), if_pos (by omega)]
    omega
  have q2 : flt (val x) (val 0) = false := by
    rw [hf.val, show val 0 = some 0 by decide +kernel, flt_key (by unfold IsW; omega) isW_0 hf.nan (by decide +kernel), decide_eq_false_iff_not]
    unfold key
    rw [if_pos (by omega), if_pos (by omega)]
    omega
  have HI := hid fun w => isInf_any x w
  rw [isInf_fin hf] at HI
  have HN := hid fun w => isNaN_fin x2 w
  have HZ := hid fun w => normalize_big x1 x2 w
  have HF := hid inf_any
  -- the power of the result
  have hE3 : E = 1074 - t + k / 4503599627370496 := by omega
  have hF3 : F = k % 4503599627370496 := by omega
  obtain ⟨v, hv⟩ : ∃ v : Nat, u = (v : Int) - 1074 := ⟨(u + 1074).toNat, by omega⟩
  have hw0 : ldW n u = min (n + v * 4503599627370496) 9218868437227405312 := by unfold ldW; rw [show (u + 1074).toNat = v by omega]
  obtain ⟨W, hW⟩ : ∃ W, W = ldW n u := ⟨_, rfl⟩
  rw [← hW] at hw0 ⊢
  replace hW := hid hW
  have HW0 := hid hw0
  clear hw0
  obtain ⟨e, he⟩ : ∃ e : Int, e = u + ((E : Int) - 1023) := ⟨_, rfl⟩
  have e4 : u + ((E : Int) - 1023) = e := he.symm
  have hvb : v ≤ 1001074 := by omega
  have eb : -2100 ≤ e ∧ e ≤ 1002100 := by
    have := hE2
    generalize k / 4503599627370496 = q at *
    omega
  by_cases c0 : 4503599627370496 ≤ n
  · have hkn := hk0 c0
    have ht0 := t5 c0
    rw [hkn, ht0] at hE3
    rw [hkn] at hF3
    have heq : e = (v : Int) + ((n / 4503599627370496 : Nat) : Int) - 1023 := by omega
    have c2 : ¬ e < -1022 := by
      have : 1 ≤ n / 4503599627370496 := by omega
      omega
    by_cases c1 : 1023 < e
    · have hw := hid (HW0.out.trans (ld_inf (by omega)))
      clear HW0 hE hF hk hx hE3 hF3 he e3 hk0 t1 t2 t3 t4 t5 t6 heq hkn ht0 hv
      go_enter Tryz.func101, Tryz.ntmps101
      go_wp2_with (first | (go_at_call 70; refine (HI.out _).mono ?_; rintro e w' ⟨rfl, rfl⟩) | (go_at_call 123; refine (HN.out _).mono ?_; rintro e w' ⟨rfl, rfl⟩) | (go_at_call 124; refine (HZ.out _).mono ?_; rintro e w' ⟨rfl, rfl⟩) | (go_at_call 82; refine (HF.out _).mono ?_; rintro e w' ⟨rfl, rfl⟩) | ((with_reducible refine upon_fadd ?_); intro r n hr hl) | ((with_reducible refine upon_fsub ?_); intro r n hr hl) | ((with_reducible refine upon_fmul ?_); intro r n hr hl) | ((with_reducible refine upon_fdiv ?_); intro r n hr hl) | ((with_reducible refine upon_fmax (by assumption) (by assumption) ?_); intro r n hr hl) | ((with_reducible refine upon_fmin (by assumption) (by assumption) ?_); intro r n hr hl))
      go_ret
      exact ⟨_, rfl, (by first | with_reducible exact Dr.mk _ _ | with_reducible exact Dr.refl _), by rw [hw.out]; decide +kernel, isW_inf⟩
    · obtain ⟨w1, w2, w3⟩ := ld_fin (n := n) (v := v) (by omega)
      replace w3 := hid w3
      obtain ⟨Y, hY⟩ : ∃ Y, Y = v + n / 4503599627370496 := ⟨_, rfl⟩
      rw [← hY] at w1
      rw [← hF3] at w1
      have y1 : e + 1023 = (Y : Int) := by omega
      have hY2 : Y ≤ 2046 := by omega
      have y2 : IntKind.u64.wrap ((Y : Int) * 4503599627370496) = ((Y * 4503599627370496 : Nat) : Int) := by rw [IntKind.wrap_u64]; omega
      have hFl : F < 4503599627370496 := by rw [hF3]; exact Nat.mod_lt _ (by decide)
      have y3 : bits .or .u64 (F : Int) ((Y * 4503599627370496 : Nat) : Int) = ((F + Y * 4503599627370496 : Nat) : Int) := or_up (c := F) (s := 52) (by rw [p52]; exact hFl) ⟨Y, by rw [p52]⟩ (by omega)
      obtain ⟨Z, hZ⟩ : ∃ Z, Z = Y * 4503599627370496 := ⟨_, rfl⟩
      obtain ⟨X, hX⟩ : ∃ X, X = F + Y * 4503599627370496 := ⟨_, rfl⟩
      rw [← hX] at y3 w1
      rw [← hZ] at y2 y3
      have hw := hid (HW0.out.trans (w3.out.trans w1.symm))
      have hXl : X < 9218868437227405312 := by rw [w1]; exact w2
      have HM := hid (fmul_one hXl)
      clear HW0 hE hF hk hx hE3 hF3 he hk0 t1 t2 t3 t4 t5 t6 heq hkn ht0 hv hY w1 w2 w3 hX hZ
      go_enter Tryz.func101, Tryz.ntmps101
      go_wp2_with (first | (go_at_call 70; refine (HI.out _).mono ?_; rintro e w' ⟨rfl, rfl⟩) | (go_at_call 123; refine (HN.out _).mono ?_; rintro e w' ⟨rfl, rfl⟩) | (go_at_call 124; refine (HZ.out _).mono ?_; rintro e w' ⟨rfl, rfl⟩) | ((with_reducible refine upon_fadd ?_); intro r n hr hl) | ((with_reducible refine upon_fsub ?_); intro r n hr hl) | ((with_reducible refine upon_fmul ?_); intro r n hr hl) | ((with_reducible refine upon_fdiv ?_); intro r n hr hl) | ((with_reducible refine upon_fmax (by assumption) (by assumption) ?_); intro r n hr hl) | ((with_reducible refine upon_fmin (by assumption) (by assumption) ?_); intro r n hr hl))
      go_ret
      exact ⟨_, rfl, (by repeat (first | with_reducible exact Dr.refl _ | with_reducible refine Dr.more ?_ _)), by rw [hr, HM.out, hw.out], hl⟩
  · have hu0 : u = -1074 := by rcases hb with hb | hb; exact hb; exact absurd hb c0
    have ht1 := t6 (by omega)
    have hk2 := t4 (by omega)
    have hq1 : k / 4503599627370496 = 1 := by omega
    have hEt : E = 1075 - t := by omega
    have heq : e = -1022 - (t : Int) := by omega
    have hv0 : v = 0 := by omega
    have hw1 : W = n := by rw [HW0.out, hv0, Nat.zero_mul, Nat.add_zero]; exact Nat.min_eq_left (by clear HW0; omega)
    obtain ⟨Y, hY⟩ : ∃ Y, Y = 54 - t := ⟨_, rfl⟩
    have y0 : e + 53 + 1023 = (Y : Int) := by omega
    have y1 : (e + 53) + 1023 = (Y : Int) := y0
    have hY2 : Y ≤ 2046 := by omega
    have y2 : IntKind.u64.wrap ((Y : Int) * 4503599627370496) = ((Y * 4503599627370496 : Nat) : Int) := by rw [IntKind.wrap_u64]; omega
    have hFl : F < 4503599627370496 := by rw [hF3]; exact Nat.mod_lt _ (by decide)
    have y3 : bits .or .u64 (F : Int) ((Y * 4503599627370496 : Nat) : Int) = ((F + Y * 4503599627370496 : Nat) : Int) := or_up (c := F) (s := 52) (by rw [p52]; exact hFl) ⟨Y, by rw [p52]⟩ (by omega)
    obtain ⟨Z, hZ⟩ : ∃ Z, Z = Y * 4503599627370496 := ⟨_, rfl⟩
    obtain ⟨X, hX⟩ : ∃ X, X = F + Y * 4503599627370496 := ⟨_, rfl⟩
    rw [← hX] at y3
    rw [← hZ] at y2 y3
    have hX2 : X = (53 - t) * 4503599627370496 + n * 2 ^ t := by rw [← hk, hX, hY, hF3]; omega
    have HM := hid (fmul_den t1 (by rw [← hk]; exact t2) (by rw [← hk]; exact hk2) (by omega) hX2)
    have hw := hid hw1
    have z1 : -1075 ≤ e := by omega
    have z2 : e ≤ -1023 := by omega
    have z3 : e + 53 ≤ 0 := by omega
    clear HW0 hE hF hk hx hE3 hF3 he hk0 t1 t2 t3 t4 t5 t6 heq hv hY hX hZ hX2 hq1 hEt hv0 hw1 y0 hu0 hk2 eb hb
    go_enter Tryz.func101, Tryz.ntmps101
    go_wp2_with (first | (go_at_call 70; refine (HI.out _).mono ?_; rintro e w' ⟨rfl, rfl⟩) | (go_at_call 123; refine (HN.out _).mono ?_; rintro e w' ⟨rfl, rfl⟩) | (go_at_call 124; refine (HZ.out _).mono ?_; rintro e w' ⟨rfl, rfl⟩) | ((with_reducible refine upon_fadd ?_); intro r n hr hl) | ((with_reducible refine upon_fsub ?_); intro r n hr hl) | ((with_reducible refine upon_fmul ?_); intro r n hr hl) | ((with_reducible refine upon_fdiv ?_); intro r n hr hl) | ((with_reducible refine upon_fmax (by assumption) (by assumption) ?_); intro r n hr hl) | ((with_reducible refine upon_fmin (by assumption) (by assumption) ?_); intro r n hr hl))
    go_ret
    exact ⟨_, rfl, (by repeat (first | with_reducible exact Dr.refl _ | with_reducible refine Dr.more ?_ _)), by rw [hr, HM.out, hw.out], hl⟩
theorem Ldexp_n (n : Nat) (u : Int) (h0 : 1 ≤ n) (hn : n ≤ 9007199254740992) (hu : -1074 ≤ u) (hu2 : u ≤ 1000000) (hb : u = -1074 ∨ 4503599627370496 ≤ n) (w : World) : Calls Tryz.prog 77 #[.float .f64 (ofInt (n : Int)), .int .i64 u] w (RetF w (some (ldW n u))) := by
  obtain ⟨x, hx⟩ : ∃ x, x = ofInt (n : Int) := ⟨_, rfl⟩
  have H := hid (ldexp_n n u h0 hn hu hu2 hb w)
  rw [← hx] at H ⊢
  clear hx
  go_enter Tryz.func77, Tryz.ntmps77
  go_wp2_with (first | (go_at_call 101; refine H.out.mono ?_; rintro e w' ⟨x, rfl, ⟨n, rfl⟩, hr, hl⟩))
  go_ret
  exact ⟨_, rfl, (by repeat (first | with_reducible exact Dr.refl _ | with_reducible refine Dr.more ?_ _)), hr, hl⟩
end Go.Proofs.YtfalbdlfopfgcaaGreatDoor

