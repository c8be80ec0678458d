/- internal/strconv's uscale, plainly (2): the law. Written by wip/sh/us_gen.py. internal/strconv's parseFloat64, plainly: the word is the nearest to d * 10^p, an even one in the middle. No condition but the program's own bounds. internal/strconv's pack64 and parseFloat64, plainly: the word is the nearest to d * 10^p, an even one in the middle. No condition but the program's own bounds. internal/strconv's parseFloat64, plainly: the word is the nearest to d * 10^p, an even one in the middle. No condition but the program's own bounds. -/
import Derived.Test.YtfalbdlfopfgcaaGreatDoorUs
import Derived.Test.YtfalbdlfopfgcaaGreatDoorOrdM
namespace Go.Proofs.YtfalbdlfopfgcaaGreatDoor

theorem usc_law (hi lo n d X s : Nat) (hd : 0 < d) (hrow : rowChk n d hi lo = true) (hX1 : 9223372036854775808 ≤ X) (hX2 : X < 18446744073709551616) (hh : hi < 18446744073709551616) (hs : 8 ≤ s)
    (gap : ∀ c, c * (d * 2 ^ 136) < X * n + 2 * 18446744073709551616 * d → X * n ≤ c * (d * 2 ^ 136) + 18446744073709551616 * d → X * n = c * (d * 2 ^ 136)) :
    uscN X hi lo s = (X * n / (d * 2 ^ (128 + s))) ||| (if X * n % (d * 2 ^ (128 + s)) = 0 then 0 else 1) := by
  unfold rowChk at hrow
  simp only [Bool.and_eq_true, decide_eq_true_eq] at hrow
  obtain ⟨hlo, hle, hn2, hn1⟩ := hrow
  have hBB : 2 ^ (128 + s) = 340282366920938463463374607431768211456 * 2 ^ s := by rw [Nat.pow_add]
  have h136 : ∀ Q, Q * 2 ^ (s - 8) * (d * 2 ^ 136) = d * (340282366920938463463374607431768211456 * (2 ^ s * Q)) := by
    intro Q
    have e : 2 ^ (s - 8) * 2 ^ 136 = 340282366920938463463374607431768211456 * 2 ^ s := by
      rw [← Nat.pow_add, ← hBB]
      congr 1
      omega
    have e2 : Q * 2 ^ (s - 8) * (d * 2 ^ 136) = d * Q * (2 ^ (s - 8) * 2 ^ 136) := by
      generalize 2 ^ (s - 8) = u
      generalize 2 ^ 136 = v
      grind
    rw [e2, e]
    generalize 2 ^ s = v
    grind
  obtain ⟨P, hP⟩ : ∃ P, P = hi * 18446744073709551616 - lo := ⟨_, rfl⟩
  rw [← hP] at hn1 hn2
  have hP2 : hi * 18446744073709551616 = P + lo := by omega
  clear hP hle
  obtain ⟨U, hU⟩ : ∃ U, U = X * n := ⟨_, rfl⟩
  rw [← hU] at gap ⊢
  obtain ⟨K, hK⟩ : ∃ K, K = X * P := ⟨_, rfl⟩
  obtain ⟨A, hA⟩ : ∃ A, A = X * hi := ⟨_, rfl⟩
  obtain ⟨C, hC⟩ : ∃ C, C = X * lo := ⟨_, rfl⟩
  have hAC : A * 18446744073709551616 = K + C := by rw [hA, hK, hC, Nat.mul_assoc, hP2, Nat.mul_add]
  have hCX : C + X ≤ X * 18446744073709551616 := by
    have := Nat.mul_le_mul_left X (show lo + 1 ≤ 18446744073709551616 from hlo)
    rw [Nat.mul_succ, ← hC] at this
    exact this
  have hCb : C ≤ 18446744073709551615 * 18446744073709551615 := by rw [hC]; exact Nat.mul_le_mul (by omega) (by omega)
  have hAb : A ≤ 18446744073709551615 * 18446744073709551615 := by rw [hA]; exact Nat.mul_le_mul (by omega) (by omega)
  have f1 : U ≤ d * K := by
    have := Nat.mul_le_mul_left X hn1
    rw [← Nat.mul_assoc, ← hU, ← hK, Nat.mul_comm K] at this
    exact this
  have f2 : d * K < U + d * X := by
    have := Nat.mul_lt_mul_of_pos_left hn2 (show 0 < X by omega)
    rw [← Nat.mul_assoc, ← hK, Nat.mul_add, ← hU, Nat.mul_comm K, Nat.mul_comm X] at this
    exact this
  unfold uscN
  rw [← hA, ← hC]
  clear hA hC hK hU hn1 hn2 hP2 hh hlo
  have hV := Nat.div_add_mod U d
  have hρ := Nat.mod_lt U hd
  have hD1 : U / (d * 2 ^ (128 + s)) = U / d / 340282366920938463463374607431768211456 / 2 ^ s := by rw [hBB, Nat.div_div_eq_div_mul, Nat.div_div_eq_div_mul]
  have hD2 : U % (d * 2 ^ (128 + s)) = U % d + d * (U / d % 340282366920938463463374607431768211456 + 340282366920938463463374607431768211456 * (U / d / 340282366920938463463374607431768211456 % 2 ^ s)) := by
    rw [hBB, Nat.mod_mul, Nat.mod_mul]
  rw [hD1, hD2]
  clear hD1 hD2 hBB
  generalize U / d = V at *
  generalize U % d = ρ at *
  have hV1 : V ≤ K := by
    apply Nat.le_of_mul_le_mul_left _ hd
    omega
  have hV2 : K ≤ V + X := by
    have : d * K < d * (V + X + 1) := by rw [Nat.mul_succ, Nat.mul_add]; omega
    have := Nat.lt_of_mul_lt_mul_left this
    omega
  have hv := Nat.div_add_mod V 340282366920938463463374607431768211456
  have hr := Nat.mod_lt V (show 0 < 340282366920938463463374607431768211456 by omega)
  generalize hvv : V / 340282366920938463463374607431768211456 = v at *
  generalize hrr : V % 340282366920938463463374607431768211456 = r at *
  have hH := Nat.div_add_mod A 18446744073709551616
  have hM := Nat.mod_lt A (show 0 < 18446744073709551616 by omega)
  have hHb : A / 18446744073709551616 ≤ 18446744073709551615 := by omega
  generalize A / 18446744073709551616 = H at *
  generalize A % 18446744073709551616 = M at *
  have hT := Nat.div_add_mod C 18446744073709551616
  have hT3 := Nat.mod_lt C (show 0 < 18446744073709551616 by omega)
  have hT2 : C / 18446744073709551616 ≤ 18446744073709551614 := by omega
  generalize C / 18446744073709551616 = T2 at *
  generalize C % 18446744073709551616 = T3 at *
  have hS := Nat.two_pow_pos s
  have hQ := Nat.div_add_mod H (2 ^ s)
  have hσ := Nat.mod_lt H hS
  have hS2 : 256 ≤ 2 ^ s := Nat.pow_le_pow_right (by omega) hs (n := 2)
  have hst : ∀ x, (r ≠ 0 ∨ v % 2 ^ s ≠ 0) → x = ρ + d * (r + 340282366920938463463374607431768211456 * (v % 2 ^ s)) → (if x = 0 then 0 else 1) = 1 := by
    intro x hx hx2
    rw [if_neg]
    intro h0
    have h1 : d * (r + 340282366920938463463374607431768211456 * (v % 2 ^ s)) = 0 := by omega
    rcases Nat.mul_eq_zero.1 h1 with h | h <;> omega
  have hgap := gap (H / 2 ^ s * 2 ^ (s - 8))
  rw [h136] at hgap
  clear gap h136
  have hQ2 : H / 2 ^ s * 2 ^ s = H - H % 2 ^ s := by rw [Nat.mul_comm]; omega
  have f3 : d * K = d * K := rfl
  by_cases hc : H % 2 ^ s = 0
  · have hQ3 : H / 2 ^ s * 2 ^ s = H := by omega
    rw [if_neg (by rw [hQ3]; exact fun h => h rfl)]
    by_cases hMT : M < T2
    · rw [if_pos hMT]
      have hH1 : 1 ≤ H := by omega
      have hvH : v = H - 1 := by omega
      have hr2 : r ≠ 0 := by omega
      rw [hst _ (.inl hr2) rfl, if_pos (by omega), show (H + 18446744073709551616 - 1) % 18446744073709551616 = H - 1 by omega, hvH]
    · rw [if_neg hMT, show (H + 18446744073709551616 - 0) % 18446744073709551616 = H by omega, show (M + 18446744073709551616 - T2) % 18446744073709551616 = M - T2 by omega]
      by_cases hΔ : 1 < M - T2
      · have hvH : v = H := by omega
        have hr2 : r ≠ 0 := by omega
        rw [if_pos hΔ, hst _ (.inl hr2) rfl, hvH]
      · rw [if_neg hΔ]
        have hQH : 2 ^ s * (H / 2 ^ s) = H := by omega
        rw [hQH] at hgap
        have k1 : K ≤ 340282366920938463463374607431768211456 * H + 18446744073709551616 := by omega
        have k2 : 340282366920938463463374607431768211456 * H + 2 + X ≤ K + 2 * 18446744073709551616 := by omega
        have k3 := Nat.mul_le_mul_left d k1
        have k4 := Nat.mul_le_mul_left d k2
        have e1 := hgap (by rw [Nat.mul_add, Nat.mul_add, Nat.mul_add] at k4; omega) (by rw [Nat.mul_add] at k3; omega)
        have e2 : V = 340282366920938463463374607431768211456 * H := by
          apply Nat.le_antisymm
          · apply Nat.le_of_mul_le_mul_left _ hd
            omega
          · apply Nat.le_of_lt_succ
            apply Nat.lt_of_mul_lt_mul_left (a := d)
            rw [Nat.mul_succ]
            omega
        have e3 : ρ = 0 := by
          rw [e2] at hV
          omega
        have hvH : v = H := by omega
        have hr0 : r = 0 := by omega
        rw [hvH, hr0, e3, hc, if_pos (by omega)]
  · rw [if_pos (by rw [hQ2]; omega)]
    have hv1 : v = H ∨ (v = H - 1 ∧ r ≠ 0) := by omega
    rcases hv1 with hv1 | ⟨hv1, hr0⟩
    · rw [hst _ (.inr (by rw [hv1]; exact hc)) rfl, hv1]
    · have e1 : (H - 1) / 2 ^ s = H / 2 ^ s := by
        have e2 : H - 1 = (H % 2 ^ s - 1) + 2 ^ s * (H / 2 ^ s) := by omega
        rw [e2, Nat.add_mul_div_left _ _ hS, Nat.div_eq_of_lt (show H % 2 ^ s - 1 < 2 ^ s by omega), Nat.zero_add]
      rw [hst _ (.inl hr0) rfl, hv1, e1]
/-- uscale is right, for every power the program asks for. -/
theorem usc_any (p : Int) (h1 : -345 ≤ p) (h2 : p ≤ 310) (X s : Nat) (hX1 : 9223372036854775808 ≤ X) (hX2 : X < 18446744073709551616) (hs : 8 ≤ s) :
    uscN X (p10 (p + 348).toNat).1 (p10 (p + 348).toNat).2 s = (X * cN p / (cD p * 2 ^ (128 + s))) ||| (if X * cN p % (cD p * 2 ^ (128 + s)) = 0 then 0 else 1) := by
  have h := List.all_eq_true.1 us_rows (p + 345).toNat (by rw [List.mem_range]; omega)
  rw [Bool.and_eq_true, show (((p + 345).toNat : Nat) : Int) - 345 = p by omega, show (p + 345).toNat + 3 = (p + 348).toNat by omega] at h
  exact usc_law _ _ _ _ X s (cD_pos p) h.1 hX1 hX2 (p10_lt _).1 hs fun c => gap_of (cD_pos p) h.2 X c hX1 hX2
theorem top_any (p : Int) (h1 : -345 ≤ p) (h2 : p ≤ 310) : 2 ^ 127 * cD p ≤ cN p ∧ cN p * 1024 ≤ 2 ^ 128 * 1023 * cD p := by
  have h := List.all_eq_true.1 us_top (p + 345).toNat (by rw [List.mem_range]; omega)
  rw [show (((p + 345).toNat : Nat) : Int) - 345 = p by omega] at h
  unfold topChk at h
  rw [Bool.and_eq_true, decide_eq_true_eq, decide_eq_true_eq] at h
  exact h
end Go.Proofs.YtfalbdlfopfgcaaGreatDoor

namespace Go.Proofs.YtfalbdlfopfgcaaGreatDoor

/-- A whole part with two bits more and a sticky bit, rounded to even, gives the nearest rung. -/
theorem near_unr {Vn Q q k st u : Nat} (hQ : 0 < Q) (hk : k = Vn / (Q * 2 ^ (q + 1))) (hst : (st = 0 ∧ Vn % (Q * 2 ^ (q + 1)) = 0) ∨ (st = 1 ∧ Vn % (Q * 2 ^ (q + 1)) ≠ 0)) (hu : u = 2 * k + st)
    (hlt : u < 36028797018963968) (hge : q = 0 ∨ 18014398509481984 ≤ u) (s : Nat) :
    s + 1 ≤ q * 4503599627370496 + (u + 1 + u / 4 % 2) / 4 ↔ (2 * mid s * Q < Vn ∨ (2 * mid s * Q = Vn ∧ s % 2 = 1)) := by
  have hP := Nat.two_pow_pos q
  have hp2 : 2 ^ (2 + q) = 4 * 2 ^ q := by rw [Nat.pow_add]
  have hp1 : 2 ^ (q + 1) = 2 * 2 ^ q := by rw [Nat.pow_succ, Nat.mul_comm]
  have hK : KeptE (u * 2 ^ q) (2 + q) ((u + 1 + u / 4 % 2) / 4) := by
    unfold KeptE
    rw [hp2, Nat.mul_div_mul_right _ _ hP, Nat.mul_mod_mul_right]
    have c1 : ∀ y : Nat, (4 * 2 ^ q < 2 * (y * 2 ^ q) ↔ 4 < 2 * y) := fun y => by
      rw [← Nat.mul_assoc]
      exact Nat.mul_lt_mul_right hP
    have c2 : ∀ y : Nat, (4 * 2 ^ q = 2 * (y * 2 ^ q) ↔ 4 = 2 * y) := fun y => by
      rw [← Nat.mul_assoc]
      exact ⟨fun h => Nat.eq_of_mul_eq_mul_right hP h, fun h => by rw [h]⟩
    simp only [c1, c2]
    split <;> omega
  have hbr := bracketM (b := 2) (q := q) hK
    (by rw [hp2, ← Nat.mul_assoc]; exact Nat.mul_lt_mul_of_pos_right (by omega) hP)
    (hge.imp id fun h => by rw [hp2, ← Nat.mul_assoc]; exact Nat.mul_le_mul_right _ (by omega)) s
  rw [hbr]
  have hmd : (∃ t, mid s = t * 2 ^ q) ∨ (18014398509481984 ≤ u ∧ mid s < 9007199254740992 * 2 ^ q) := by
    cases q with
    | zero => exact .inl ⟨mid s, by simp⟩
    | succ t =>
      rcases mid_dvd s t with h | ⟨k, h⟩
      · right
        refine ⟨hge.resolve_left (by omega), ?_⟩
        rw [Nat.pow_succ]
        omega
      · left
        exact ⟨k, by rw [h, Nat.pow_succ]; grind⟩
  rcases hmd with ⟨t, ht⟩ | ⟨h1, h2⟩
  · have hq := quotT (T := 2 * t) (n := Q * 2 ^ (q + 1)) (D := Vn) (k := k) (st := st) (Nat.mul_pos hQ (Nat.two_pow_pos _)) hk hst (.inl ⟨t, rfl⟩)
    rw [← hu] at hq
    have e1 : 2 * t * (Q * 2 ^ (q + 1)) = 2 * (2 * mid s * Q) := by rw [ht, hp1]; grind
    rw [e1] at hq
    have e2 : mid s * 2 ^ 2 = 2 * (2 * t * 2 ^ q) := by rw [ht]; grind
    rw [e2]
    have c1 : 2 * (2 * t * 2 ^ q) < 2 * (u * 2 ^ q) ↔ 2 * t < u := by
      rw [Nat.mul_lt_mul_left (show 0 < 2 by omega)]
      exact Nat.mul_lt_mul_right hP
    have c2 : 2 * (2 * t * 2 ^ q) = 2 * (u * 2 ^ q) ↔ 2 * t = u :=
      ⟨fun h => Nat.eq_of_mul_eq_mul_right hP (by omega), fun h => by rw [h]⟩
    rw [c1, c2]
    obtain ⟨q1, q2⟩ := hq
    generalize 2 * mid s * Q = a at *
    rw [← q1, ← q2]
    omega
  · have l1 : mid s * 2 ^ 2 < 2 * (u * 2 ^ q) := by
      have := Nat.mul_le_mul_right (2 ^ q) h1
      omega
    have l2 : 2 * mid s * Q < Vn := by
      have a1 : 9007199254740992 ≤ k := by
        rcases hst with h | h <;> omega
      have a2 := Nat.mul_le_mul_right (Q * 2 ^ (q + 1)) a1
      have a3 : k * (Q * 2 ^ (q + 1)) ≤ Vn := by
        rw [hk]
        exact Nat.div_mul_le_self _ _
      have a4 : 2 * mid s * Q < 2 * (9007199254740992 * 2 ^ q) * Q := Nat.mul_lt_mul_of_pos_right (by omega) hQ
      have a5 : 9007199254740992 * (Q * 2 ^ (q + 1)) = 2 * (9007199254740992 * 2 ^ q) * Q := by rw [hp1]; grind
      omega
    exact ⟨fun _ => .inl l2, fun _ => .inl l1⟩

/-- One ratio, two ways: the same whole part, the same sticky bit. -/
theorem ratio_div {A B C D : Nat} (hB : 0 < B) (hD : 0 < D) (h : A * D = C * B) : A / B = C / D ∧ (A % B = 0 ↔ C % D = 0) := by
  have e1 : A / B = C / D := by
    rw [← Nat.mul_div_mul_right A B hD, h, Nat.mul_comm B D, Nat.mul_div_mul_right C D hB]
  refine ⟨e1, ?_⟩
  have e2 : A % B * D = C % D * B := by
    rw [← Nat.mul_mod_mul_right, h, Nat.mul_comm B D, Nat.mul_mod_mul_right]
  constructor
  · intro h0
    rw [h0, Nat.zero_mul] at e2
    rcases Nat.mul_eq_zero.1 e2.symm with h | h <;> omega
  · intro h0
    rw [h0, Nat.zero_mul] at e2
    rcases Nat.mul_eq_zero.1 e2 with h | h <;> omega
/-- The whole part with a sticky bit in its last place, told by the half. -/
theorem or_sticky (A B : Nat) (hB : 0 < B) : ∃ st, ((st = 0 ∧ A % (B * 2) = 0) ∨ (st = 1 ∧ A % (B * 2) ≠ 0)) ∧ (A / B) ||| (if A % B = 0 then 0 else 1) = 2 * (A / (B * 2)) + st := by
  rw [← Nat.div_div_eq_div_mul, Nat.mod_mul]
  generalize A / B = f
  have hb : 2 * (f / 2) + 1 = 2 * (f / 2) ||| 1 := Nat.two_pow_add_eq_or_of_lt (i := 1) (b := 1) (by omega) (f / 2)
  have ho : f ||| 1 = 2 * (f / 2) + 1 := by
    rcases Nat.mod_two_eq_zero_or_one f with h | h
    · have e : 2 * (f / 2) = f := by omega
      rw [e] at hb ⊢
      exact hb.symm
    · have e : f = 2 * (f / 2) + 1 := by omega
      rw [hb] at e
      have e2 : f ||| 1 = (2 * (f / 2) ||| 1) ||| 1 := congrArg (· ||| 1) e
      rw [e2, Nat.or_assoc, Nat.or_self, hb]
  by_cases hr : A % B = 0
  · rw [hr, if_pos rfl, Nat.or_zero]
    rcases Nat.mod_two_eq_zero_or_one f with h | h
    · exact ⟨0, .inl ⟨rfl, by rw [h]; simp⟩, by omega⟩
    · refine ⟨1, .inr ⟨rfl, ?_⟩, by omega⟩
      rw [h, Nat.zero_add, Nat.mul_one]
      omega
  · rw [if_neg hr, ho]
    exact ⟨1, .inr ⟨rfl, by omega⟩, rfl⟩

theorem bitLen_two {d : Nat} (hd0 : 0 < d) (hd : d < 18446744073709551616) : 1 ≤ Lib.bitLen d ∧ Lib.bitLen d ≤ 64 ∧ 2 ^ (Lib.bitLen d - 1) ≤ d ∧ d < 2 ^ Lib.bitLen d :=
  ⟨(bitLenAux_spec 64 d hd hd0).1, bitLen_le d, (bitLenAux_spec 64 d hd hd0).2.1, (bitLenAux_spec 64 d hd hd0).2.2⟩
/-- The number: d times ten to the p, in units of 2^-1074, as a fraction. -/
def tenV (d : Nat) (p : Int) : Nat := d * 10 ^ p.toNat * 2 ^ 1074
def tenD (p : Int) : Nat := 10 ^ (-p).toNat
theorem ten_pow (k : Nat) : 10 ^ k = 5 ^ k * 2 ^ k := by rw [← Nat.mul_pow]
/-- uscale's ratio is the number in quarters of the last place. -/
theorem usc_ratio (d : Nat) (p : Int) (b s q : Nat) (hb : b ≤ 64) (hs : (s : Int) = 61 - b - pfL p - (1074 - q)) :
    (d * 2 ^ (64 - b) * cN p) * (tenD p * 2 ^ q) = (4 * tenV d p) * (cD p * 2 ^ (128 + s)) := by
  unfold cN cD tenV tenD
  rw [ten_pow, ten_pow]
  have e : 2 ^ (64 - b) * 2 ^ (p + 127 - pfL p).toNat * 2 ^ (-p).toNat * 2 ^ q = 4 * 2 ^ p.toNat * 2 ^ 1074 * 2 ^ (-(p + 127 - pfL p)).toNat * 2 ^ (128 + s) := by
    rw [show (4 : Nat) = 2 ^ 2 from rfl]
    simp only [← Nat.pow_add]
    congr 1
    omega
  generalize 2 ^ (64 - b) = a1 at *
  generalize 2 ^ (p + 127 - pfL p).toNat = a2 at *
  generalize 2 ^ (-p).toNat = a3 at *
  generalize 2 ^ q = a4 at *
  generalize 2 ^ p.toNat = a5 at *
  generalize 2 ^ 1074 = a6 at *
  generalize 2 ^ (-(p + 127 - pfL p)).toNat = a7 at *
  generalize 2 ^ (128 + s) = a8 at *
  generalize 5 ^ p.toNat = f1
  generalize 5 ^ (-p).toNat = f2
  have e' := congrArg (d * f1 * f2 * ·) e
  grind
end Go.Proofs.YtfalbdlfopfgcaaGreatDoor

namespace Go.Proofs.YtfalbdlfopfgcaaGreatDoor

theorem and_split (i a y b z : Nat) (hy : y < 2 ^ i) (hz : z < 2 ^ i) : (2 ^ i * a + y) &&& (2 ^ i * b + z) = 2 ^ i * (a &&& b) + (y &&& z) := by
  apply Nat.eq_of_testBit_eq
  intro j
  have hyz : y &&& z < 2 ^ i := Nat.lt_of_le_of_lt Nat.and_le_left hy
  rw [Nat.testBit_and, Nat.testBit_two_pow_mul_add _ hy, Nat.testBit_two_pow_mul_add _ hz, Nat.testBit_two_pow_mul_add _ hyz]
  split <;> simp [Nat.testBit_and]
theorem or_sum (i a y : Nat) (hy : y < 2 ^ i) : 2 ^ i * a ||| y = 2 ^ i * a + y := (Nat.two_pow_add_eq_or_of_lt hy a).symm
theorem sg_or (sg m : Nat) (hsg : sg = 0 ∨ sg = 9223372036854775808) (hm : m < 9223372036854775808) : sg ||| m = sg + m := by
  rcases hsg with rfl | rfl
  · simp
  · exact or_sum 63 1 m hm
theorem and_low (y : Nat) : y &&& 4503599627370495 = y % 4503599627370496 := Nat.and_two_pow_sub_one_eq_mod y 52
theorem bit52 (sg m : Nat) (hsg : sg = 0 ∨ sg = 9223372036854775808) (hm : m < 9007199254740992) :
    (sg + m) &&& 4503599627370496 = (m / 4503599627370496) * 4503599627370496 ∧ (sg + m) &&& 18442240474082181119 = sg + m % 4503599627370496 ∧ (sg + m) &&& 9223372036854775808 = sg := by
  obtain ⟨a, ha, ha2⟩ : ∃ a, sg = 2 ^ 53 * a ∧ (a = 0 ∨ a = 1024) := by
    rcases hsg with rfl | rfl
    · exact ⟨0, rfl, .inl rfl⟩
    · exact ⟨1024, rfl, .inr rfl⟩
  have h1 := and_split 53 a m 0 4503599627370496 hm (by decide)
  have h2 := and_split 53 a m 2047 4503599627370495 hm (by decide)
  have h3 := and_split 53 a m 1024 0 hm (by decide)
  rw [← ha] at h1 h2 h3
  rw [and_low] at h2
  rw [Nat.and_zero, show 2 ^ 53 * 0 + 4503599627370496 = 4503599627370496 by decide, Nat.mul_zero, Nat.zero_add] at h1
  rw [show 2 ^ 53 * 2047 + 4503599627370495 = 18442240474082181119 by decide] at h2
  rw [Nat.and_zero, show 2 ^ 53 * 1024 + 0 = 9223372036854775808 by decide, Nat.add_zero] at h3
  have e1 : m &&& 4503599627370496 = (m / 4503599627370496) * 4503599627370496 := by
    have h4 := and_split 52 (m / 4503599627370496) (m % 4503599627370496) 1 0 (Nat.mod_lt _ (by decide)) (by decide)
    rw [show 2 ^ 52 * (m / 4503599627370496) + m % 4503599627370496 = m by omega, Nat.and_zero] at h4
    have h5 : m / 4503599627370496 = 0 ∨ m / 4503599627370496 = 1 := by omega
    rcases h5 with h | h <;> rw [h] at h4 ⊢ <;> simpa using h4
  refine ⟨?_, ?_, ?_⟩
  · rw [h1, e1]
  · rw [h2, ha]
    rcases ha2 with rfl | rfl
    · rw [show (0 &&& 2047 : Nat) = 0 from rfl]
    · rw [show (1024 &&& 2047 : Nat) = 1024 from by decide]
  · rw [h3, ha]
    rcases ha2 with rfl | rfl
    · rw [show (0 &&& 1024 : Nat) = 0 from rfl]
    · rw [show (1024 &&& 1024 : Nat) = 1024 from by decide]
/-- pack64 lays the rung m + q * 2^52, the sign before it; above all finite words the infinity, with an error. -/
theorem pack_law (sg m q : Nat) (e : Int) (hsg : sg = 0 ∨ sg = 9223372036854775808) (hm : m < 9007199254740992) (hq : q = 0 ∨ 4503599627370496 ≤ m) (he : e = (q : Int) - 1074) :
    packN (sg ||| m) e = sg + min (q * 4503599627370496 + m) 9218868437227405312 ∧ packE (sg ||| m) e = if 9218868437227405312 ≤ q * 4503599627370496 + m then .iface 155 (.int .i64 1) else .nilIface := by
  obtain ⟨b1, b2, b3⟩ := bit52 sg m hsg hm
  rw [sg_or sg m hsg (by omega)]
  unfold packN packE
  rw [b1, b2, b3]
  by_cases h : m < 4503599627370496
  · have hq0 : q = 0 := by omega
    subst hq0
    rw [show m / 4503599627370496 * 4503599627370496 = 0 by omega, if_pos rfl, if_pos rfl, if_neg (by omega), Nat.min_eq_left (by omega)]
    exact ⟨by omega, rfl⟩
  · have hX : ¬ m / 4503599627370496 * 4503599627370496 = 0 := by omega
    rw [if_neg hX, if_neg hX]
    by_cases h2 : 972 ≤ e
    · have hq2 : 2046 ≤ q := by omega
      rw [if_pos h2, if_pos h2, if_pos (by omega), Nat.min_eq_right (by omega)]
      refine ⟨?_, rfl⟩
      exact sg_or sg 9218868437227405312 hsg (by omega)
    · rw [if_neg h2, if_neg h2, if_neg (by omega), Nat.min_eq_left (by omega)]
      refine ⟨?_, rfl⟩
      have e1 : (1075 + e).toNat = q + 1 := by omega
      rw [e1]
      have e2 : (sg + m % 4503599627370496) ||| (q + 1) * 4503599627370496 = sg + m % 4503599627370496 + (q + 1) * 4503599627370496 := by
        have hlo : m % 4503599627370496 < 2 ^ 52 := Nat.mod_lt _ (by decide)
        rcases hsg with rfl | rfl
        · rw [Nat.zero_add, Nat.or_comm, Nat.mul_comm, show (4503599627370496 : Nat) = 2 ^ 52 from rfl, or_sum 52 (q + 1) _ hlo]
          omega
        · rw [← sg_or 9223372036854775808 _ (.inr rfl) (by omega), Nat.or_assoc, Nat.or_comm (m % 4503599627370496), Nat.mul_comm (q + 1), show (4503599627370496 : Nat) = 2 ^ 52 from rfl, or_sum 52 (q + 1) _ hlo, sg_or 9223372036854775808 _ (.inr rfl) (by omega), sg_or 9223372036854775808 _ (.inr rfl) (by omega)]
          omega
      rw [e2]
      omega

/-- The rung that parseFloat64 comes to. -/
theorem pf_low {d : Nat} {p : Int} (h1 : -345 ≤ p) (h2 : p ≤ 310) (b s q : Nat) (hb : b ≤ 64) (hdb : d < 2 ^ b) (hs64 : 64 ≤ s) (hs : (s : Int) = 61 - b - pfL p - (1074 - q)) (hq : q = 0) :
    2 * tenV d p < tenD p := by
  have hr := usc_ratio d p b s q hb hs
  obtain ⟨-, ht⟩ := top_any p h1 h2
  have hD := cD_pos p
  rw [hq, Nat.pow_zero, Nat.mul_one] at hr
  have hx : d * 2 ^ (64 - b) < 18446744073709551616 := by
    have := Nat.mul_lt_mul_of_pos_right hdb (Nat.two_pow_pos (64 - b))
    rw [← Nat.pow_add, show b + (64 - b) = 64 by omega] at this
    exact this
  have hQ : 0 < tenD p := Nat.pow_pos (by decide)
  generalize d * 2 ^ (64 - b) = X at *
  generalize cN p = n at *
  generalize cD p = D at *
  generalize tenD p = Q at *
  generalize tenV d p = V at *
  have a1 : X * n ≤ 18446744073709551616 * (2 ^ 128 * D) := Nat.mul_le_mul (by omega) (by omega)
  have a2 := Nat.mul_le_mul_right Q a1
  rw [hr] at a2
  have a3 : 2 ^ 192 ≤ 2 ^ (128 + s) := Nat.pow_le_pow_right (by omega) (by omega)
  have a4 := Nat.mul_le_mul_left (4 * V * D) a3
  have a5 : 4 * V * D * 2 ^ 192 ≤ D * Q * 2 ^ 192 := by
    have e1 : 4 * V * D * 2 ^ (128 + s) = 4 * V * (D * 2 ^ (128 + s)) := by rw [Nat.mul_assoc]
    have e2 : 18446744073709551616 * (2 ^ 128 * D) * Q = D * Q * 2 ^ 192 := by
      generalize Q = Q'
      rw [show (2 : Nat) ^ 192 = 18446744073709551616 * 2 ^ 128 from by decide]
      generalize (2 : Nat) ^ 128 = t
      grind
    refine Nat.le_trans a4 ?_
    rw [e1, ← e2]
    exact a2
  clear a1 a2 a3 a4
  have a6 := Nat.le_of_mul_le_mul_right a5 (Nat.two_pow_pos _)
  rw [Nat.mul_comm D] at a6
  have a7 := Nat.le_of_mul_le_mul_right a6 hD
  omega
end Go.Proofs.YtfalbdlfopfgcaaGreatDoor

namespace Go.Proofs.YtfalbdlfopfgcaaGreatDoor

theorem f_up {X n D s : Nat} (hX : X < 18446744073709551616) (ht : n * 1024 ≤ 2 ^ 128 * 1023 * D) (hs : 8 ≤ s) : X * n / (D * 2 ^ (128 + s)) ≤ 71987225293750272 := by
  apply Nat.div_le_of_le_mul
  have a0 : 2 ^ 136 ≤ 2 ^ (128 + s) := Nat.pow_le_pow_right (by decide) (by omega)
  have a1 : X * (n * 1024) ≤ 18446744073709551616 * (2 ^ 128 * 1023 * D) := Nat.mul_le_mul (Nat.le_of_lt hX) ht
  have a2 := Nat.mul_le_mul_right 71987225293750272 (Nat.mul_le_mul_left D a0)
  refine Nat.le_trans ?_ a2
  have e1 : X * (n * 1024) = X * n * 1024 := by rw [Nat.mul_assoc]
  have e2 : 18446744073709551616 * (2 ^ 128 * 1023 * D) = D * 2 ^ 136 * 71987225293750272 * 1024 := by
    rw [show (2 : Nat) ^ 136 = 2 ^ 128 * 256 from by decide]
    generalize (2 : Nat) ^ 128 = t
    grind
  rw [e1, e2] at a1
  exact Nat.le_of_mul_le_mul_right a1 (by decide)
theorem f_lo {X n D : Nat} (hD : 0 < D) (hX : 9223372036854775808 ≤ X) (ht : 2 ^ 127 * D ≤ n) : 18014398509481984 ≤ X * n / (D * 2 ^ (128 + 8)) := by
  rw [Nat.le_div_iff_mul_le (Nat.mul_pos hD (Nat.two_pow_pos _))]
  have a1 := Nat.mul_le_mul hX ht
  have e : 18014398509481984 * (D * 2 ^ (128 + 8)) = 9223372036854775808 * (2 ^ 127 * D) := by
    rw [show (2 : Nat) ^ (128 + 8) = 2 ^ 127 * 512 from by decide]
    generalize (2 : Nat) ^ 127 = t
    grind
  rw [e]
  exact a1
/-- The rounding, the unit one greater where 53 bits are passed. -/
theorem pf_round {Vn Q q k st u : Nat} (hQ : 0 < Q) (hk : k = Vn / (Q * 2 ^ (q + 1))) (hst : (st = 0 ∧ Vn % (Q * 2 ^ (q + 1)) = 0) ∨ (st = 1 ∧ Vn % (Q * 2 ^ (q + 1)) ≠ 0)) (hu : u = 2 * k + st)
    (hlt : u ≤ 71987225293750273) (hge : q = 0 ∨ 18014398509481984 ≤ u) :
    (pfM (pfV u) < 9007199254740992 ∧ (q + (if 36028797018963966 ≤ u then 1 else 0) = 0 ∨ 4503599627370496 ≤ pfM (pfV u))) ∧
    ∀ s, s + 1 ≤ (q + (if 36028797018963966 ≤ u then 1 else 0)) * 4503599627370496 + pfM (pfV u) ↔ (2 * mid s * Q < Vn ∨ (2 * mid s * Q = Vn ∧ s % 2 = 1)) := by
  have hand : u &&& 1 = u % 2 := Nat.and_one_is_mod u
  by_cases h : 36028797018963966 ≤ u
  · simp only [if_pos h]
    obtain ⟨st2, hs2, he2⟩ := or_sticky u 2 (by omega)
    have e1 : (if u % 2 = 0 then 0 else 1) = u % 2 := by split <;> omega
    rw [e1] at he2
    have hv : pfV u = 2 * (u / 4) + st2 := by
      unfold pfV
      rw [if_pos h, hand]
      exact he2
    rw [hv]
    have hst2 : st2 ≤ 1 := by omega
    by_cases h4 : 36028797018963968 ≤ u
    · refine ⟨⟨by unfold pfM; omega, .inr (by unfold pfM; omega)⟩, fun s => ?_⟩
      refine near_unr (k := u / 4) (st := st2) hQ ?_ ?_ rfl (by omega) (.inr (by omega)) s
      · rw [show u / 4 = k / 2 by omega, hk, Nat.div_div_eq_div_mul, Nat.pow_succ 2 (q + 1), Nat.mul_assoc]
      · have em : Vn % (Q * 2 ^ (q + 1 + 1)) = Vn % (Q * 2 ^ (q + 1)) + Q * 2 ^ (q + 1) * (k % 2) := by
          rw [hk, Nat.pow_succ 2 (q + 1), ← Nat.mul_assoc, Nat.mod_mul]
        rw [em]
        have hP : 0 < Q * 2 ^ (q + 1) := Nat.mul_pos hQ (Nat.two_pow_pos _)
        generalize Vn % (Q * 2 ^ (q + 1)) = ρ at *
        generalize Q * 2 ^ (q + 1) = g at *
        clear hk em
        rcases Nat.mod_two_eq_zero_or_one k with hk2 | hk2 <;> rw [hk2] <;> simp <;> omega
    · have hu2 : pfM (2 * (u / 4) + st2) = 4503599627370496 ∧ (u + 1 + u / 4 % 2) / 4 = 9007199254740992 := by
        unfold pfM
        omega
      rw [hu2.1]
      refine ⟨⟨by omega, .inr (Nat.le_refl _)⟩, fun s => ?_⟩
      rw [← near_unr hQ hk hst hu (by omega) hge s, hu2.2]
      omega
  · simp only [if_neg h, Nat.add_zero]
    have hv : pfV u = u := by
      unfold pfV
      rw [if_neg h]
    rw [hv]
    refine ⟨⟨by unfold pfM; omega, ?_⟩, fun s => ?_⟩
    · rcases hge with h | h
      · exact .inl h
      · right
        unfold pfM
        omega
    · exact near_unr hQ hk hst hu (by omega) hge s

theorem dbl_le (a v : Nat) : 2 * a < 4 * v ↔ a < 2 * v := by omega
theorem dbl_eq (a v : Nat) : 2 * a = 4 * v ↔ a = 2 * v := by omega
theorem low_law {P : Prop} (a Q v m : Nat) (hm : 1 ≤ m) (h : 2 * v < Q) (ha : a = m * Q) : ¬ (a < 2 * v ∨ (a = 2 * v ∧ P)) := by
  have := Nat.mul_le_mul_right Q hm
  omega
/-- parseFloat64's word is the nearest to d * 10^p, its sign before it; the error says that it is infinite. -/
theorem pf_near {d : Nat} {p : Int} (hd0 : 0 < d) (hd : d < 18446744073709551616) (h1 : -345 ≤ p) (h2 : p ≤ 310) :
    ∃ r, NearM (tenV d p) (tenD p) r ∧ ∀ sg, (sg = 0 ∨ sg = 9223372036854775808) → pfN d p sg = sg + r ∧ pfG d p sg = if 9218868437227405312 ≤ r then .iface 155 (.int .i64 1) else .nilIface := by
  obtain ⟨hb1, hb2, hdl, hdb⟩ := bitLen_two hd0 hd
  have hL := pfL_b h1 h2
  have hS8 := pfS_b d p
  have hQ : 0 < tenD p := Nat.pow_pos (by decide)
  unfold pfN pfG
  by_cases h64 : 64 ≤ pfS d p
  · refine ⟨0, ⟨by omega, fun s hs => ?_⟩, fun sg hsg => ?_⟩
    · have hlow := pf_low (d := d) h1 h2 (Lib.bitLen d) (pfS d p).toNat 0 hb2 hdb (by omega) (by unfold pfS pfE at *; omega) rfl
      have hm : 1 ≤ mid s := by
        have := @mgn_lt s (s + 1) (by omega)
        unfold mid
        omega
      exact ⟨fun h => absurd h (by omega), fun h => absurd h (low_law _ _ _ _ hm hlow rfl)⟩
    · rw [if_pos h64, if_pos h64, if_neg (by omega)]
      exact ⟨rfl, rfl⟩
  · obtain ⟨q, hq⟩ : ∃ q : Nat, (q : Int) = 1074 - pfE d p := ⟨(1074 - pfE d p).toNat, by unfold pfE; omega⟩
    obtain ⟨s, hs⟩ : ∃ s : Nat, (s : Int) = pfS d p := ⟨(pfS d p).toNat, by omega⟩
    have hqs : q = 0 ∨ s = 8 := by
      unfold pfS pfE at *
      omega
    have hs2 : (s : Int) = 61 - Lib.bitLen d - pfL p - (1074 - q) := by
      unfold pfS at hs
      omega
    have hr := usc_ratio d p (Lib.bitLen d) s q hb2 hs2
    obtain ⟨tl, tu⟩ := top_any p h1 h2
    have hD := cD_pos p
    have hX1 : 9223372036854775808 ≤ d * 2 ^ (64 - Lib.bitLen d) := by
      have := Nat.mul_le_mul_right (2 ^ (64 - Lib.bitLen d)) hdl
      rw [← Nat.pow_add, show Lib.bitLen d - 1 + (64 - Lib.bitLen d) = 63 by omega] at this
      exact this
    have hX2 : d * 2 ^ (64 - Lib.bitLen d) < 18446744073709551616 := by
      have := Nat.mul_lt_mul_of_pos_right hdb (Nat.two_pow_pos (64 - Lib.bitLen d))
      rw [← Nat.pow_add, show Lib.bitLen d + (64 - Lib.bitLen d) = 64 by omega] at this
      exact this
    have hU : pfU d p = (4 * tenV d p / (tenD p * 2 ^ q)) ||| (if 4 * tenV d p % (tenD p * 2 ^ q) = 0 then 0 else 1) ∧ 4 * tenV d p / (tenD p * 2 ^ q) ≤ 71987225293750272 ∧ (q = 0 ∨ 18014398509481984 ≤ 4 * tenV d p / (tenD p * 2 ^ q)) := by
      obtain ⟨r1, r2⟩ := ratio_div (Nat.mul_pos hD (Nat.two_pow_pos (128 + s))) (Nat.mul_pos hQ (Nat.two_pow_pos q)) hr
      have hu := usc_any p h1 h2 _ s hX1 hX2 (by omega)
      have hup := f_up hX2 tu (show 8 ≤ s by omega)
      have hlo : q = 0 ∨ 18014398509481984 ≤ d * 2 ^ (64 - Lib.bitLen d) * cN p / (cD p * 2 ^ (128 + s)) := by
        rcases hqs with h | h
        · exact .inl h
        · right
          rw [h]
          exact f_lo hD hX1 tl
      rw [r1] at hup hlo hu
      simp only [r2] at hu
      refine ⟨?_, hup, hlo⟩
      unfold pfU
      rw [show (pfS d p).toNat = s by omega]
      exact hu
    obtain ⟨hU1, hU2, hU3⟩ := hU
    obtain ⟨st, hst, he⟩ := or_sticky (4 * tenV d p) (tenD p * 2 ^ q) (Nat.mul_pos hQ (Nat.two_pow_pos q))
    rw [← hU1] at he
    have hg : tenD p * 2 ^ q * 2 = tenD p * 2 ^ (q + 1) := by rw [Nat.mul_assoc, Nat.pow_succ]
    have hf : 4 * tenV d p / (tenD p * 2 ^ q) / 2 = 4 * tenV d p / (tenD p * 2 ^ q * 2) := Nat.div_div_eq_div_mul _ _ _
    rw [hg] at hst he hf
    have hub : pfU d p ≤ 71987225293750273 ∧ (q = 0 ∨ 18014398509481984 ≤ pfU d p) := by
      rw [he]
      generalize 4 * tenV d p / (tenD p * 2 ^ (q + 1)) = k at *
      omega
    have hR := pf_round hQ rfl hst he hub.1 hub.2
    generalize hc : (if 36028797018963966 ≤ pfU d p then 1 else 0) = c at hR
    have hcI : (if 36028797018963966 ≤ pfU d p then (1 : Int) else 0) = (c : Int) := by rw [← hc]; split <;> rfl
    obtain ⟨⟨hm, hqm⟩, hR⟩ := hR
    refine ⟨min ((q + c) * 4503599627370496 + pfM (pfV (pfU d p))) 9218868437227405312, ⟨Nat.min_le_right _ _, fun t ht => ?_⟩, fun sg hsg => ?_⟩
    · rw [← dbl_le (mid t * tenD p) (tenV d p), ← dbl_eq (mid t * tenD p) (tenV d p), ← Nat.mul_assoc, ← hR t]
      exact ⟨fun h => Nat.le_trans h (Nat.min_le_left _ _), fun h => Nat.le_min.2 ⟨h, ht⟩⟩
    · rw [if_neg h64, if_neg h64, hcI]
      obtain ⟨p1, p2⟩ := pack_law sg (pfM (pfV (pfU d p))) (q + c) (-(pfE d p - c)) hsg hm hqm (by omega)
      rw [p1, p2]
      refine ⟨rfl, ?_⟩
      by_cases hi : 9218868437227405312 ≤ (q + c) * 4503599627370496 + pfM (pfV (pfU d p))
      · rw [if_pos hi, if_pos (Nat.le_min.2 ⟨hi, Nat.le_refl _⟩)]
      · rw [if_neg hi, if_neg fun h => hi (Nat.le_min.1 h).1]
end Go.Proofs.YtfalbdlfopfgcaaGreatDoor
