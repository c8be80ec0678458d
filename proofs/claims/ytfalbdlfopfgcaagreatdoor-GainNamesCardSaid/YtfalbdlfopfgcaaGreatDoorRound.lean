/- Rounding: the nearest word of an exact number lies between the words that bracket it. No program, no condition but that the number is not nought. -/
import Derived.Test.YtfalbdlfopfgcaaGreatDoorOrd
namespace Go.Proofs.YtfalbdlfopfgcaaGreatDoor

theorem mgn_form (q k : Nat) (h : q = 0 ∨ 4503599627370496 ≤ k) (hk : k ≤ 9007199254740992) : mgn (q * 4503599627370496 + k) = k * 2 ^ q := by
  unfold mgn
  by_cases hq : q = 0
  · subst hq
    by_cases h1 : k < 4503599627370496
    · rw [if_pos (by omega)]; simp
    · rw [if_neg (by omega)]
      by_cases h2 : k = 9007199254740992
      · subst h2; decide
      · have e1 : (0 * 4503599627370496 + k) / 4503599627370496 = 1 := by omega
        have e2 : (0 * 4503599627370496 + k) % 4503599627370496 = k - 4503599627370496 := by omega
        rw [e1, e2]
        simp
        omega
  · have h3 : 4503599627370496 ≤ k := by omega
    rw [if_neg (by omega)]
    by_cases h2 : k = 9007199254740992
    · subst h2
      have e1 : (q * 4503599627370496 + 9007199254740992) / 4503599627370496 = q + 2 := by omega
      have e2 : (q * 4503599627370496 + 9007199254740992) % 4503599627370496 = 0 := by omega
      rw [e1, e2, show q + 2 - 1 = q + 1 from by omega, Nat.pow_succ]
      omega
    · have e1 : (q * 4503599627370496 + k) / 4503599627370496 = q + 1 := by omega
      have e2 : (q * 4503599627370496 + k) % 4503599627370496 = k - 4503599627370496 := by omega
      rw [e1, e2, show q + 1 - 1 = q from by omega, show 4503599627370496 + (k - 4503599627370496) = k from by omega]

/-- What is kept of a number V of units, the last 'c' digits being dropped. -/
def Kept (V c k : Nat) : Prop := k = V / 2 ^ c ∨ (k = V / 2 ^ c + 1 ∧ V % 2 ^ c ≠ 0)

theorem cut_kept (neg : Bool) (m drop a : Nat) (hm : 0 < m) : Kept (m * 2 ^ a) (a + drop) (Ieee.Toward.even.cut neg m drop) := by
  have hV1 : m * 2 ^ a / 2 ^ (a + drop) = m / 2 ^ drop := by
    rw [Nat.add_comm, Nat.pow_add, Nat.mul_div_mul_right _ _ (Nat.two_pow_pos a)]
  have hV2 : m * 2 ^ a % 2 ^ (a + drop) = (m % 2 ^ drop) * 2 ^ a := by
    rw [Nat.add_comm, Nat.pow_add, Nat.mul_mod_mul_right]
  have hlt : m < 2 ^ (m.log2 + 1) := Nat.lt_log2_self
  unfold Kept
  rw [hV1, hV2]
  unfold Ieee.Toward.cut
  simp only [Nat.shiftLeft_eq, Nat.one_mul]
  by_cases hd : drop ≤ m.log2 + 2
  · rw [Nat.min_eq_left hd]
    have hg := Nat.two_pow_pos drop
    generalize 2 ^ drop = g at *
    by_cases hc : (decide (g < 2 * (m % g)) || g == 2 * (m % g) && m / g % 2 == 1) = true
    · right
      rw [hc]
      refine ⟨rfl, ?_⟩
      have hr : 0 < m % g := by
        simp only [Bool.or_eq_true, decide_eq_true_eq, Bool.and_eq_true, beq_iff_eq] at hc
        omega
      exact Nat.pos_iff_ne_zero.1 (Nat.mul_pos hr (Nat.two_pow_pos a))
    · left
      simp only [Bool.not_eq_true] at hc
      rw [hc]
      rfl
  · rw [Nat.min_eq_right (by omega)]
    have hg : m < 2 ^ drop := Nat.lt_of_lt_of_le hlt (Nat.pow_le_pow_right (by omega) (by omega))
    have h4 : 2 ^ (m.log2 + 2) = 2 * 2 ^ (m.log2 + 1) := by rw [Nat.pow_succ, Nat.mul_comm]
    generalize 2 ^ (m.log2 + 1) = u at *
    rw [h4, Nat.mod_eq_of_lt (show m < 2 * u from by omega), Nat.div_eq_of_lt (show m < 2 * u from by omega), Nat.div_eq_of_lt hg]
    left
    have hc : (decide (2 * u < 2 * m) || 2 * u == 2 * m && 0 % 2 == 1) = false := by
      have h1 : ¬ 2 * u < 2 * m := by omega
      simp [h1]
    rw [hc]
    rfl

theorem kept_bounds {V c k : Nat} (h : Kept V c k) : V / 2 ^ c ≤ k ∧ k ≤ V / 2 ^ c + 1 := by
  rcases h with h | h <;> omega

/-- The rung that 'nearest' comes to lies between those that bracket the number V. Units: 2^-(1074 + b). -/
theorem bracket {V b q k : Nat} (hk : Kept V (b + q) k) (hV : V < 9007199254740992 * 2 ^ (b + q)) (hq : q = 0 ∨ 4503599627370496 * 2 ^ (b + q) ≤ V) (s : Nat) :
    (mgn s * 2 ^ b ≤ V → s ≤ q * 4503599627370496 + k) ∧ (V ≤ mgn s * 2 ^ b → q * 4503599627370496 + k ≤ s) := by
  have hb := Nat.two_pow_pos b
  have hc := Nat.two_pow_pos (b + q)
  have hpc : 2 ^ (b + q) = 2 ^ q * 2 ^ b := by rw [Nat.add_comm, Nat.pow_add]
  have hdm := Nat.div_add_mod V (2 ^ (b + q))
  have hlow : V / 2 ^ (b + q) < 9007199254740992 := Nat.div_lt_of_lt_mul (by rw [Nat.mul_comm]; exact hV)
  have hq2 : q = 0 ∨ 4503599627370496 ≤ V / 2 ^ (b + q) := hq.imp id fun h => (Nat.le_div_iff_mul_le hc).2 h
  constructor
  · intro hs
    apply Nat.le_of_not_lt
    intro hlt
    have hkb := (kept_bounds hk).1
    have h1 : mgn s < 9007199254740992 * 2 ^ q := by
      refine Nat.lt_of_mul_lt_mul_right (a := 2 ^ b) ?_
      rw [Nat.mul_assoc, ← hpc]
      exact Nat.lt_of_le_of_lt hs hV
    have h2 : s < q * 4503599627370496 + 9007199254740992 := by
      apply Nat.lt_of_not_le
      intro h
      have := mgn_le h
      rw [mgn_form q 9007199254740992 (.inr (by omega)) (by omega)] at this
      omega
    obtain ⟨k', rfl⟩ : ∃ k', s = q * 4503599627370496 + k' := ⟨s - q * 4503599627370496, by omega⟩
    rw [mgn_form q k' (by omega) (by omega), Nat.mul_assoc, ← hpc] at hs
    have := (Nat.le_div_iff_mul_le hc).2 hs
    omega
  · intro hs
    apply Nat.le_of_not_lt
    intro hlt
    rcases hk with hk | ⟨hk, hr⟩
    · have h1 := mgn_lt hlt
      rw [hk, mgn_form q _ hq2 (by omega)] at h1
      have h2 : mgn s * 2 ^ b < V / 2 ^ (b + q) * 2 ^ q * 2 ^ b := Nat.mul_lt_mul_of_pos_right h1 hb
      rw [Nat.mul_assoc, ← hpc, Nat.mul_comm (V / 2 ^ (b + q))] at h2
      omega
    · have h1 : mgn s ≤ mgn (q * 4503599627370496 + V / 2 ^ (b + q)) := mgn_le (by omega)
      rw [mgn_form q _ hq2 (by omega)] at h1
      have h2 : mgn s * 2 ^ b ≤ V / 2 ^ (b + q) * 2 ^ q * 2 ^ b := Nat.mul_le_mul_right _ h1
      rw [Nat.mul_assoc, ← hpc, Nat.mul_comm (V / 2 ^ (b + q))] at h2
      omega

/-- THE LAW OF ROUNDING. -/
theorem nearest_spec (neg : Bool) (m : Nat) (e : Int) (hm : 0 < m) :
    ∃ r, Ieee.double.nearest neg m e = Ieee.double.word neg r ∧ r ≤ 9218868437227405312 ∧
      ∀ (s : Nat) (p : Int), s ≤ 9218868437227405312 → p ≤ -1074 → p ≤ e →
        (mgn s * 2 ^ (-1074 - p).toNat ≤ m * 2 ^ (e - p).toNat → s ≤ r) ∧ (m * 2 ^ (e - p).toNat ≤ mgn s * 2 ^ (-1074 - p).toNat → r ≤ s) := by
  have h2 : Ieee.double.binade = 4503599627370496 := by decide +kernel
  have h3 : Ieee.double.infRung = 9218868437227405312 := by decide +kernel
  have h4 : Ieee.double.leastPlace = -1074 := by decide +kernel
  have h5 : Ieee.double.fractionBits = 52 := rfl
  unfold Ieee.Format.nearest
  simp only [h2, h3, h4, h5]
  rw [if_neg (by omega)]
  have hL1 : 2 ^ m.log2 ≤ m := Nat.log2_self_le (by omega)
  have hL2 : m < 2 ^ (m.log2 + 1) := Nat.lt_log2_self
  generalize m.log2 = L at *
  obtain ⟨last, hlast⟩ : ∃ last : Int, last = max (e + (L : Int) - 52) (-1074) := ⟨_, rfl⟩
  rw [show max (e + (L : Int) - ((52 : Nat) : Int)) (-1074) = last from by rw [hlast]; rfl]
  refine ⟨_, rfl, Nat.min_le_right _ _, fun s p hs hp1 hp2 => ?_⟩
  obtain ⟨b, hb⟩ : ∃ b : Nat, b = (-1074 - p).toNat := ⟨_, rfl⟩
  obtain ⟨a, ha⟩ : ∃ a : Nat, a = (e - p).toNat := ⟨_, rfl⟩
  obtain ⟨q, hq⟩ : ∃ q : Nat, q = (last - -1074).toNat := ⟨_, rfl⟩
  rw [← hb, ← ha, ← hq]
  have hk : Kept (m * 2 ^ a) (b + q) (Ieee.Toward.even.cut neg (m <<< (e - last).toNat) (last - e).toNat) := by
    rcases Int.lt_or_le e last with h | h
    · rw [show (e - last).toNat = 0 from by omega, Nat.shiftLeft_zero, show b + q = a + (last - e).toNat from by omega]
      exact cut_kept neg m _ a hm
    · rw [show (last - e).toNat = 0 from by omega, Nat.shiftLeft_eq]
      have hc := cut_kept neg (m * 2 ^ (e - last).toNat) 0 (b + q) (Nat.mul_pos hm (Nat.two_pow_pos _))
      rwa [Nat.mul_assoc, ← Nat.pow_add, show (e - last).toNat + (b + q) = a from by omega, Nat.add_zero] at hc
  have hV : m * 2 ^ a < 9007199254740992 * 2 ^ (b + q) := by
    have h1 : m * 2 ^ a < 2 ^ (L + 1) * 2 ^ a := Nat.mul_lt_mul_of_pos_right hL2 (Nat.two_pow_pos a)
    rw [← Nat.pow_add] at h1
    refine Nat.lt_of_lt_of_le h1 ?_
    rw [show (9007199254740992 : Nat) = 2 ^ 53 from by decide, ← Nat.pow_add]
    exact Nat.pow_le_pow_right (by omega) (by omega)
  have hq0 : q = 0 ∨ 4503599627370496 * 2 ^ (b + q) ≤ m * 2 ^ a := by
    by_cases h0 : q = 0
    · exact .inl h0
    · right
      have h1 : 2 ^ L * 2 ^ a ≤ m * 2 ^ a := Nat.mul_le_mul_right _ hL1
      refine Nat.le_trans ?_ h1
      rw [← Nat.pow_add, show (4503599627370496 : Nat) = 2 ^ 52 from by decide, ← Nat.pow_add]
      exact Nat.pow_le_pow_right (by omega) (by omega)
  have hbr := bracket hk hV hq0 s
  constructor
  · intro h
    exact Nat.le_min.2 ⟨hbr.1 h, hs⟩
  · intro h
    exact Nat.le_trans (Nat.min_le_left _ _) (hbr.2 h)
end Go.Proofs.YtfalbdlfopfgcaaGreatDoor

