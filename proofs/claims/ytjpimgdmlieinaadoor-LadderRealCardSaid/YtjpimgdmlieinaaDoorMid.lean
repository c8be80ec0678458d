/- Rounding keeps the order: a result is above a word just if the exact number is above the middle of that word and the next (or in the middle, the word being odd). No program; no condition. -/
import Derived.Test.YtjpimgdmlieinaaDoorQuot
namespace Go.Proofs.YtjpimgdmlieinaaDoor

def KeptE (V c k : Nat) : Prop := k = V / 2 ^ c + (if 2 ^ c < 2 * (V % 2 ^ c) ∨ (2 ^ c = 2 * (V % 2 ^ c) ∧ V / 2 ^ c % 2 = 1) then 1 else 0)
theorem cut_even (neg : Bool) (m drop a : Nat) : KeptE (m * 2 ^ a) (a + drop) (Ieee.Toward.even.cut neg m drop) := by
  have hV1 : m * 2 ^ a / 2 ^ (a + drop) = m / 2 ^ drop := by
    rw [Nat.add_comm, Nat.pow_add, Nat.mul_div_mul_right _ _ (Nat.two_pow_pos a)]
  have hV2 : m * 2 ^ a % 2 ^ (a + drop) = (m % 2 ^ drop) * 2 ^ a := by
    rw [Nat.add_comm, Nat.pow_add, Nat.mul_mod_mul_right]
  have hpa : 2 ^ (a + drop) = 2 ^ drop * 2 ^ a := by rw [Nat.add_comm, Nat.pow_add]
  have hlt : m < 2 ^ (m.log2 + 1) := Nat.lt_log2_self
  have hA := Nat.two_pow_pos a
  unfold KeptE
  rw [hV1, hV2, hpa]
  have c1 : ∀ x y : Nat, (x * 2 ^ a < 2 * (y * 2 ^ a) ↔ x < 2 * y) := fun x y => by
    rw [← Nat.mul_assoc]
    exact Nat.mul_lt_mul_right hA
  have c2 : ∀ x y : Nat, (x * 2 ^ a = 2 * (y * 2 ^ a) ↔ x = 2 * y) := fun x y => by
    rw [← Nat.mul_assoc]
    exact ⟨fun h => Nat.eq_of_mul_eq_mul_right hA h, fun h => by rw [h]⟩
  simp only [c1, c2]
  unfold Ieee.Toward.cut
  simp only [Nat.shiftLeft_eq, Nat.one_mul]
  by_cases hd : drop ≤ m.log2 + 2
  · rw [Nat.min_eq_left hd]
    have hg := Nat.two_pow_pos drop
    generalize 2 ^ drop = g at *
    by_cases hc : (decide (g < 2 * (m % g)) || g == 2 * (m % g) && m / g % 2 == 1) = true
    · rw [hc]
      simp only [Bool.or_eq_true, decide_eq_true_eq, Bool.and_eq_true, beq_iff_eq] at hc
      rw [if_pos hc]
      rfl
    · have hc2 := hc
      simp only [Bool.not_eq_true] at hc
      rw [hc]
      simp only [Bool.or_eq_true, decide_eq_true_eq, Bool.and_eq_true, beq_iff_eq] at hc2
      rw [if_neg hc2]
      rfl
  · rw [Nat.min_eq_right (by omega)]
    have hg : m < 2 ^ drop := Nat.lt_of_lt_of_le hlt (Nat.pow_le_pow_right (by omega) (by omega))
    have h4 : 2 ^ (m.log2 + 2) = 2 * 2 ^ (m.log2 + 1) := by rw [Nat.pow_succ, Nat.mul_comm]
    have h5 : 2 ^ (m.log2 + 2) ≤ 2 ^ drop := Nat.pow_le_pow_right (by omega) (by omega)
    generalize 2 ^ (m.log2 + 1) = u at *
    rw [h4, Nat.mod_eq_of_lt (show m < 2 * u from by omega), Nat.div_eq_of_lt (show m < 2 * u from by omega), Nat.div_eq_of_lt hg, Nat.mod_eq_of_lt hg]
    have hc : (decide (2 * u < 2 * m) || 2 * u == 2 * m && 0 % 2 == 1) = false := by
      have h1 : ¬ 2 * u < 2 * m := by omega
      simp [h1]
    rw [hc, if_neg (by omega)]
    rfl

/-- Twice the middle of a word and the next, counted in 2^-1074. -/
def mid (s : Nat) : Nat := mgn s + mgn (s + 1)
/-- The rung r is the nearest to V / D, an even one in the middle. -/
def NearM (V D r : Nat) : Prop := r ≤ 9218868437227405312 ∧ ∀ s, s < 9218868437227405312 → (s + 1 ≤ r ↔ (mid s * D < 2 * V ∨ (mid s * D = 2 * V ∧ s % 2 = 1)))
theorem NearM.mono {V D V' D' r r' : Nat} (h : NearM V D r) (h' : NearM V' D' r') (hD : 0 < D) (hD' : 0 < D') (hle : V * D' ≤ V' * D) : r ≤ r' := by
  apply Nat.le_of_not_lt
  intro hlt
  have hr := h.1
  have h1 := (h.2 r' (by omega)).1 (by omega)
  have h2 : (mid r' * D' < 2 * V' ∨ (mid r' * D' = 2 * V' ∧ r' % 2 = 1)) → False := fun x => by
    have := (h'.2 r' (by omega)).2 x
    omega
  apply h2
  rcases h1 with h1 | ⟨h1, ho⟩
  · left
    apply Nat.lt_of_not_le
    intro hge
    have a1 := Nat.mul_le_mul_right D hge
    have a2 := Nat.mul_lt_mul_of_pos_right h1 hD'
    rw [Nat.mul_assoc 2 V' D, Nat.mul_right_comm] at a1
    rw [Nat.mul_assoc 2 V D'] at a2
    omega
  · have a2 : mid r' * D * D' = 2 * V * D' := by rw [h1]
    rw [Nat.mul_right_comm, Nat.mul_assoc 2 V D'] at a2
    rcases Nat.lt_or_ge (mid r' * D') (2 * V') with h3 | h3
    · exact .inl h3
    · right
      refine ⟨?_, ho⟩
      have a1 := Nat.mul_le_mul_right D h3
      rw [Nat.mul_assoc 2 V' D] at a1
      have a3 : mid r' * D' * D = 2 * V' * D := by rw [Nat.mul_assoc 2 V' D]; omega
      exact Nat.eq_of_mul_eq_mul_right hD a3

/-- The rung that 'nearest' comes to, told by the middles. Units: 2^-(1074 + b). -/
theorem bracketM {V b q k : Nat} (hk : KeptE V (b + q) k) (hV : V < 9007199254740992 * 2 ^ (b + q)) (hq : q = 0 ∨ 4503599627370496 * 2 ^ (b + q) ≤ V) (s : Nat) :
    s + 1 ≤ q * 4503599627370496 + k ↔ (mid s * 2 ^ b < 2 * V ∨ (mid s * 2 ^ b = 2 * V ∧ s % 2 = 1)) := by
  have hb := Nat.two_pow_pos b
  have hc := Nat.two_pow_pos (b + q)
  have hpc : 2 ^ (b + q) = 2 ^ q * 2 ^ b := by rw [Nat.add_comm, Nat.pow_add]
  have hdm := Nat.div_add_mod V (2 ^ (b + q))
  have hmod := Nat.mod_lt V hc
  have hlow : V / 2 ^ (b + q) < 9007199254740992 := Nat.div_lt_of_lt_mul (by rw [Nat.mul_comm]; exact hV)
  have hq2 : q = 0 ∨ 4503599627370496 ≤ V / 2 ^ (b + q) := hq.imp id fun h => (Nat.le_div_iff_mul_le hc).2 h
  have hkb : V / 2 ^ (b + q) ≤ k ∧ k ≤ V / 2 ^ (b + q) + 1 := by
    unfold KeptE at hk
    split at hk <;> omega
  have hmm : mgn s < mgn (s + 1) := mgn_lt (by omega)
  by_cases h1 : s < q * 4503599627370496 ∨ (q ≠ 0 ∧ s < q * 4503599627370496 + 4503599627370496)
  · have hq0 : q ≠ 0 := by rcases h1 with h | h <;> omega
    have hq3 : 4503599627370496 ≤ V / 2 ^ (b + q) := by omega
    have hle : mgn (s + 1) ≤ 4503599627370496 * 2 ^ q := by
      rw [← mgn_form q 4503599627370496 (.inr (Nat.le_refl _)) (by omega)]
      exact mgn_le (by rcases h1 with h | h <;> omega)
    have hlt : mid s * 2 ^ b < 2 * V := by
      have e1 : mid s < 2 * (4503599627370496 * 2 ^ q) := by unfold mid; omega
      have e2 := Nat.mul_lt_mul_of_pos_right e1 hb
      have e3 : 4503599627370496 * 2 ^ q * 2 ^ b ≤ V := by
        rw [Nat.mul_assoc, ← hpc]
        rcases hq with h | h
        · exact absurd h hq0
        · exact h
      rw [Nat.mul_assoc 2] at e2
      omega
    exact ⟨fun _ => .inl hlt, fun _ => by rcases h1 with h | h <;> omega⟩
  · by_cases h2 : q * 4503599627370496 + 9007199254740992 ≤ s
    · have hge : 9007199254740992 * 2 ^ q ≤ mgn s := by
        rw [← mgn_form q 9007199254740992 (.inr (by omega)) (by omega)]
        exact mgn_le h2
      have hgt : 2 * V < mid s * 2 ^ b := by
        have e1 : 2 * (9007199254740992 * 2 ^ q) ≤ mid s := by unfold mid; omega
        have e2 := Nat.mul_le_mul_right (2 ^ b) e1
        rw [Nat.mul_assoc 2, Nat.mul_assoc, ← hpc] at e2
        omega
      exact ⟨fun h => by omega, fun h => by omega⟩
    · obtain ⟨k', rfl⟩ : ∃ k', s = q * 4503599627370496 + k' := ⟨s - q * 4503599627370496, by omega⟩
      have hk1 : q = 0 ∨ 4503599627370496 ≤ k' := by omega
      have e0 : mid (q * 4503599627370496 + k') = (2 * k' + 1) * 2 ^ q := by
        unfold mid
        rw [Nat.add_assoc, mgn_form q k' hk1 (by omega), mgn_form q (k' + 1) (by omega) (by omega), ← Nat.add_mul]
        congr 1
        omega
      rw [e0, Nat.mul_assoc, ← hpc]
      have hpar : (q * 4503599627370496 + k') % 2 = k' % 2 := by omega
      rw [hpar]
      unfold KeptE at hk
      generalize V / 2 ^ (b + q) = d at *
      generalize V % 2 ^ (b + q) = ρ at *
      generalize 2 ^ (b + q) = u at *
      subst hdm
      have e5 : 2 * (u * d + ρ) = 2 * (u * d) + 2 * ρ := by omega
      rcases Nat.lt_trichotomy k' d with h | h | h
      · have m1 : (2 * k' + 1) * u < 2 * (u * d + ρ) := by
          have a1 : (2 * k' + 1) * u < (2 * d) * u := Nat.mul_lt_mul_of_pos_right (by omega) hc
          rw [Nat.mul_assoc, Nat.mul_comm d u] at a1
          omega
        exact ⟨fun _ => .inl m1, fun _ => by omega⟩
      · subst h
        have m1 : (2 * k' + 1) * u = 2 * (u * k') + u := by
          rw [Nat.add_mul, Nat.one_mul, Nat.mul_assoc, Nat.mul_comm k' u]
        rw [m1, e5]
        constructor
        · intro hs
          split at hk
          · rename_i hc2; omega
          · omega
        · intro hs
          rw [if_pos (by omega)] at hk
          omega
      · have m1 : 2 * (u * d + ρ) < (2 * k' + 1) * u := by
          have a1 : (2 * (d + 1)) * u ≤ (2 * k' + 1) * u := Nat.mul_le_mul_right _ (by omega)
          rw [Nat.mul_assoc, Nat.add_mul, Nat.one_mul, Nat.mul_comm d u] at a1
          omega
        exact ⟨fun _ => by omega, fun _ => by omega⟩

theorem NearM.near {V D r : Nat} (h : NearM V D r) (hD : 0 < D) : Near V D r := by
  refine ⟨h.1, fun s hs => ⟨fun hv => ?_, fun hv => ?_⟩⟩
  · cases s with
    | zero => omega
    | succ t =>
      refine (h.2 t (by omega)).2 (.inl ?_)
      have h1 : mid t < 2 * mgn (t + 1) := by
        have := @mgn_lt t (t + 1) (by omega)
        unfold mid
        omega
      have h2 := Nat.mul_lt_mul_of_pos_right h1 hD
      rw [Nat.mul_assoc] at h2
      omega
  · apply Nat.le_of_not_lt
    intro hlt
    have hr := h.1
    have h0 := (h.2 s (by omega)).1 (by omega)
    have h1 : 2 * mgn s < mid s := by
      have := @mgn_lt s (s + 1) (by omega)
      unfold mid
      omega
    have h2 := Nat.mul_lt_mul_of_pos_right h1 hD
    rw [Nat.mul_assoc] at h2
    omega

theorem nearest_mid (neg : Bool) (m : Nat) (e : Int) (hm : 0 < m) :
    ∃ r, Ieee.double.nearest neg m e = Ieee.double.word neg r ∧ r ≤ 9218868437227405312 ∧
      ∀ (s : Nat) (p : Int), s < 9218868437227405312 → p ≤ -1074 → p ≤ e →
        (s + 1 ≤ r ↔ (mid s * 2 ^ (-1074 - p).toNat < 2 * (m * 2 ^ (e - p).toNat) ∨ (mid s * 2 ^ (-1074 - p).toNat = 2 * (m * 2 ^ (e - p).toNat) ∧ s % 2 = 1))) := by
  have h2 : Ieee.double.binade = 4503599627370496 := by decide +kernel
  have h3 : Ieee.double.infRung = 9218868437227405312 := by decide +kernel
  have h4 : Ieee.double.leastPlace = -1074 := by decide +kernel
  have h5 : Ieee.double.fractionBits = 52 := rfl
  unfold Ieee.Format.nearest
  simp only [h2, h3, h4, h5]
  rw [if_neg (by omega)]
  have hL1 : 2 ^ m.log2 ≤ m := Nat.log2_self_le (by omega)
  have hL2 : m < 2 ^ (m.log2 + 1) := Nat.lt_log2_self
  generalize m.log2 = L at *
  obtain ⟨last, hlast⟩ : ∃ last : Int, last = max (e + (L : Int) - 52) (-1074) := ⟨_, rfl⟩
  rw [show max (e + (L : Int) - ((52 : Nat) : Int)) (-1074) = last from by rw [hlast]; rfl]
  refine ⟨_, rfl, Nat.min_le_right _ _, fun s p hs hp1 hp2 => ?_⟩
  obtain ⟨b, hb⟩ : ∃ b : Nat, b = (-1074 - p).toNat := ⟨_, rfl⟩
  obtain ⟨a, ha⟩ : ∃ a : Nat, a = (e - p).toNat := ⟨_, rfl⟩
  obtain ⟨q, hq⟩ : ∃ q : Nat, q = (last - -1074).toNat := ⟨_, rfl⟩
  rw [← hb, ← ha, ← hq]
  have hk : KeptE (m * 2 ^ a) (b + q) (Ieee.Toward.even.cut neg (m <<< (e - last).toNat) (last - e).toNat) := by
    rcases Int.lt_or_le e last with h | h
    · rw [show (e - last).toNat = 0 from by omega, Nat.shiftLeft_zero, show b + q = a + (last - e).toNat from by omega]
      exact cut_even neg m _ a
    · rw [show (last - e).toNat = 0 from by omega, Nat.shiftLeft_eq]
      have hc := cut_even neg (m * 2 ^ (e - last).toNat) 0 (b + q)
      rwa [Nat.mul_assoc, ← Nat.pow_add, show (e - last).toNat + (b + q) = a from by omega, Nat.add_zero] at hc
  have hV : m * 2 ^ a < 9007199254740992 * 2 ^ (b + q) := by
    have h1 : m * 2 ^ a < 2 ^ (L + 1) * 2 ^ a := Nat.mul_lt_mul_of_pos_right hL2 (Nat.two_pow_pos a)
    rw [← Nat.pow_add] at h1
    refine Nat.lt_of_lt_of_le h1 ?_
    rw [show (9007199254740992 : Nat) = 2 ^ 53 from by decide, ← Nat.pow_add]
    exact Nat.pow_le_pow_right (by omega) (by omega)
  have hq0 : q = 0 ∨ 4503599627370496 * 2 ^ (b + q) ≤ m * 2 ^ a := by
    by_cases h0 : q = 0
    · exact .inl h0
    · right
      have h1 : 2 ^ L * 2 ^ a ≤ m * 2 ^ a := Nat.mul_le_mul_right _ hL1
      refine Nat.le_trans ?_ h1
      rw [← Nat.pow_add, show (4503599627370496 : Nat) = 2 ^ 52 from by decide, ← Nat.pow_add]
      exact Nat.pow_le_pow_right (by omega) (by omega)
  have hbr := bracketM hk hV hq0 s
  rw [← hbr]
  exact ⟨fun h => (Nat.le_min.1 h).1, fun h => Nat.le_min.2 ⟨h, hs⟩⟩

theorem mgn_dvd2 {s t : Nat} (h : 9007199254740992 * 2 ^ t ≤ mgn s) : ∃ k, mgn s = k * 2 ^ (t + 1) := by
  unfold mgn at h ⊢
  by_cases h1 : s < 4503599627370496
  · rw [if_pos h1] at h
    have := Nat.mul_le_mul_left 9007199254740992 (Nat.two_pow_pos t)
    omega
  · rw [if_neg h1] at h ⊢
    have h2 : 9007199254740992 * 2 ^ t < 9007199254740992 * 2 ^ (s / 4503599627370496 - 1) :=
      Nat.lt_of_le_of_lt h (Nat.mul_lt_mul_of_pos_right (by omega) (Nat.two_pow_pos _))
    have h3 : t < s / 4503599627370496 - 1 := (Nat.pow_lt_pow_iff_right (by omega : 1 < 2)).1 (Nat.lt_of_mul_lt_mul_left h2)
    generalize s / 4503599627370496 - 1 = q at *
    refine ⟨(4503599627370496 + s % 4503599627370496) * 2 ^ (q - (t + 1)), ?_⟩
    rw [Nat.mul_assoc, ← Nat.pow_add, show q - (t + 1) + (t + 1) = q from by omega]
/-- A middle beyond 2^53 units of 2^t is so many times the unit, an even number of them. -/
theorem mid_dvd (s t : Nat) : mid s < 2 * (9007199254740992 * 2 ^ t) ∨ ∃ k, mid s = 2 * k * 2 ^ t := by
  rcases Nat.lt_or_ge (9007199254740992 * 2 ^ t) (mgn (s + 1)) with h | h
  · right
    have e := mgn_form t 9007199254740992 (.inr (by omega)) (by omega)
    rw [← e] at h
    have h1 := mgn_lt_iff.1 h
    have h2 : 9007199254740992 * 2 ^ t ≤ mgn s := by
      rw [← e]
      exact mgn_le (by omega)
    have h3 : 9007199254740992 * 2 ^ t ≤ mgn (s + 1) := by
      rw [← e]
      exact mgn_le (by omega)
    obtain ⟨k1, e1⟩ := mgn_dvd2 h2
    obtain ⟨k2, e2⟩ := mgn_dvd2 h3
    refine ⟨k1 + k2, ?_⟩
    unfold mid
    rw [e1, e2, Nat.pow_succ]
    generalize 2 ^ t = u
    grind
  · left
    have := @mgn_lt s (s + 1) (by omega)
    unfold mid
    omega

theorem quotT {T n D k st : Nat} (hn : 0 < n) (hk : k = D / n) (hst : (st = 0 ∧ D % n = 0) ∨ (st = 1 ∧ D % n ≠ 0)) (h : (∃ t, T = 2 * t) ∨ T < 2 * k) :
    (T * n < 2 * D ↔ T < 2 * k + st) ∧ (T * n = 2 * D ↔ T = 2 * k + st) := by
  have hdm := Nat.div_add_mod D n
  rw [← hk] at hdm
  have hmod := Nat.mod_lt D hn
  generalize D % n = ρ at *
  subst hdm
  clear hk
  rcases Nat.lt_or_ge T (2 * k) with h1 | h1
  · have h2 := Nat.mul_lt_mul_of_pos_right h1 hn
    rw [Nat.mul_assoc, Nat.mul_comm k n] at h2
    clear h
    omega
  · obtain ⟨t, rfl⟩ : ∃ t, T = 2 * t := by
      rcases h with h | h
      · exact h
      · omega
    clear h
    rw [Nat.mul_assoc, Nat.mul_comm t n]
    rcases Nat.lt_or_ge k t with h2 | h2
    · have h3 := Nat.mul_le_mul_left n (show k + 1 ≤ t from h2)
      rw [Nat.mul_succ] at h3
      omega
    · obtain rfl : t = k := by omega
      omega
end Go.Proofs.YtjpimgdmlieinaaDoor
