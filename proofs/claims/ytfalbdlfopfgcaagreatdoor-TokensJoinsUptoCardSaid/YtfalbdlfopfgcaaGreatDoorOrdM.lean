/- How two reals stand to each other: as two whole numbers, their keys (a word's lower 63 bits, with its sign). No program; condition: words of 64 bits, no NaN. Rounding: the nearest word of an exact number lies between the words that bracket it. No program, no condition but that the number is not nought. Plain laws on reals: what is finite; sizes and angles computed in two ways are the same. No program; conditions: words of 64 bits, finite parts. Sums, differences, products and quotients of finite reals: exact, then rounded once: between which words they lie. No program; conditions: finite words of 64 bits. Quotients of finite reals: exact, then rounded once. Twice as much, half as much. No program; conditions: finite words of 64 bits. Rounding keeps the order: a result is above a word just if the exact number is above the middle of that word and the next (or in the middle, the word being odd). No program; no condition. Sums and quotients of finite reals, told by the middles; they keep the order. No program; conditions: finite words of 64 bits. -/
import Derived.Test.YtfalbdlfopfgcaaGreatDoorFlM
namespace Go.Proofs.YtfalbdlfopfgcaaGreatDoor

/-- The magnitude of a rung, counted in 2^-1074. -/
def mgn (r : Nat) : Nat := if r < 4503599627370496 then r else (4503599627370496 + r % 4503599627370496) * 2 ^ (r / 4503599627370496 - 1)

theorem mgn_lt {r s : Nat} (h : r < s) : mgn r < mgn s := by
  unfold mgn
  by_cases h1 : s < 4503599627370496
  · rw [if_pos h1, if_pos (by omega)]; exact h
  · rw [if_neg h1]
    have hs : 1 ≤ s / 4503599627370496 := by omega
    have hp : ∀ k, 0 < 2 ^ k := fun k => Nat.two_pow_pos k
    by_cases h2 : r < 4503599627370496
    · rw [if_pos h2]
      have := Nat.mul_le_mul_left (4503599627370496 + s % 4503599627370496) (hp (s / 4503599627370496 - 1))
      omega
    · rw [if_neg h2]
      by_cases h3 : r / 4503599627370496 = s / 4503599627370496
      · rw [h3]
        exact Nat.mul_lt_mul_of_pos_right (by omega) (hp _)
      · have h4 : r / 4503599627370496 < s / 4503599627370496 := by omega
        have h5 : 1 ≤ r / 4503599627370496 := by omega
        generalize r / 4503599627370496 = q at *
        generalize s / 4503599627370496 = p at *
        have h6 : (4503599627370496 + r % 4503599627370496) * 2 ^ (q - 1) < 9007199254740992 * 2 ^ (q - 1) := Nat.mul_lt_mul_of_pos_right (by omega) (hp _)
        have h7 : 9007199254740992 * 2 ^ (q - 1) = 4503599627370496 * 2 ^ q := by
          have e : q = (q - 1) + 1 := by omega
          rw [e, Nat.pow_succ, Nat.add_sub_cancel]
          omega
        have h8 : 4503599627370496 * 2 ^ q ≤ 4503599627370496 * 2 ^ (p - 1) := Nat.mul_le_mul_left _ (Nat.pow_le_pow_right (by omega) (by omega))
        have h9 : 4503599627370496 * 2 ^ (p - 1) ≤ (4503599627370496 + s % 4503599627370496) * 2 ^ (p - 1) := Nat.mul_le_mul_right _ (by omega)
        omega

theorem mgn_zero : mgn 0 = 0 := rfl
theorem mgn_le {r s : Nat} (h : r ≤ s) : mgn r ≤ mgn s := by
  rcases Nat.lt_or_ge r s with h | h'
  · exact Nat.le_of_lt (mgn_lt h)
  · rw [show r = s from by omega]; exact Nat.le_refl _
theorem mgn_lt_iff {r s : Nat} : mgn r < mgn s ↔ r < s :=
  ⟨fun h => Nat.lt_of_not_le fun h' => absurd (mgn_le h') (by omega), mgn_lt⟩
theorem mgn_le_iff {r s : Nat} : mgn r ≤ mgn s ↔ r ≤ s :=
  ⟨fun h => Nat.le_of_not_lt fun h' => absurd (mgn_lt h') (by omega), mgn_le⟩

/-- A word's key. -/
def key (b : Nat) : Int := if b < 9223372036854775808 then (b : Int) else 9223372036854775808 - (b : Int)

/-- A finite word, read: a magnitude of so many 2^-1074. -/
theorem read_fin {b : Nat} (hw : IsW b) (hf : b % 9223372036854775808 < 9218868437227405312) :
    ∃ m p, Ieee.double.read b = .number (decide (9223372036854775808 ≤ b)) m p ∧ -1074 ≤ p ∧ m * 2 ^ (p + 1074).toNat = mgn (b % 9223372036854775808) := by
  have h1 : Ieee.double.signWeight = 9223372036854775808 := by decide +kernel
  have h2 : Ieee.double.binade = 4503599627370496 := by decide +kernel
  have h3 : Ieee.double.infRung = 9218868437227405312 := by decide +kernel
  have h4 : Ieee.double.leastPlace = -1074 := by decide +kernel
  unfold IsW at hw
  have hs : (b / 9223372036854775808 % 2 == 1) = decide (9223372036854775808 ≤ b) := by
    rw [Bool.eq_iff_iff]; simp; omega
  unfold Ieee.Format.read
  simp only [h1, h2, h3, h4, hs]
  split
  · rename_i h
    exact ⟨_, _, rfl, by omega, by simp [mgn, h]⟩
  · rename_i h
    refine ⟨_, _, rfl, by omega, ?_⟩
    rw [mgn, if_neg h]
    congr 2
    omega

theorem read_inf {b : Nat} (hw : IsW b) (hf : b % 9223372036854775808 = 9218868437227405312) :
    Ieee.double.read b = .infinity (decide (9223372036854775808 ≤ b)) := by
  have h1 : Ieee.double.signWeight = 9223372036854775808 := by decide +kernel
  have h2 : Ieee.double.binade = 4503599627370496 := by decide +kernel
  have h3 : Ieee.double.infRung = 9218868437227405312 := by decide +kernel
  unfold IsW at hw
  have hs : (b / 9223372036854775808 % 2 == 1) = decide (9223372036854775808 ≤ b) := by
    rw [Bool.eq_iff_iff]; simp; omega
  unfold Ieee.Format.read
  simp only [h1, h2, h3, hs]
  rw [if_neg (by omega), if_neg (by omega), if_pos hf]

theorem signed_scale (s : Bool) (m : Nat) (i j k : Nat) (h : i + j = k) : Ieee.signed s m i * (2 ^ j : Nat) = if s then -((m * 2 ^ k : Nat) : Int) else ((m * 2 ^ k : Nat) : Int) := by
  subst h
  unfold Ieee.signed
  cases s
  · simp only [Bool.false_eq_true, if_false]
    rw [Nat.shiftLeft_eq, ← Int.natCast_mul, Nat.mul_assoc, ← Nat.pow_add]
  · simp only [if_true]
    rw [Int.neg_mul, Nat.shiftLeft_eq, ← Int.natCast_mul, Nat.mul_assoc, ← Nat.pow_add]

theorem compare_scale (x y : Int) (j : Nat) : compare x y = compare (x * (2 ^ j : Nat)) (y * (2 ^ j : Nat)) := by
  have hp : (0 : Int) < ((2 ^ j : Nat) : Int) := by exact_mod_cast Nat.two_pow_pos j
  simp only [compare, compareOfLessAndEq]
  rcases Int.lt_trichotomy x y with h | h | h
  · rw [if_pos h, if_pos (Int.mul_lt_mul_of_pos_right h hp)]
  · subst h; simp
  · have h' := Int.mul_lt_mul_of_pos_right h hp
    rw [if_neg (by omega), if_neg (by omega), if_neg (by omega), if_neg (by omega)]

/-- A finite word's value, counted in 2^-1074. -/
def sv (b : Nat) : Int := if 9223372036854775808 ≤ b then -(mgn (b % 9223372036854775808) : Int) else (mgn (b % 9223372036854775808) : Int)

theorem order_fin {a b : Nat} (ha : IsW a) (hb : IsW b) (hfa : a % 9223372036854775808 < 9218868437227405312) (hfb : b % 9223372036854775808 < 9218868437227405312) :
    Ieee.double.order a b = some (compare (sv a) (sv b)) := by
  obtain ⟨m, i, hm, hi, hmg⟩ := read_fin ha hfa
  obtain ⟨n, j, hn, hj, hng⟩ := read_fin hb hfb
  unfold Ieee.Format.order
  rw [hm, hn]
  simp only [Ieee.Datum.order]
  congr 1
  rw [compare_scale _ _ ((min i j) + 1074).toNat, signed_scale _ _ _ _ (i + 1074).toNat (by omega), signed_scale _ _ _ _ (j + 1074).toNat (by omega), hmg, hng]
  simp only [sv, decide_eq_true_eq]

theorem sv_lt {a b : Nat} (ha : IsW a) (hb : IsW b) : sv a < sv b ↔ key a < key b := by
  unfold IsW at *
  unfold sv key
  by_cases h1 : a < 9223372036854775808 <;> by_cases h2 : b < 9223372036854775808
  · rw [if_neg (by omega), if_neg (by omega), if_pos h1, if_pos h2, Nat.mod_eq_of_lt h1, Nat.mod_eq_of_lt h2]
    have := @mgn_lt_iff a b
    omega
  · rw [if_neg (by omega), if_pos (by omega), if_pos h1, if_neg h2]
    omega
  · rw [if_pos (by omega), if_neg (by omega), if_neg h1, if_pos h2, Nat.mod_eq_of_lt h2]
    have e1 := @mgn_lt_iff 0 (a % 9223372036854775808)
    have e2 := @mgn_lt_iff 0 b
    rw [mgn_zero] at e1 e2
    omega
  · rw [if_pos (by omega), if_pos (by omega), if_neg h1, if_neg h2]
    have := @mgn_lt_iff (b % 9223372036854775808) (a % 9223372036854775808)
    omega

theorem compare_of_lt {x y u v : Int} (h1 : x < y ↔ u < v) (h2 : y < x ↔ v < u) : compare x y = compare u v := by
  simp only [compare, compareOfLessAndEq]
  by_cases hx : x < y
  · rw [if_pos hx, if_pos (h1.1 hx)]
  · rw [if_neg hx, if_neg (fun h => hx (h1.2 h))]
    by_cases hy : y < x
    · have := h2.1 hy
      rw [if_neg (by omega), if_neg (by omega)]
    · have : ¬ v < u := fun h => hy (h2.2 h)
      have : ¬ u < v := fun h => hx (h1.2 h)
      rw [if_pos (by omega), if_pos (by omega)]

theorem nan_iff (b : Nat) : nanB b = false ↔ b % 9223372036854775808 ≤ 9218868437227405312 := by unfold nanB; simp

theorem order_key {a b : Nat} (ha : IsW a) (hb : IsW b) (hna : nanB a = false) (hnb : nanB b = false) :
    Ieee.double.order a b = some (compare (key a) (key b)) := by
  rw [nan_iff] at hna hnb
  have ha' := ha
  have hb' := hb
  unfold IsW at ha' hb'
  by_cases hfa : a % 9223372036854775808 < 9218868437227405312
  · by_cases hfb : b % 9223372036854775808 < 9218868437227405312
    · rw [order_fin ha hb hfa hfb]
      congr 1
      exact compare_of_lt (sv_lt ha hb) (sv_lt hb ha)
    · obtain ⟨m, i, hm, hi, hmg⟩ := read_fin ha hfa
      have hn := read_inf hb (by omega)
      unfold Ieee.Format.order
      rw [hm, hn]
      simp only [Ieee.Datum.order, decide_eq_true_eq]
      congr 1
      unfold key
      simp only [compare, compareOfLessAndEq]
      repeat' split
      all_goals first | rfl | omega
  · have hn := read_inf ha (by omega)
    by_cases hfb : b % 9223372036854775808 < 9218868437227405312
    · obtain ⟨m, i, hm, hi, hmg⟩ := read_fin hb hfb
      unfold Ieee.Format.order
      rw [hm, hn]
      simp only [Ieee.Datum.order, decide_eq_true_eq]
      congr 1
      unfold key
      simp only [compare, compareOfLessAndEq]
      repeat' split
      all_goals first | rfl | omega
    · have hm := read_inf hb (by omega)
      unfold Ieee.Format.order
      rw [hm, hn]
      simp only [Ieee.Datum.order]
      congr 1
      unfold key
      by_cases h1 : a < 9223372036854775808 <;> by_cases h2 : b < 9223372036854775808 <;> simp [h1, h2, compare, compareOfLessAndEq, Nat.not_le.2, Nat.not_lt.1] <;> (repeat' split) <;> first | rfl | omega

theorem flt_key {a b : Nat} (ha : IsW a) (hb : IsW b) (hna : nanB a = false) (hnb : nanB b = false) : flt (some a) (some b) = decide (key a < key b) := by
  simp only [flt, ford, Option.bind_some, order_key ha hb hna hnb, compare, compareOfLessAndEq]
  by_cases h1 : key a < key b
  · simp [h1]
  · by_cases h2 : key a = key b
    · simp [h2]
    · simp [h1, h2]
theorem fle_key {a b : Nat} (ha : IsW a) (hb : IsW b) (hna : nanB a = false) (hnb : nanB b = false) : fle (some a) (some b) = decide (key a ≤ key b) := by
  simp only [fle, ford, Option.bind_some, order_key ha hb hna hnb, compare, compareOfLessAndEq]
  by_cases h1 : key a < key b
  · simp [h1]; omega
  · by_cases h2 : key a = key b
    · simp [h2]
    · simp [h1, h2]; omega
theorem feq_key {a b : Nat} (ha : IsW a) (hb : IsW b) (hna : nanB a = false) (hnb : nanB b = false) : feq (some a) (some b) = decide (key a = key b) := by
  simp only [feq, ford, Option.bind_some, order_key ha hb hna hnb, compare, compareOfLessAndEq]
  by_cases h1 : key a < key b
  · simp [h1]; omega
  · by_cases h2 : key a = key b
    · simp [h2]
    · simp [h1, h2]
end Go.Proofs.YtfalbdlfopfgcaaGreatDoor

namespace Go.Proofs.YtfalbdlfopfgcaaGreatDoor

theorem mgn_form (q k : Nat) (h : q = 0 ∨ 4503599627370496 ≤ k) (hk : k ≤ 9007199254740992) : mgn (q * 4503599627370496 + k) = k * 2 ^ q := by
  unfold mgn
  by_cases hq : q = 0
  · subst hq
    by_cases h1 : k < 4503599627370496
    · rw [if_pos (by omega)]; simp
    · rw [if_neg (by omega)]
      by_cases h2 : k = 9007199254740992
      · subst h2; decide
      · have e1 : (0 * 4503599627370496 + k) / 4503599627370496 = 1 := by omega
        have e2 : (0 * 4503599627370496 + k) % 4503599627370496 = k - 4503599627370496 := by omega
        rw [e1, e2]
        simp
        omega
  · have h3 : 4503599627370496 ≤ k := by omega
    rw [if_neg (by omega)]
    by_cases h2 : k = 9007199254740992
    · subst h2
      have e1 : (q * 4503599627370496 + 9007199254740992) / 4503599627370496 = q + 2 := by omega
      have e2 : (q * 4503599627370496 + 9007199254740992) % 4503599627370496 = 0 := by omega
      rw [e1, e2, show q + 2 - 1 = q + 1 from by omega, Nat.pow_succ]
      omega
    · have e1 : (q * 4503599627370496 + k) / 4503599627370496 = q + 1 := by omega
      have e2 : (q * 4503599627370496 + k) % 4503599627370496 = k - 4503599627370496 := by omega
      rw [e1, e2, show q + 1 - 1 = q from by omega, show 4503599627370496 + (k - 4503599627370496) = k from by omega]

/-- What is kept of a number V of units, the last 'c' digits being dropped. -/
def Kept (V c k : Nat) : Prop := k = V / 2 ^ c ∨ (k = V / 2 ^ c + 1 ∧ V % 2 ^ c ≠ 0)

theorem cut_kept (neg : Bool) (m drop a : Nat) (hm : 0 < m) : Kept (m * 2 ^ a) (a + drop) (Ieee.Toward.even.cut neg m drop) := by
  have hV1 : m * 2 ^ a / 2 ^ (a + drop) = m / 2 ^ drop := by
    rw [Nat.add_comm, Nat.pow_add, Nat.mul_div_mul_right _ _ (Nat.two_pow_pos a)]
  have hV2 : m * 2 ^ a % 2 ^ (a + drop) = (m % 2 ^ drop) * 2 ^ a := by
    rw [Nat.add_comm, Nat.pow_add, Nat.mul_mod_mul_right]
  have hlt : m < 2 ^ (m.log2 + 1) := Nat.lt_log2_self
  unfold Kept
  rw [hV1, hV2]
  unfold Ieee.Toward.cut
  simp only [Nat.shiftLeft_eq, Nat.one_mul]
  by_cases hd : drop ≤ m.log2 + 2
  · rw [Nat.min_eq_left hd]
    have hg := Nat.two_pow_pos drop
    generalize 2 ^ drop = g at *
    by_cases hc : (decide (g < 2 * (m % g)) || g == 2 * (m % g) && m / g % 2 == 1) = true
    · right
      rw [hc]
      refine ⟨rfl, ?_⟩
      have hr : 0 < m % g := by
        simp only [Bool.or_eq_true, decide_eq_true_eq, Bool.and_eq_true, beq_iff_eq] at hc
        omega
      exact Nat.pos_iff_ne_zero.1 (Nat.mul_pos hr (Nat.two_pow_pos a))
    · left
      simp only [Bool.not_eq_true] at hc
      rw [hc]
      rfl
  · rw [Nat.min_eq_right (by omega)]
    have hg : m < 2 ^ drop := Nat.lt_of_lt_of_le hlt (Nat.pow_le_pow_right (by omega) (by omega))
    have h4 : 2 ^ (m.log2 + 2) = 2 * 2 ^ (m.log2 + 1) := by rw [Nat.pow_succ, Nat.mul_comm]
    generalize 2 ^ (m.log2 + 1) = u at *
    rw [h4, Nat.mod_eq_of_lt (show m < 2 * u from by omega), Nat.div_eq_of_lt (show m < 2 * u from by omega), Nat.div_eq_of_lt hg]
    left
    have hc : (decide (2 * u < 2 * m) || 2 * u == 2 * m && 0 % 2 == 1) = false := by
      have h1 : ¬ 2 * u < 2 * m := by omega
      simp [h1]
    rw [hc]
    rfl

theorem kept_bounds {V c k : Nat} (h : Kept V c k) : V / 2 ^ c ≤ k ∧ k ≤ V / 2 ^ c + 1 := by
  rcases h with h | h <;> omega

/-- The rung that 'nearest' comes to lies between those that bracket the number V. Units: 2^-(1074 + b). -/
theorem bracket {V b q k : Nat} (hk : Kept V (b + q) k) (hV : V < 9007199254740992 * 2 ^ (b + q)) (hq : q = 0 ∨ 4503599627370496 * 2 ^ (b + q) ≤ V) (s : Nat) :
    (mgn s * 2 ^ b ≤ V → s ≤ q * 4503599627370496 + k) ∧ (V ≤ mgn s * 2 ^ b → q * 4503599627370496 + k ≤ s) := by
  have hb := Nat.two_pow_pos b
  have hc := Nat.two_pow_pos (b + q)
  have hpc : 2 ^ (b + q) = 2 ^ q * 2 ^ b := by rw [Nat.add_comm, Nat.pow_add]
  have hdm := Nat.div_add_mod V (2 ^ (b + q))
  have hlow : V / 2 ^ (b + q) < 9007199254740992 := Nat.div_lt_of_lt_mul (by rw [Nat.mul_comm]; exact hV)
  have hq2 : q = 0 ∨ 4503599627370496 ≤ V / 2 ^ (b + q) := hq.imp id fun h => (Nat.le_div_iff_mul_le hc).2 h
  constructor
  · intro hs
    apply Nat.le_of_not_lt
    intro hlt
    have hkb := (kept_bounds hk).1
    have h1 : mgn s < 9007199254740992 * 2 ^ q := by
      refine Nat.lt_of_mul_lt_mul_right (a := 2 ^ b) ?_
      rw [Nat.mul_assoc, ← hpc]
      exact Nat.lt_of_le_of_lt hs hV
    have h2 : s < q * 4503599627370496 + 9007199254740992 := by
      apply Nat.lt_of_not_le
      intro h
      have := mgn_le h
      rw [mgn_form q 9007199254740992 (.inr (by omega)) (by omega)] at this
      omega
    obtain ⟨k', rfl⟩ : ∃ k', s = q * 4503599627370496 + k' := ⟨s - q * 4503599627370496, by omega⟩
    rw [mgn_form q k' (by omega) (by omega), Nat.mul_assoc, ← hpc] at hs
    have := (Nat.le_div_iff_mul_le hc).2 hs
    omega
  · intro hs
    apply Nat.le_of_not_lt
    intro hlt
    rcases hk with hk | ⟨hk, hr⟩
    · have h1 := mgn_lt hlt
      rw [hk, mgn_form q _ hq2 (by omega)] at h1
      have h2 : mgn s * 2 ^ b < V / 2 ^ (b + q) * 2 ^ q * 2 ^ b := Nat.mul_lt_mul_of_pos_right h1 hb
      rw [Nat.mul_assoc, ← hpc, Nat.mul_comm (V / 2 ^ (b + q))] at h2
      omega
    · have h1 : mgn s ≤ mgn (q * 4503599627370496 + V / 2 ^ (b + q)) := mgn_le (by omega)
      rw [mgn_form q _ hq2 (by omega)] at h1
      have h2 : mgn s * 2 ^ b ≤ V / 2 ^ (b + q) * 2 ^ q * 2 ^ b := Nat.mul_le_mul_right _ h1
      rw [Nat.mul_assoc, ← hpc, Nat.mul_comm (V / 2 ^ (b + q))] at h2
      omega

/-- THE LAW OF ROUNDING. -/
theorem nearest_spec (neg : Bool) (m : Nat) (e : Int) (hm : 0 < m) :
    ∃ r, Ieee.double.nearest neg m e = Ieee.double.word neg r ∧ r ≤ 9218868437227405312 ∧
      ∀ (s : Nat) (p : Int), s ≤ 9218868437227405312 → p ≤ -1074 → p ≤ e →
        (mgn s * 2 ^ (-1074 - p).toNat ≤ m * 2 ^ (e - p).toNat → s ≤ r) ∧ (m * 2 ^ (e - p).toNat ≤ mgn s * 2 ^ (-1074 - p).toNat → r ≤ s) := by
  have h2 : Ieee.double.binade = 4503599627370496 := by decide +kernel
  have h3 : Ieee.double.infRung = 9218868437227405312 := by decide +kernel
  have h4 : Ieee.double.leastPlace = -1074 := by decide +kernel
  have h5 : Ieee.double.fractionBits = 52 := rfl
  unfold Ieee.Format.nearest
  simp only [h2, h3, h4, h5]
  rw [if_neg (by omega)]
  have hL1 : 2 ^ m.log2 ≤ m := Nat.log2_self_le (by omega)
  have hL2 : m < 2 ^ (m.log2 + 1) := Nat.lt_log2_self
  generalize m.log2 = L at *
  obtain ⟨last, hlast⟩ : ∃ last : Int, last = max (e + (L : Int) - 52) (-1074) := ⟨_, rfl⟩
  rw [show max (e + (L : Int) - ((52 : Nat) : Int)) (-1074) = last from by rw [hlast]; rfl]
  refine ⟨_, rfl, Nat.min_le_right _ _, fun s p hs hp1 hp2 => ?_⟩
  obtain ⟨b, hb⟩ : ∃ b : Nat, b = (-1074 - p).toNat := ⟨_, rfl⟩
  obtain ⟨a, ha⟩ : ∃ a : Nat, a = (e - p).toNat := ⟨_, rfl⟩
  obtain ⟨q, hq⟩ : ∃ q : Nat, q = (last - -1074).toNat := ⟨_, rfl⟩
  rw [← hb, ← ha, ← hq]
  have hk : Kept (m * 2 ^ a) (b + q) (Ieee.Toward.even.cut neg (m <<< (e - last).toNat) (last - e).toNat) := by
    rcases Int.lt_or_le e last with h | h
    · rw [show (e - last).toNat = 0 from by omega, Nat.shiftLeft_zero, show b + q = a + (last - e).toNat from by omega]
      exact cut_kept neg m _ a hm
    · rw [show (last - e).toNat = 0 from by omega, Nat.shiftLeft_eq]
      have hc := cut_kept neg (m * 2 ^ (e - last).toNat) 0 (b + q) (Nat.mul_pos hm (Nat.two_pow_pos _))
      rwa [Nat.mul_assoc, ← Nat.pow_add, show (e - last).toNat + (b + q) = a from by omega, Nat.add_zero] at hc
  have hV : m * 2 ^ a < 9007199254740992 * 2 ^ (b + q) := by
    have h1 : m * 2 ^ a < 2 ^ (L + 1) * 2 ^ a := Nat.mul_lt_mul_of_pos_right hL2 (Nat.two_pow_pos a)
    rw [← Nat.pow_add] at h1
    refine Nat.lt_of_lt_of_le h1 ?_
    rw [show (9007199254740992 : Nat) = 2 ^ 53 from by decide, ← Nat.pow_add]
    exact Nat.pow_le_pow_right (by omega) (by omega)
  have hq0 : q = 0 ∨ 4503599627370496 * 2 ^ (b + q) ≤ m * 2 ^ a := by
    by_cases h0 : q = 0
    · exact .inl h0
    · right
      have h1 : 2 ^ L * 2 ^ a ≤ m * 2 ^ a := Nat.mul_le_mul_right _ hL1
      refine Nat.le_trans ?_ h1
      rw [← Nat.pow_add, show (4503599627370496 : Nat) = 2 ^ 52 from by decide, ← Nat.pow_add]
      exact Nat.pow_le_pow_right (by omega) (by omega)
  have hbr := bracket hk hV hq0 s
  constructor
  · intro h
    exact Nat.le_min.2 ⟨hbr.1 h, hs⟩
  · intro h
    exact Nat.le_trans (Nat.min_le_left _ _) (hbr.2 h)
end Go.Proofs.YtfalbdlfopfgcaaGreatDoor

namespace Go.Proofs.YtfalbdlfopfgcaaGreatDoor

/-- Is a word a finite real? -/
def IsFin (b : Nat) : Prop := b % 9223372036854775808 < 9218868437227405312

theorem IsFin.nan {b : Nat} (h : IsFin b) : nanB b = false := by
  unfold IsFin at h
  rw [nan_iff]
  omega
theorem IsFin.val {b : Nat} (h : IsFin b) : val b = some b := val_some h.nan

theorem fin_val {b : Nat} (hw : IsW b) (h : fin (val b) = true) : IsFin b := by
  cases hn : nanB b
  · rw [nan_iff] at hn
    unfold IsFin
    by_cases hi : b % 9223372036854775808 = 9218868437227405312
    · exfalso
      have hr := read_inf hw hi
      have hs : floatBits .sub .f64 b b = none := by
        show ((Ieee.double.read b).sum (Ieee.double.read b).opposite).map Ieee.double.write = none
        rw [hr]
        cases decide (9223372036854775808 ≤ b) <;> rfl
      unfold fin fsub at h
      rw [val_fop, hs] at h
      simp [feq, ford] at h
    · omega
  · rw [val_none hn] at h
    simp [fin, fsub, fop, feq, ford] at h

theorem val_fin {b : Nat} (hw : IsW b) (h : IsFin b) : fin (val b) = true := by
  obtain ⟨m, p, hr, _, _⟩ := read_fin hw h
  have hs : floatBits .sub .f64 b b = some 0 := by
    show ((Ieee.double.read b).sum (Ieee.double.read b).opposite).map Ieee.double.write = some 0
    rw [hr]
    have hz : ∀ (s : Bool) (k : Nat), Ieee.signed s m k + Ieee.signed (!s) m k = 0 := by
      intro s k
      unfold Ieee.signed
      cases s <;> simp <;> omega
    simp only [Ieee.Datum.opposite, Ieee.Datum.sum, hz, Option.map_some, if_true, Int.natAbs_zero]
    cases decide (9223372036854775808 ≤ b) <;> rfl
  unfold fin fsub
  rw [val_fop, hs]
  decide +kernel

theorem key_size (b : Nat) : key (sizeB b) = (b % 9223372036854775808 : Nat) := by
  unfold key sizeB
  rw [if_pos (by omega)]
theorem IsFin.size {b : Nat} (h : IsFin b) : IsFin (sizeB b) := by
  unfold IsFin sizeB at *
  omega

theorem isInf_fin {b : Nat} (h : IsFin b) : isInf (val b) = false := by
  unfold isInf
  rw [← val_size, h.size.val, show val 9218868437227405311 = some 9218868437227405311 from by decide +kernel, flt_key (by unfold IsW; omega) (isW_size b) (by decide +kernel) h.size.nan, key_size]
  unfold IsFin at h
  rw [decide_eq_false_iff_not, show key 9218868437227405311 = 9218868437227405311 from by decide +kernel]
  omega
theorem feqInf_fin {b : Nat} (h : IsFin b) : feq (fsize (val b)) inf = false := by
  unfold inf
  rw [← val_size, h.size.val, show val 9218868437227405312 = some 9218868437227405312 from by decide +kernel, feq_key (isW_size b) isW_inf h.size.nan (by decide +kernel), key_size]
  unfold IsFin at h
  rw [decide_eq_false_iff_not, show key 9218868437227405312 = 9218868437227405312 from by decide +kernel]
  omega
theorem feq_refl_fin {b : Nat} (hw : IsW b) (h : IsFin b) : feq (val b) (val b) = true := by
  rw [h.val, feq_key hw hw h.nan h.nan]
  simp

theorem abs_same {a b : Nat} (ha : IsFin a) (hb : IsFin b) : absP (cv a b) = absR (cv a b) := by
  have ea := feq_refl_fin (isW_size a) ha.size
  have eb := feq_refl_fin (isW_size b) hb.size
  rw [val_size] at ea eb
  simp only [absP, absR, cv, isInf_fin ha, isInf_fin hb, feqInf_fin ha, feqInf_fin hb, ea, eb]
  simp

theorem ang_same {a b : Nat} (ha : IsFin a) (hb : IsFin b) : angP (cv a b) = angRef (cv a b) := by
  have hwa := isW_size a
  have hwb := isW_size b
  have hna := ha.size.nan
  have hnb := hb.size.nan
  have hk := key_size a
  have hl := key_size b
  show angW (cv a b) (fdiv (fmin (fsize (val a)) (fsize (val b))) (fmax (fsize (val a)) (fsize (val b)))) =
    angW (cv a b) (if flt (fsize (val b)) (fsize (val a)) = true then fdiv (fsize (val b)) (fsize (val a)) else fdiv (fsize (val a)) (fsize (val b)))
  congr 1
  rw [← val_size, ← val_size, ha.size.val, hb.size.val, flt_key hwb hwa hnb hna]
  have ho := order_key hwa hwb hna hnb
  have hab : key (sizeB a) = key (sizeB b) → sizeB a = sizeB b := by
    intro h
    rw [hk, hl] at h
    unfold sizeB
    omega
  clear hk hl
  rcases Int.lt_trichotomy (key (sizeB a)) (key (sizeB b)) with h | h | h
  · rw [show compare (key (sizeB a)) (key (sizeB b)) = .lt from by simp only [compare, compareOfLessAndEq]; rw [if_pos h]] at ho
    have h2 : ¬ decide (key (sizeB b) < key (sizeB a)) = true := by rw [decide_eq_true_eq]; omega
    rw [if_neg h2]
    simp only [fmin, fmax, Option.bind_some, ho]
  · rw [show compare (key (sizeB a)) (key (sizeB b)) = .eq from by simp only [compare, compareOfLessAndEq]; rw [if_neg (by omega), if_pos h]] at ho
    have h2 : ¬ decide (key (sizeB b) < key (sizeB a)) = true := by rw [decide_eq_true_eq]; omega
    rw [if_neg h2]
    simp only [fmin, fmax, Option.bind_some, ho]
    rw [hab h]
    simp
  · rw [show compare (key (sizeB a)) (key (sizeB b)) = .gt from by simp only [compare, compareOfLessAndEq]; rw [if_neg (by omega), if_neg (by omega)]] at ho
    have h2 : decide (key (sizeB b) < key (sizeB a)) = true := by rw [decide_eq_true_eq]; omega
    rw [if_pos h2]
    simp only [fmin, fmax, Option.bind_some, ho]
theorem cfin_parts {a b : Nat} (ha : IsW a) (hb : IsW b) (h : cfin (cv a b) = true) : IsFin a ∧ IsFin b := by
  simp only [cfin, cv, Bool.and_eq_true] at h
  exact ⟨fin_val ha h.1, fin_val hb h.2⟩
theorem sz_same {a b : Nat} (ha : IsW a) (hb : IsW b) : szE (cv a b) (absP (cv a b)) = szE (cv a b) (absR (cv a b)) ∧ szG (cv a b) (absP (cv a b)) = szG (cv a b) (absR (cv a b)) := by
  by_cases h : cfin (cv a b) = true
  · obtain ⟨h1, h2⟩ := cfin_parts ha hb h
    rw [abs_same h1 h2]
    exact ⟨rfl, rfl⟩
  · simp [szG, szE, h]
theorem lag_same {a b : Nat} (ha : IsW a) (hb : IsW b) : lagG (cv a b) (angP (cv a b)) = lagG (cv a b) (angRef (cv a b)) := by
  by_cases h : cfin (cv a b) = true
  · obtain ⟨h1, h2⟩ := cfin_parts ha hb h
    rw [ang_same h1 h2]
  · simp [lagG, angE, h]
end Go.Proofs.YtfalbdlfopfgcaaGreatDoor

namespace Go.Proofs.YtfalbdlfopfgcaaGreatDoor

/-- A rung of infinity, the word of a sign and a rung. -/
def wordB (neg : Bool) (r : Nat) : Nat := if neg then 9223372036854775808 + r else r
theorem word_eq (neg : Bool) (r : Nat) : Ieee.double.word neg r = wordB neg r := by
  have h1 : Ieee.double.signWeight = 9223372036854775808 := by decide +kernel
  unfold Ieee.Format.word wordB
  rw [h1]
/-- The rung r lies between those that bracket V / D (units: 2^-1074). -/
def Near (V D r : Nat) : Prop := r ≤ 9218868437227405312 ∧ ∀ s, s ≤ 9218868437227405312 → (mgn s * D ≤ V → s ≤ r) ∧ (V ≤ mgn s * D → r ≤ s)
theorem Near.exact {V D r s : Nat} (h : Near V D r) (hs : s ≤ 9218868437227405312) (e : mgn s * D = V) : r = s := by
  have := h.2 s hs
  have h1 := this.1 (by omega)
  have h2 := this.2 (by omega)
  omega

theorem wordB_facts (neg : Bool) {r : Nat} (h : r ≤ 9218868437227405312) : IsW (wordB neg r) ∧ nanB (wordB neg r) = false ∧ wordB neg r % 9223372036854775808 = r ∧ decide (9223372036854775808 ≤ wordB neg r) = neg := by
  unfold wordB IsW nanB
  cases neg <;> simp <;> omega
theorem sv_word (neg : Bool) {r : Nat} (h : r ≤ 9218868437227405312) : sv (wordB neg r) = if neg then -(mgn r : Int) else (mgn r : Int) := by
  obtain ⟨_, _, h3, h4⟩ := wordB_facts neg h
  unfold sv
  rw [h3]
  cases neg
  · rw [if_neg (by simpa using h4)]; rfl
  · rw [if_pos (by simpa using h4)]; rfl
theorem fin_word (neg : Bool) {r : Nat} (h : r < 9218868437227405312) : IsFin (wordB neg r) := by
  unfold IsFin
  rw [(wordB_facts neg (Nat.le_of_lt h)).2.2.1]
  exact h

theorem signed_sv {b m : Nat} {t : Nat} (hm : m * 2 ^ t = mgn (b % 9223372036854775808)) :
    Ieee.signed (decide (9223372036854775808 ≤ b)) m t = sv b := by
  unfold Ieee.signed sv
  simp only [decide_eq_true_eq, Nat.shiftLeft_eq, hm]

/-- 2^1074, under a name. -/
def big (k : Nat) : Nat := 2 ^ k
theorem big_pos (k : Nat) : 0 < big k := Nat.two_pow_pos k

/-- The sum of two data at places not below -1074, counted in 2^-1074. -/
theorem sum_spec {s t : Bool} {m n : Nat} {i j : Int} (hi : -1074 ≤ i) (hj : -1074 ≤ j) {x y : Int} (hx : Ieee.signed s m (i + 1074).toNat = x) (hy : Ieee.signed t n (j + 1074).toNat = y) :
    ∃ d, (Ieee.Datum.number s m i).sum (.number t n j) = some d ∧
      ((x + y = 0 ∧ Ieee.double.write d = wordB (s && t) 0) ∨ (x + y ≠ 0 ∧ ∃ r, Ieee.double.write d = wordB (decide (x + y < 0)) r ∧ Near (x + y).natAbs 1 r)) := by
  refine ⟨_, rfl, ?_⟩
  obtain ⟨base, hb⟩ : ∃ base, base = min i j := ⟨_, rfl⟩
  obtain ⟨T, hT⟩ : ∃ T, T = Ieee.signed s m (i - base).toNat + Ieee.signed t n (j - base).toNat := ⟨_, rfl⟩
  obtain ⟨k, hk⟩ : ∃ k : Nat, k = (base + 1074).toNat := ⟨_, rfl⟩
  have hp := Nat.two_pow_pos k
  have e1 : Ieee.signed s m (i - base).toNat * (2 ^ k : Nat) = x := by
    rw [signed_scale _ _ _ _ (i + 1074).toNat (by omega), ← hx, Ieee.signed, Nat.shiftLeft_eq]
  have e2 : Ieee.signed t n (j - base).toNat * (2 ^ k : Nat) = y := by
    rw [signed_scale _ _ _ _ (j + 1074).toNat (by omega), ← hy, Ieee.signed, Nat.shiftLeft_eq]
  have eT : T * (2 ^ k : Nat) = x + y := by rw [hT, Int.add_mul, e1, e2]
  have hp' : (0 : Int) < ((2 ^ k : Nat) : Int) := by exact_mod_cast hp
  rw [← hb, ← hT]
  by_cases h0 : T = 0
  · left
    refine ⟨by rw [← eT, h0]; simp, ?_⟩
    rw [if_pos h0, h0]
    show Ieee.double.nearest (s && t) 0 base = _
    unfold Ieee.Format.nearest
    rw [if_pos rfl, word_eq]
  · right
    have hne : x + y ≠ 0 := by
      rw [← eT]
      intro h
      rcases Int.mul_eq_zero.1 h with h | h <;> omega
    refine ⟨hne, ?_⟩
    rw [if_neg h0]
    have hsgn : decide (T < 0) = decide (x + y < 0) := by
      rw [decide_eq_decide, ← eT]
      constructor
      · intro h; exact Int.mul_neg_of_neg_of_pos h hp'
      · intro h
        apply Int.lt_of_not_ge
        intro h2
        have := Int.mul_nonneg h2 (Int.le_of_lt hp')
        omega
    obtain ⟨r, hr, hr1, hr2⟩ := nearest_spec (decide (T < 0)) T.natAbs base (by omega)
    refine ⟨r, ?_, hr1, fun q hq => ?_⟩
    · show Ieee.double.nearest (decide (T < 0)) T.natAbs base = _
      rw [hr, word_eq, hsgn]
    · have h := hr2 q (-1074) hq (Int.le_refl _) (by omega)
      have e : T.natAbs * 2 ^ (base - -1074).toNat = (x + y).natAbs := by
        rw [← eT, Int.natAbs_mul, Int.natAbs_natCast]
        congr 2
        omega
      rw [e] at h
      simpa using h

/-- A sum of finite reals. -/
theorem fadd_spec {a b : Nat} (ha : IsW a) (hb : IsW b) (hfa : IsFin a) (hfb : IsFin b) :
    (sv a + sv b = 0 ∧ ∃ z, fadd (some a) (some b) = some z ∧ (z = 0 ∨ z = 9223372036854775808)) ∨
    (sv a + sv b ≠ 0 ∧ ∃ r, fadd (some a) (some b) = some (wordB (decide (sv a + sv b < 0)) r) ∧ Near (sv a + sv b).natAbs 1 r) := by
  obtain ⟨m, i, hm, hi, hmg⟩ := read_fin ha hfa
  obtain ⟨n, j, hn, hj, hng⟩ := read_fin hb hfb
  obtain ⟨d, hd, h⟩ := sum_spec hi hj (signed_sv hmg) (signed_sv hng)
  have hf : fadd (some a) (some b) = some (Ieee.double.write d) := by
    show ((Ieee.double.read a).sum (Ieee.double.read b)).map Ieee.double.write = _
    rw [hm, hn, hd]
    rfl
  rcases h with ⟨h0, h1⟩ | ⟨h0, r, h1, h2⟩
  · left
    refine ⟨h0, _, by rw [hf, h1], ?_⟩
    cases decide (9223372036854775808 ≤ a) && decide (9223372036854775808 ≤ b) <;> simp [wordB]
  · right
    exact ⟨h0, r, by rw [hf, h1], h2⟩
theorem fsub_spec {a b : Nat} (ha : IsW a) (hb : IsW b) (hfa : IsFin a) (hfb : IsFin b) :
    (sv a - sv b = 0 ∧ ∃ z, fsub (some a) (some b) = some z ∧ (z = 0 ∨ z = 9223372036854775808)) ∨
    (sv a - sv b ≠ 0 ∧ ∃ r, fsub (some a) (some b) = some (wordB (decide (sv a - sv b < 0)) r) ∧ Near (sv a - sv b).natAbs 1 r) := by
  obtain ⟨m, i, hm, hi, hmg⟩ := read_fin ha hfa
  obtain ⟨n, j, hn, hj, hng⟩ := read_fin hb hfb
  have hneg : Ieee.signed (!decide (9223372036854775808 ≤ b)) n (j + 1074).toNat = -sv b := by
    rw [← signed_sv hng]
    unfold Ieee.signed
    cases decide (9223372036854775808 ≤ b) <;> simp
  obtain ⟨d, hd, h⟩ := sum_spec hi hj (signed_sv hmg) hneg
  rw [← Int.sub_eq_add_neg] at h
  have hf : fsub (some a) (some b) = some (Ieee.double.write d) := by
    show ((Ieee.double.read a).sum (Ieee.double.read b).opposite).map Ieee.double.write = _
    rw [hm, hn]
    show ((Ieee.Datum.number _ m i).sum (.number _ n j)).map _ = _
    rw [hd]
    rfl
  rcases h with ⟨h0, h1⟩ | ⟨h0, r, h1, h2⟩
  · left
    refine ⟨h0, _, by rw [hf, h1], ?_⟩
    cases decide (9223372036854775808 ≤ a) && !decide (9223372036854775808 ≤ b) <;> simp [wordB]
  · right
    exact ⟨h0, r, by rw [hf, h1], h2⟩

/-- The sign of a word. -/
def neg (b : Nat) : Bool := decide (9223372036854775808 ≤ b)
/-- The magnitude of a word, counted in 2^-1074. -/
def mag (b : Nat) : Nat := mgn (b % 9223372036854775808)

theorem mag_zero {b m : Nat} {p : Int} (h : m * 2 ^ (p + 1074).toNat = mag b) : m = 0 ↔ mag b = 0 := by
  rw [← h]
  have := Nat.two_pow_pos (p + 1074).toNat
  constructor
  · intro e; rw [e]; simp
  · intro e
    rcases Nat.mul_eq_zero.1 e with h | h <;> omega

theorem mgn_none {s D : Nat} (hD : 0 < D) (h : mgn s * D ≤ 0) : s ≤ 0 := by
  have h1 : mgn s = 0 := by
    rcases Nat.mul_eq_zero.1 (Nat.le_zero.1 h) with h | h
    · exact h
    · omega
  have h2 := @mgn_lt_iff 0 s
  rw [mgn_zero] at h2
  omega

/-- A product of finite reals. -/
theorem fmul_spec {a b : Nat} (ha : IsW a) (hb : IsW b) (hfa : IsFin a) (hfb : IsFin b) :
    ∃ r, fmul (some a) (some b) = some (wordB (neg a ^^ neg b) r) ∧ Near (mag a * mag b) (big 1074) r := by
  obtain ⟨m, i, hm, hi, hmg⟩ := read_fin ha hfa
  obtain ⟨n, j, hn, hj, hng⟩ := read_fin hb hfb
  have hf : fmul (some a) (some b) = some (Ieee.double.nearest (neg a ^^ neg b) (m * n) (i + j)) := by
    show ((Ieee.double.read a).product (Ieee.double.read b)).map Ieee.double.write = _
    rw [hm, hn]
    rfl
  rw [hf]
  have hV : m * n * 2 ^ (i + j - -2148).toNat = mag a * mag b := by
    unfold mag
    rw [← hmg, ← hng, show (i + j - -2148).toNat = (i + 1074).toNat + (j + 1074).toNat from by omega, Nat.pow_add]
    generalize 2 ^ (i + 1074).toNat = u
    generalize 2 ^ (j + 1074).toNat = v
    rw [Nat.mul_assoc, Nat.mul_assoc, Nat.mul_left_comm n u v]
  rcases Nat.eq_zero_or_pos (m * n) with h0 | h0
  · refine ⟨0, ?_, by omega, fun s hs => ⟨fun h => ?_, fun _ => Nat.zero_le _⟩⟩
    · unfold Ieee.Format.nearest
      rw [h0, if_pos rfl, word_eq]
    · rw [← hV, h0, Nat.zero_mul] at h
      exact mgn_none (big_pos 1074) h
  · obtain ⟨r, hr, hr1, hr2⟩ := nearest_spec (neg a ^^ neg b) (m * n) (i + j) h0
    refine ⟨r, by rw [hr, word_eq], hr1, fun s hs => ?_⟩
    have h := hr2 s (-2148) hs (by omega) (by omega)
    rw [hV] at h
    obtain ⟨k, hk⟩ : ∃ k : Nat, k = (-1074 - -2148 : Int).toNat := ⟨_, rfl⟩
    rw [← hk] at h
    have hk2 : k = 1074 := by omega
    rw [← hk2]
    exact h
end Go.Proofs.YtfalbdlfopfgcaaGreatDoor

namespace Go.Proofs.YtfalbdlfopfgcaaGreatDoor

theorem mgn_dvd {s t : Nat} (h : 9007199254740992 * 2 ^ t < mgn s) : ∃ k, mgn s = k * 2 ^ t := by
  unfold mgn at h ⊢
  by_cases h1 : s < 4503599627370496
  · rw [if_pos h1] at h
    have := Nat.mul_le_mul_left 9007199254740992 (Nat.two_pow_pos t)
    omega
  · rw [if_neg h1] at h ⊢
    have h2 : 9007199254740992 * 2 ^ t < 9007199254740992 * 2 ^ (s / 4503599627370496 - 1) :=
      Nat.lt_of_lt_of_le h (Nat.mul_le_mul_right _ (by omega))
    have h3 : t < s / 4503599627370496 - 1 := (Nat.pow_lt_pow_iff_right (by omega : 1 < 2)).1 (Nat.lt_of_mul_lt_mul_left h2)
    generalize s / 4503599627370496 - 1 = q at *
    refine ⟨(4503599627370496 + s % 4503599627370496) * 2 ^ (q - t), ?_⟩
    rw [Nat.mul_assoc, ← Nat.pow_add, show q - t + t = q from by omega]

/-- The quotient as it is written down: k whole units and a mark for what is left. Case of a unit not above 2^-1074. -/
theorem quot_low {g n D k st e2 : Nat} (hn : 0 < n) (hk : k = D / n) (hst : (st = 0 ∧ D % n = 0) ∨ (st = 1 ∧ D % n ≠ 0)) :
    (g * n * 2 ^ e2 ≤ D → g * 2 ^ (e2 + 1) ≤ 2 * k + st) ∧ (D ≤ g * n * 2 ^ e2 → 2 * k + st ≤ g * 2 ^ (e2 + 1)) := by
  have hdm := Nat.div_add_mod D n
  rw [← hk] at hdm
  obtain ⟨t, ht⟩ : ∃ t, t = g * 2 ^ e2 := ⟨_, rfl⟩
  have w1 : g * n * 2 ^ e2 = n * t := by rw [ht, Nat.mul_comm g n, Nat.mul_assoc]
  have w2 : g * 2 ^ (e2 + 1) = 2 * t := by rw [ht, Nat.pow_succ, ← Nat.mul_assoc, Nat.mul_comm]
  rw [w1, w2]
  have hmod := Nat.mod_lt D hn
  constructor
  · intro h
    have : t ≤ k := by
      apply Nat.le_of_not_lt
      intro hlt
      have := Nat.mul_le_mul_left n hlt
      rw [Nat.mul_succ] at this
      omega
    omega
  · intro h
    have h1 : k ≤ t := by
      apply Nat.le_of_not_lt
      intro hlt
      have := Nat.mul_le_mul_left n hlt
      rw [Nat.mul_succ] at this
      omega
    rcases hst with ⟨h2, _⟩ | ⟨h2, h3⟩
    · omega
    · have : k ≠ t := by intro e; subst e; omega
      omega
theorem quot_high {g n D k st e1 : Nat} (hn : 0 < n) (hk : k = D / n) (hst : (st = 0 ∧ D % n = 0) ∨ (st = 1 ∧ D % n ≠ 0)) (hbig : 9007199254740992 ≤ k)
    (hd : 9007199254740992 * 2 ^ e1 < g → ∃ t, g = t * 2 ^ e1) :
    (g * n ≤ D * 2 ^ e1 → 2 * g ≤ (2 * k + st) * 2 ^ e1) ∧ (D * 2 ^ e1 ≤ g * n → (2 * k + st) * 2 ^ e1 ≤ 2 * g) := by
  have hdm := Nat.div_add_mod D n
  rw [← hk] at hdm
  have hmod := Nat.mod_lt D hn
  have hp := Nat.two_pow_pos e1
  generalize 2 ^ e1 = u at *
  by_cases hg : g ≤ k * u
  · constructor
    · intro _
      calc 2 * g ≤ 2 * (k * u) := by omega
        _ = (2 * k) * u := by rw [Nat.mul_assoc]
        _ ≤ (2 * k + st) * u := Nat.mul_le_mul_right _ (by omega)
    · intro h
      have h1 : D * u ≤ (n * k) * u := by
        calc D * u ≤ g * n := h
          _ ≤ (k * u) * n := Nat.mul_le_mul_right _ hg
          _ = (n * k) * u := by rw [Nat.mul_assoc, Nat.mul_comm u n, ← Nat.mul_assoc, Nat.mul_comm k n]
      have h2 : D ≤ n * k := Nat.le_of_mul_le_mul_right h1 hp
      have h3 : st = 0 := by omega
      have h4 : D = n * k := by omega
      subst h3
      rw [h4] at h
      have h5 : k * u ≤ g := by
        have h6 : n * (k * u) ≤ n * g := by
          rw [← Nat.mul_assoc, Nat.mul_comm n g]
          exact h
        exact Nat.le_of_mul_le_mul_left h6 hn
      rw [Nat.add_zero, Nat.mul_assoc]
      omega
  · obtain ⟨t, rfl⟩ := hd (Nat.lt_of_le_of_lt (Nat.mul_le_mul_right u hbig) (by omega))
    have htk : k < t := by
      apply Nat.lt_of_not_le
      intro h
      exact hg (Nat.mul_le_mul_right u h)
    have e : t * u * n = (n * t) * u := by rw [Nat.mul_comm, ← Nat.mul_assoc]
    constructor
    · intro h
      rw [e] at h
      have h2 := Nat.le_of_mul_le_mul_right h hp
      have h3 := Nat.mul_le_mul_left n htk
      rw [Nat.mul_succ] at h3
      omega
    · intro _
      calc (2 * k + st) * u ≤ (2 * t) * u := Nat.mul_le_mul_right _ (by omega)
        _ = 2 * (t * u) := by rw [Nat.mul_assoc]

set_option maxHeartbeats 1000000 in
/-- A quotient of finite reals, the divisor not 0. -/
theorem fdiv_spec {a b : Nat} (ha : IsW a) (hb : IsW b) (hfa : IsFin a) (hfb : IsFin b) (hb0 : mag b ≠ 0) :
    ∃ r, fdiv (some a) (some b) = some (wordB (neg a ^^ neg b) r) ∧ Near (mag a * big 1074) (mag b) r := by
  obtain ⟨m, i, hm, hi, hmg⟩ := read_fin ha hfa
  obtain ⟨n, j, hn, hj, hng⟩ := read_fin hb hfb
  have hn0 : n ≠ 0 := fun h => hb0 ((mag_zero hng).1 h)
  have hmg' : m * 2 ^ (i + 1074).toNat = mag a := hmg
  have hng' : n * 2 ^ (j + 1074).toNat = mag b := hng
  obtain ⟨more, hmore⟩ : ∃ more, more = 54 + n.log2 - m.log2 := ⟨_, rfl⟩
  obtain ⟨A, hA⟩ : ∃ A, A = 2 * (m * 2 ^ more / n) + (m * 2 ^ more % n != 0).toNat := ⟨_, rfl⟩
  obtain ⟨P, hP⟩ : ∃ P : Int, P = i - j - more - 1 := ⟨_, rfl⟩
  have hf : fdiv (some a) (some b) = some (Ieee.double.nearest (neg a ^^ neg b) A P) := by
    show ((Ieee.double.read a).quotient 54 (Ieee.double.read b)).map Ieee.double.write = _
    rw [hm, hn]
    simp only [Ieee.Datum.quotient, if_neg hn0, Nat.shiftLeft_eq, ← hmore, Option.map_some]
    rw [← hA, ← hP]
    rfl
  rw [hf]
  rcases Nat.eq_zero_or_pos m with hm0 | hm0
  · have hA0 : A = 0 := by rw [hA, hm0]; simp
    have hmag : mag a = 0 := (mag_zero hmg).1 hm0
    refine ⟨0, ?_, by omega, fun s hs => ⟨fun h => ?_, fun _ => Nat.zero_le _⟩⟩
    · unfold Ieee.Format.nearest
      rw [hA0, if_pos rfl, word_eq]
    · rw [hmag, Nat.zero_mul] at h
      exact mgn_none (by omega) h
  · obtain ⟨D, hD⟩ : ∃ D, D = m * 2 ^ more := ⟨_, rfl⟩
    obtain ⟨k, hk⟩ : ∃ k, k = D / n := ⟨_, rfl⟩
    obtain ⟨st, hst0⟩ : ∃ st, st = (D % n != 0).toNat := ⟨_, rfl⟩
    have hst : (st = 0 ∧ D % n = 0) ∨ (st = 1 ∧ D % n ≠ 0) := by
      by_cases h : D % n = 0
      · left; simp [hst0, h]
      · right
        refine ⟨?_, h⟩
        rw [hst0, show (D % n != 0) = true from bne_iff_ne.2 h]
        rfl
    have hAk : A = 2 * k + st := by rw [hA, ← hD, hk, hst0]
    have hbig : 9007199254740992 ≤ k := by
      rw [hk]
      apply (Nat.le_div_iff_mul_le (by omega)).2
      have h1 : n < 2 ^ (n.log2 + 1) := Nat.lt_log2_self
      have h2 : 2 ^ m.log2 ≤ m := Nat.log2_self_le (by omega)
      calc 9007199254740992 * n ≤ 9007199254740992 * 2 ^ (n.log2 + 1) := Nat.mul_le_mul_left _ (Nat.le_of_lt h1)
        _ = 2 ^ (53 + (n.log2 + 1)) := by rw [Nat.pow_add 2 53]
        _ ≤ 2 ^ (m.log2 + more) := Nat.pow_le_pow_right (by omega) (by omega)
        _ = 2 ^ m.log2 * 2 ^ more := by rw [Nat.pow_add]
        _ ≤ D := by rw [hD]; exact Nat.mul_le_mul_right _ h2
    obtain ⟨r, hr, hr1, hr2⟩ := nearest_spec (neg a ^^ neg b) A P (by omega)
    refine ⟨r, by rw [hr, word_eq], hr1, fun s hs => ?_⟩
    obtain ⟨e1, he1⟩ : ∃ e1 : Nat, e1 = (P + 1075).toNat := ⟨_, rfl⟩
    obtain ⟨e2, he2⟩ : ∃ e2 : Nat, e2 = (-(P + 1075)).toNat := ⟨_, rfl⟩
    obtain ⟨i', hi'⟩ : ∃ i' : Nat, i' = (i + 1074).toNat := ⟨_, rfl⟩
    obtain ⟨j', hj'⟩ : ∃ j' : Nat, j' = (j + 1074).toNat := ⟨_, rfl⟩
    obtain ⟨z, hz⟩ : ∃ z : Nat, z = 1074 := ⟨_, rfl⟩
    rw [← hi'] at hmg'
    rw [← hj'] at hng'
    have hpow : more + e1 + j' = i' + z + e2 := by omega
    -- the bracket's inequality, in whole units of the quotient
    have hlhs : mgn s * mag b * 2 ^ e2 = (mgn s * n * 2 ^ e2) * 2 ^ j' := by
      rw [← hng', Nat.mul_assoc, Nat.mul_assoc, Nat.mul_assoc, Nat.mul_assoc, Nat.mul_comm (2 ^ j') (2 ^ e2)]
    have hrhs : mag a * big z * 2 ^ e2 = (D * 2 ^ e1) * 2 ^ j' := by
      rw [← hmg', hD]
      unfold big
      rw [Nat.mul_assoc, Nat.mul_assoc, Nat.mul_assoc, Nat.mul_assoc, ← Nat.pow_add, ← Nat.pow_add, ← Nat.pow_add, ← Nat.pow_add]
      congr 2
      omega
    have hp2 := Nat.two_pow_pos e2
    have hpj := Nat.two_pow_pos j'
    have hle1 : mgn s * mag b ≤ mag a * big z → mgn s * n * 2 ^ e2 ≤ D * 2 ^ e1 := by
      intro h
      have h := Nat.mul_le_mul_right (2 ^ e2) h
      rw [hlhs, hrhs] at h
      exact Nat.le_of_mul_le_mul_right h hpj
    have hle2 : mag a * big z ≤ mgn s * mag b → D * 2 ^ e1 ≤ mgn s * n * 2 ^ e2 := by
      intro h
      have h := Nat.mul_le_mul_right (2 ^ e2) h
      rw [hlhs, hrhs] at h
      exact Nat.le_of_mul_le_mul_right h hpj
    rw [← hz]
    have hn1 : 0 < n := Nat.pos_of_ne_zero hn0
    clear hlhs hrhs hmg hng hmg' hng' hm hn hpow hi' hj' hz hP hmore hA hr hf hD hm0 hfa hfb ha hb hb0 hi hj hn0 hp2 hpj hst0
    by_cases hE : P + 1075 ≤ 0
    · have he10 : e1 = 0 := by omega
      have q1 : (P - P).toNat = 0 := by omega
      have q2 : (-1074 - P).toNat = e2 + 1 := by omega
      have q3 : P ≤ -1074 := by omega
      clear he1 he2 hE
      have h := hr2 s P hs q3 (Int.le_refl _)
      rw [q1, q2, Nat.pow_zero, Nat.mul_one, hAk] at h
      rw [he10, Nat.pow_zero, Nat.mul_one] at hle1 hle2
      have hq := quot_low (g := mgn s) (e2 := e2) hn1 hk hst
      exact ⟨fun h1 => h.1 (hq.1 (hle1 h1)), fun h1 => h.2 (hq.2 (hle2 h1))⟩
    · have he20 : e2 = 0 := by omega
      obtain ⟨y, hy⟩ : ∃ y : Nat, y = (P - -1074).toNat := ⟨_, rfl⟩
      have hy1 : e1 = y + 1 := by omega
      have q3 : -1074 ≤ P := by omega
      clear he1 he2 hE
      have h := hr2 s (-1074) hs (Int.le_refl _) q3
      rw [← hy, show (-1074 - -1074 : Int).toNat = 0 from by decide, Nat.pow_zero, Nat.mul_one, hAk] at h
      rw [he20, Nat.pow_zero, Nat.mul_one] at hle1 hle2
      have hq := quot_high (g := mgn s) (e1 := e1) hn1 hk hst hbig (fun hlt => mgn_dvd hlt)
      rw [hy1, Nat.pow_succ, ← Nat.mul_assoc] at hq
      rw [hy1] at hle1 hle2
      rw [Nat.pow_succ, ← Nat.mul_assoc] at hle1 hle2
      have d1 : ∀ x z : Nat, 2 * x ≤ z * 2 → x ≤ z := fun x z h => by omega
      have d2 : ∀ x z : Nat, z * 2 ≤ 2 * x → z ≤ x := fun x z h => by omega
      exact ⟨fun h1 => h.1 (d1 _ _ (by rw [Nat.mul_assoc]; exact hq.1 (hle1 h1))), fun h1 => h.2 (d2 _ _ (by rw [Nat.mul_assoc]; exact hq.2 (hle2 h1)))⟩
end Go.Proofs.YtfalbdlfopfgcaaGreatDoor

namespace Go.Proofs.YtfalbdlfopfgcaaGreatDoor

def KeptE (V c k : Nat) : Prop := k = V / 2 ^ c + (if 2 ^ c < 2 * (V % 2 ^ c) ∨ (2 ^ c = 2 * (V % 2 ^ c) ∧ V / 2 ^ c % 2 = 1) then 1 else 0)
theorem cut_even (neg : Bool) (m drop a : Nat) : KeptE (m * 2 ^ a) (a + drop) (Ieee.Toward.even.cut neg m drop) := by
  have hV1 : m * 2 ^ a / 2 ^ (a + drop) = m / 2 ^ drop := by
    rw [Nat.add_comm, Nat.pow_add, Nat.mul_div_mul_right _ _ (Nat.two_pow_pos a)]
  have hV2 : m * 2 ^ a % 2 ^ (a + drop) = (m % 2 ^ drop) * 2 ^ a := by
    rw [Nat.add_comm, Nat.pow_add, Nat.mul_mod_mul_right]
  have hpa : 2 ^ (a + drop) = 2 ^ drop * 2 ^ a := by rw [Nat.add_comm, Nat.pow_add]
  have hlt : m < 2 ^ (m.log2 + 1) := Nat.lt_log2_self
  have hA := Nat.two_pow_pos a
  unfold KeptE
  rw [hV1, hV2, hpa]
  have c1 : ∀ x y : Nat, (x * 2 ^ a < 2 * (y * 2 ^ a) ↔ x < 2 * y) := fun x y => by
    rw [← Nat.mul_assoc]
    exact Nat.mul_lt_mul_right hA
  have c2 : ∀ x y : Nat, (x * 2 ^ a = 2 * (y * 2 ^ a) ↔ x = 2 * y) := fun x y => by
    rw [← Nat.mul_assoc]
    exact ⟨fun h => Nat.eq_of_mul_eq_mul_right hA h, fun h => by rw [h]⟩
  simp only [c1, c2]
  unfold Ieee.Toward.cut
  simp only [Nat.shiftLeft_eq, Nat.one_mul]
  by_cases hd : drop ≤ m.log2 + 2
  · rw [Nat.min_eq_left hd]
    have hg := Nat.two_pow_pos drop
    generalize 2 ^ drop = g at *
    by_cases hc : (decide (g < 2 * (m % g)) || g == 2 * (m % g) && m / g % 2 == 1) = true
    · rw [hc]
      simp only [Bool.or_eq_true, decide_eq_true_eq, Bool.and_eq_true, beq_iff_eq] at hc
      rw [if_pos hc]
      rfl
    · have hc2 := hc
      simp only [Bool.not_eq_true] at hc
      rw [hc]
      simp only [Bool.or_eq_true, decide_eq_true_eq, Bool.and_eq_true, beq_iff_eq] at hc2
      rw [if_neg hc2]
      rfl
  · rw [Nat.min_eq_right (by omega)]
    have hg : m < 2 ^ drop := Nat.lt_of_lt_of_le hlt (Nat.pow_le_pow_right (by omega) (by omega))
    have h4 : 2 ^ (m.log2 + 2) = 2 * 2 ^ (m.log2 + 1) := by rw [Nat.pow_succ, Nat.mul_comm]
    have h5 : 2 ^ (m.log2 + 2) ≤ 2 ^ drop := Nat.pow_le_pow_right (by omega) (by omega)
    generalize 2 ^ (m.log2 + 1) = u at *
    rw [h4, Nat.mod_eq_of_lt (show m < 2 * u from by omega), Nat.div_eq_of_lt (show m < 2 * u from by omega), Nat.div_eq_of_lt hg, Nat.mod_eq_of_lt hg]
    have hc : (decide (2 * u < 2 * m) || 2 * u == 2 * m && 0 % 2 == 1) = false := by
      have h1 : ¬ 2 * u < 2 * m := by omega
      simp [h1]
    rw [hc, if_neg (by omega)]
    rfl

/-- Twice the middle of a word and the next, counted in 2^-1074. -/
def mid (s : Nat) : Nat := mgn s + mgn (s + 1)
/-- The rung r is the nearest to V / D, an even one in the middle. -/
def NearM (V D r : Nat) : Prop := r ≤ 9218868437227405312 ∧ ∀ s, s < 9218868437227405312 → (s + 1 ≤ r ↔ (mid s * D < 2 * V ∨ (mid s * D = 2 * V ∧ s % 2 = 1)))
theorem NearM.mono {V D V' D' r r' : Nat} (h : NearM V D r) (h' : NearM V' D' r') (hD : 0 < D) (hD' : 0 < D') (hle : V * D' ≤ V' * D) : r ≤ r' := by
  apply Nat.le_of_not_lt
  intro hlt
  have hr := h.1
  have h1 := (h.2 r' (by omega)).1 (by omega)
  have h2 : (mid r' * D' < 2 * V' ∨ (mid r' * D' = 2 * V' ∧ r' % 2 = 1)) → False := fun x => by
    have := (h'.2 r' (by omega)).2 x
    omega
  apply h2
  rcases h1 with h1 | ⟨h1, ho⟩
  · left
    apply Nat.lt_of_not_le
    intro hge
    have a1 := Nat.mul_le_mul_right D hge
    have a2 := Nat.mul_lt_mul_of_pos_right h1 hD'
    rw [Nat.mul_assoc 2 V' D, Nat.mul_right_comm] at a1
    rw [Nat.mul_assoc 2 V D'] at a2
    omega
  · have a2 : mid r' * D * D' = 2 * V * D' := by rw [h1]
    rw [Nat.mul_right_comm, Nat.mul_assoc 2 V D'] at a2
    rcases Nat.lt_or_ge (mid r' * D') (2 * V') with h3 | h3
    · exact .inl h3
    · right
      refine ⟨?_, ho⟩
      have a1 := Nat.mul_le_mul_right D h3
      rw [Nat.mul_assoc 2 V' D] at a1
      have a3 : mid r' * D' * D = 2 * V' * D := by rw [Nat.mul_assoc 2 V' D]; omega
      exact Nat.eq_of_mul_eq_mul_right hD a3

/-- The rung that 'nearest' comes to, told by the middles. Units: 2^-(1074 + b). -/
theorem bracketM {V b q k : Nat} (hk : KeptE V (b + q) k) (hV : V < 9007199254740992 * 2 ^ (b + q)) (hq : q = 0 ∨ 4503599627370496 * 2 ^ (b + q) ≤ V) (s : Nat) :
    s + 1 ≤ q * 4503599627370496 + k ↔ (mid s * 2 ^ b < 2 * V ∨ (mid s * 2 ^ b = 2 * V ∧ s % 2 = 1)) := by
  have hb := Nat.two_pow_pos b
  have hc := Nat.two_pow_pos (b + q)
  have hpc : 2 ^ (b + q) = 2 ^ q * 2 ^ b := by rw [Nat.add_comm, Nat.pow_add]
  have hdm := Nat.div_add_mod V (2 ^ (b + q))
  have hmod := Nat.mod_lt V hc
  have hlow : V / 2 ^ (b + q) < 9007199254740992 := Nat.div_lt_of_lt_mul (by rw [Nat.mul_comm]; exact hV)
  have hq2 : q = 0 ∨ 4503599627370496 ≤ V / 2 ^ (b + q) := hq.imp id fun h => (Nat.le_div_iff_mul_le hc).2 h
  have hkb : V / 2 ^ (b + q) ≤ k ∧ k ≤ V / 2 ^ (b + q) + 1 := by
    unfold KeptE at hk
    split at hk <;> omega
  have hmm : mgn s < mgn (s + 1) := mgn_lt (by omega)
  by_cases h1 : s < q * 4503599627370496 ∨ (q ≠ 0 ∧ s < q * 4503599627370496 + 4503599627370496)
  · have hq0 : q ≠ 0 := by rcases h1 with h | h <;> omega
    have hq3 : 4503599627370496 ≤ V / 2 ^ (b + q) := by omega
    have hle : mgn (s + 1) ≤ 4503599627370496 * 2 ^ q := by
      rw [← mgn_form q 4503599627370496 (.inr (Nat.le_refl _)) (by omega)]
      exact mgn_le (by rcases h1 with h | h <;> omega)
    have hlt : mid s * 2 ^ b < 2 * V := by
      have e1 : mid s < 2 * (4503599627370496 * 2 ^ q) := by unfold mid; omega
      have e2 := Nat.mul_lt_mul_of_pos_right e1 hb
      have e3 : 4503599627370496 * 2 ^ q * 2 ^ b ≤ V := by
        rw [Nat.mul_assoc, ← hpc]
        rcases hq with h | h
        · exact absurd h hq0
        · exact h
      rw [Nat.mul_assoc 2] at e2
      omega
    exact ⟨fun _ => .inl hlt, fun _ => by rcases h1 with h | h <;> omega⟩
  · by_cases h2 : q * 4503599627370496 + 9007199254740992 ≤ s
    · have hge : 9007199254740992 * 2 ^ q ≤ mgn s := by
        rw [← mgn_form q 9007199254740992 (.inr (by omega)) (by omega)]
        exact mgn_le h2
      have hgt : 2 * V < mid s * 2 ^ b := by
        have e1 : 2 * (9007199254740992 * 2 ^ q) ≤ mid s := by unfold mid; omega
        have e2 := Nat.mul_le_mul_right (2 ^ b) e1
        rw [Nat.mul_assoc 2, Nat.mul_assoc, ← hpc] at e2
        omega
      exact ⟨fun h => by omega, fun h => by omega⟩
    · obtain ⟨k', rfl⟩ : ∃ k', s = q * 4503599627370496 + k' := ⟨s - q * 4503599627370496, by omega⟩
      have hk1 : q = 0 ∨ 4503599627370496 ≤ k' := by omega
      have e0 : mid (q * 4503599627370496 + k') = (2 * k' + 1) * 2 ^ q := by
        unfold mid
        rw [Nat.add_assoc, mgn_form q k' hk1 (by omega), mgn_form q (k' + 1) (by omega) (by omega), ← Nat.add_mul]
        congr 1
        omega
      rw [e0, Nat.mul_assoc, ← hpc]
      have hpar : (q * 4503599627370496 + k') % 2 = k' % 2 := by omega
      rw [hpar]
      unfold KeptE at hk
      generalize V / 2 ^ (b + q) = d at *
      generalize V % 2 ^ (b + q) = ρ at *
      generalize 2 ^ (b + q) = u at *
      subst hdm
      have e5 : 2 * (u * d + ρ) = 2 * (u * d) + 2 * ρ := by omega
      rcases Nat.lt_trichotomy k' d with h | h | h
      · have m1 : (2 * k' + 1) * u < 2 * (u * d + ρ) := by
          have a1 : (2 * k' + 1) * u < (2 * d) * u := Nat.mul_lt_mul_of_pos_right (by omega) hc
          rw [Nat.mul_assoc, Nat.mul_comm d u] at a1
          omega
        exact ⟨fun _ => .inl m1, fun _ => by omega⟩
      · subst h
        have m1 : (2 * k' + 1) * u = 2 * (u * k') + u := by
          rw [Nat.add_mul, Nat.one_mul, Nat.mul_assoc, Nat.mul_comm k' u]
        rw [m1, e5]
        constructor
        · intro hs
          split at hk
          · rename_i hc2; omega
          · omega
        · intro hs
          rw [if_pos (by omega)] at hk
          omega
      · have m1 : 2 * (u * d + ρ) < (2 * k' + 1) * u := by
          have a1 : (2 * (d + 1)) * u ≤ (2 * k' + 1) * u := Nat.mul_le_mul_right _ (by omega)
          rw [Nat.mul_assoc, Nat.add_mul, Nat.one_mul, Nat.mul_comm d u] at a1
          omega
        exact ⟨fun _ => by omega, fun _ => by omega⟩

theorem NearM.near {V D r : Nat} (h : NearM V D r) (hD : 0 < D) : Near V D r := by
  refine ⟨h.1, fun s hs => ⟨fun hv => ?_, fun hv => ?_⟩⟩
  · cases s with
    | zero => omega
    | succ t =>
      refine (h.2 t (by omega)).2 (.inl ?_)
      have h1 : mid t < 2 * mgn (t + 1) := by
        have := @mgn_lt t (t + 1) (by omega)
        unfold mid
        omega
      have h2 := Nat.mul_lt_mul_of_pos_right h1 hD
      rw [Nat.mul_assoc] at h2
      omega
  · apply Nat.le_of_not_lt
    intro hlt
    have hr := h.1
    have h0 := (h.2 s (by omega)).1 (by omega)
    have h1 : 2 * mgn s < mid s := by
      have := @mgn_lt s (s + 1) (by omega)
      unfold mid
      omega
    have h2 := Nat.mul_lt_mul_of_pos_right h1 hD
    rw [Nat.mul_assoc] at h2
    omega

theorem nearest_mid (neg : Bool) (m : Nat) (e : Int) (hm : 0 < m) :
    ∃ r, Ieee.double.nearest neg m e = Ieee.double.word neg r ∧ r ≤ 9218868437227405312 ∧
      ∀ (s : Nat) (p : Int), s < 9218868437227405312 → p ≤ -1074 → p ≤ e →
        (s + 1 ≤ r ↔ (mid s * 2 ^ (-1074 - p).toNat < 2 * (m * 2 ^ (e - p).toNat) ∨ (mid s * 2 ^ (-1074 - p).toNat = 2 * (m * 2 ^ (e - p).toNat) ∧ s % 2 = 1))) := by
  have h2 : Ieee.double.binade = 4503599627370496 := by decide +kernel
  have h3 : Ieee.double.infRung = 9218868437227405312 := by decide +kernel
  have h4 : Ieee.double.leastPlace = -1074 := by decide +kernel
  have h5 : Ieee.double.fractionBits = 52 := rfl
  unfold Ieee.Format.nearest
  simp only [h2, h3, h4, h5]
  rw [if_neg (by omega)]
  have hL1 : 2 ^ m.log2 ≤ m := Nat.log2_self_le (by omega)
  have hL2 : m < 2 ^ (m.log2 + 1) := Nat.lt_log2_self
  generalize m.log2 = L at *
  obtain ⟨last, hlast⟩ : ∃ last : Int, last = max (e + (L : Int) - 52) (-1074) := ⟨_, rfl⟩
  rw [show max (e + (L : Int) - ((52 : Nat) : Int)) (-1074) = last from by rw [hlast]; rfl]
  refine ⟨_, rfl, Nat.min_le_right _ _, fun s p hs hp1 hp2 => ?_⟩
  obtain ⟨b, hb⟩ : ∃ b : Nat, b = (-1074 - p).toNat := ⟨_, rfl⟩
  obtain ⟨a, ha⟩ : ∃ a : Nat, a = (e - p).toNat := ⟨_, rfl⟩
  obtain ⟨q, hq⟩ : ∃ q : Nat, q = (last - -1074).toNat := ⟨_, rfl⟩
  rw [← hb, ← ha, ← hq]
  have hk : KeptE (m * 2 ^ a) (b + q) (Ieee.Toward.even.cut neg (m <<< (e - last).toNat) (last - e).toNat) := by
    rcases Int.lt_or_le e last with h | h
    · rw [show (e - last).toNat = 0 from by omega, Nat.shiftLeft_zero, show b + q = a + (last - e).toNat from by omega]
      exact cut_even neg m _ a
    · rw [show (last - e).toNat = 0 from by omega, Nat.shiftLeft_eq]
      have hc := cut_even neg (m * 2 ^ (e - last).toNat) 0 (b + q)
      rwa [Nat.mul_assoc, ← Nat.pow_add, show (e - last).toNat + (b + q) = a from by omega, Nat.add_zero] at hc
  have hV : m * 2 ^ a < 9007199254740992 * 2 ^ (b + q) := by
    have h1 : m * 2 ^ a < 2 ^ (L + 1) * 2 ^ a := Nat.mul_lt_mul_of_pos_right hL2 (Nat.two_pow_pos a)
    rw [← Nat.pow_add] at h1
    refine Nat.lt_of_lt_of_le h1 ?_
    rw [show (9007199254740992 : Nat) = 2 ^ 53 from by decide, ← Nat.pow_add]
    exact Nat.pow_le_pow_right (by omega) (by omega)
  have hq0 : q = 0 ∨ 4503599627370496 * 2 ^ (b + q) ≤ m * 2 ^ a := by
    by_cases h0 : q = 0
    · exact .inl h0
    · right
      have h1 : 2 ^ L * 2 ^ a ≤ m * 2 ^ a := Nat.mul_le_mul_right _ hL1
      refine Nat.le_trans ?_ h1
      rw [← Nat.pow_add, show (4503599627370496 : Nat) = 2 ^ 52 from by decide, ← Nat.pow_add]
      exact Nat.pow_le_pow_right (by omega) (by omega)
  have hbr := bracketM hk hV hq0 s
  rw [← hbr]
  exact ⟨fun h => (Nat.le_min.1 h).1, fun h => Nat.le_min.2 ⟨h, hs⟩⟩

theorem mgn_dvd2 {s t : Nat} (h : 9007199254740992 * 2 ^ t ≤ mgn s) : ∃ k, mgn s = k * 2 ^ (t + 1) := by
  unfold mgn at h ⊢
  by_cases h1 : s < 4503599627370496
  · rw [if_pos h1] at h
    have := Nat.mul_le_mul_left 9007199254740992 (Nat.two_pow_pos t)
    omega
  · rw [if_neg h1] at h ⊢
    have h2 : 9007199254740992 * 2 ^ t < 9007199254740992 * 2 ^ (s / 4503599627370496 - 1) :=
      Nat.lt_of_le_of_lt h (Nat.mul_lt_mul_of_pos_right (by omega) (Nat.two_pow_pos _))
    have h3 : t < s / 4503599627370496 - 1 := (Nat.pow_lt_pow_iff_right (by omega : 1 < 2)).1 (Nat.lt_of_mul_lt_mul_left h2)
    generalize s / 4503599627370496 - 1 = q at *
    refine ⟨(4503599627370496 + s % 4503599627370496) * 2 ^ (q - (t + 1)), ?_⟩
    rw [Nat.mul_assoc, ← Nat.pow_add, show q - (t + 1) + (t + 1) = q from by omega]
/-- A middle beyond 2^53 units of 2^t is so many times the unit, an even number of them. -/
theorem mid_dvd (s t : Nat) : mid s < 2 * (9007199254740992 * 2 ^ t) ∨ ∃ k, mid s = 2 * k * 2 ^ t := by
  rcases Nat.lt_or_ge (9007199254740992 * 2 ^ t) (mgn (s + 1)) with h | h
  · right
    have e := mgn_form t 9007199254740992 (.inr (by omega)) (by omega)
    rw [← e] at h
    have h1 := mgn_lt_iff.1 h
    have h2 : 9007199254740992 * 2 ^ t ≤ mgn s := by
      rw [← e]
      exact mgn_le (by omega)
    have h3 : 9007199254740992 * 2 ^ t ≤ mgn (s + 1) := by
      rw [← e]
      exact mgn_le (by omega)
    obtain ⟨k1, e1⟩ := mgn_dvd2 h2
    obtain ⟨k2, e2⟩ := mgn_dvd2 h3
    refine ⟨k1 + k2, ?_⟩
    unfold mid
    rw [e1, e2, Nat.pow_succ]
    generalize 2 ^ t = u
    grind
  · left
    have := @mgn_lt s (s + 1) (by omega)
    unfold mid
    omega

theorem quotT {T n D k st : Nat} (hn : 0 < n) (hk : k = D / n) (hst : (st = 0 ∧ D % n = 0) ∨ (st = 1 ∧ D % n ≠ 0)) (h : (∃ t, T = 2 * t) ∨ T < 2 * k) :
    (T * n < 2 * D ↔ T < 2 * k + st) ∧ (T * n = 2 * D ↔ T = 2 * k + st) := by
  have hdm := Nat.div_add_mod D n
  rw [← hk] at hdm
  have hmod := Nat.mod_lt D hn
  generalize D % n = ρ at *
  subst hdm
  clear hk
  rcases Nat.lt_or_ge T (2 * k) with h1 | h1
  · have h2 := Nat.mul_lt_mul_of_pos_right h1 hn
    rw [Nat.mul_assoc, Nat.mul_comm k n] at h2
    clear h
    omega
  · obtain ⟨t, rfl⟩ : ∃ t, T = 2 * t := by
      rcases h with h | h
      · exact h
      · omega
    clear h
    rw [Nat.mul_assoc, Nat.mul_comm t n]
    rcases Nat.lt_or_ge k t with h2 | h2
    · have h3 := Nat.mul_le_mul_left n (show k + 1 ≤ t from h2)
      rw [Nat.mul_succ] at h3
      omega
    · obtain rfl : t = k := by omega
      omega
end Go.Proofs.YtfalbdlfopfgcaaGreatDoor

namespace Go.Proofs.YtfalbdlfopfgcaaGreatDoor

theorem sum_mid {s t : Bool} {m n : Nat} {i j : Int} (hi : -1074 ≤ i) (hj : -1074 ≤ j) {x y : Int} (hx : Ieee.signed s m (i + 1074).toNat = x) (hy : Ieee.signed t n (j + 1074).toNat = y) :
    ∃ d, (Ieee.Datum.number s m i).sum (.number t n j) = some d ∧
      ((x + y = 0 ∧ Ieee.double.write d = wordB (s && t) 0) ∨ (x + y ≠ 0 ∧ ∃ r, Ieee.double.write d = wordB (decide (x + y < 0)) r ∧ NearM (x + y).natAbs 1 r)) := by
  refine ⟨_, rfl, ?_⟩
  obtain ⟨base, hb⟩ : ∃ base, base = min i j := ⟨_, rfl⟩
  obtain ⟨T, hT⟩ : ∃ T, T = Ieee.signed s m (i - base).toNat + Ieee.signed t n (j - base).toNat := ⟨_, rfl⟩
  obtain ⟨k, hk⟩ : ∃ k : Nat, k = (base + 1074).toNat := ⟨_, rfl⟩
  have hp := Nat.two_pow_pos k
  have e1 : Ieee.signed s m (i - base).toNat * (2 ^ k : Nat) = x := by
    rw [signed_scale _ _ _ _ (i + 1074).toNat (by omega), ← hx, Ieee.signed, Nat.shiftLeft_eq]
  have e2 : Ieee.signed t n (j - base).toNat * (2 ^ k : Nat) = y := by
    rw [signed_scale _ _ _ _ (j + 1074).toNat (by omega), ← hy, Ieee.signed, Nat.shiftLeft_eq]
  have eT : T * (2 ^ k : Nat) = x + y := by rw [hT, Int.add_mul, e1, e2]
  have hp' : (0 : Int) < ((2 ^ k : Nat) : Int) := by exact_mod_cast hp
  rw [← hb, ← hT]
  by_cases h0 : T = 0
  · left
    refine ⟨by rw [← eT, h0]; simp, ?_⟩
    rw [if_pos h0, h0]
    show Ieee.double.nearest (s && t) 0 base = _
    unfold Ieee.Format.nearest
    rw [if_pos rfl, word_eq]
  · right
    have hne : x + y ≠ 0 := by
      rw [← eT]
      intro h
      rcases Int.mul_eq_zero.1 h with h | h <;> omega
    refine ⟨hne, ?_⟩
    rw [if_neg h0]
    have hsgn : decide (T < 0) = decide (x + y < 0) := by
      rw [decide_eq_decide, ← eT]
      constructor
      · intro h; exact Int.mul_neg_of_neg_of_pos h hp'
      · intro h
        apply Int.lt_of_not_ge
        intro h2
        have := Int.mul_nonneg h2 (Int.le_of_lt hp')
        omega
    obtain ⟨r, hr, hr1, hr2⟩ := nearest_mid (decide (T < 0)) T.natAbs base (by omega)
    refine ⟨r, ?_, hr1, fun q hq => ?_⟩
    · show Ieee.double.nearest (decide (T < 0)) T.natAbs base = _
      rw [hr, word_eq, hsgn]
    · have h := hr2 q (-1074) hq (Int.le_refl _) (by omega)
      have e : T.natAbs * 2 ^ (base - -1074).toNat = (x + y).natAbs := by
        rw [← eT, Int.natAbs_mul, Int.natAbs_natCast]
        congr 2
        omega
      rw [e] at h
      simpa using h

/-- A sum of finite reals. -/
theorem fadd_mid {a b : Nat} (ha : IsW a) (hb : IsW b) (hfa : IsFin a) (hfb : IsFin b) :
    (sv a + sv b = 0 ∧ ∃ z, fadd (some a) (some b) = some z ∧ (z = 0 ∨ z = 9223372036854775808)) ∨
    (sv a + sv b ≠ 0 ∧ ∃ r, fadd (some a) (some b) = some (wordB (decide (sv a + sv b < 0)) r) ∧ NearM (sv a + sv b).natAbs 1 r) := by
  obtain ⟨m, i, hm, hi, hmg⟩ := read_fin ha hfa
  obtain ⟨n, j, hn, hj, hng⟩ := read_fin hb hfb
  obtain ⟨d, hd, h⟩ := sum_mid hi hj (signed_sv hmg) (signed_sv hng)
  have hf : fadd (some a) (some b) = some (Ieee.double.write d) := by
    show ((Ieee.double.read a).sum (Ieee.double.read b)).map Ieee.double.write = _
    rw [hm, hn, hd]
    rfl
  rcases h with ⟨h0, h1⟩ | ⟨h0, r, h1, h2⟩
  · left
    refine ⟨h0, _, by rw [hf, h1], ?_⟩
    cases decide (9223372036854775808 ≤ a) && decide (9223372036854775808 ≤ b) <;> simp [wordB]
  · right
    exact ⟨h0, r, by rw [hf, h1], h2⟩
set_option maxHeartbeats 1000000 in
/-- A quotient of finite reals, the divisor not 0. -/
theorem fdiv_mid {a b : Nat} (ha : IsW a) (hb : IsW b) (hfa : IsFin a) (hfb : IsFin b) (hb0 : mag b ≠ 0) (ha0 : mag a ≠ 0) :
    ∃ r, fdiv (some a) (some b) = some (wordB (neg a ^^ neg b) r) ∧ NearM (mag a * big 1074) (mag b) r := by
  obtain ⟨m, i, hm, hi, hmg⟩ := read_fin ha hfa
  obtain ⟨n, j, hn, hj, hng⟩ := read_fin hb hfb
  have hn0 : n ≠ 0 := fun h => hb0 ((mag_zero hng).1 h)
  have hmg' : m * 2 ^ (i + 1074).toNat = mag a := hmg
  have hng' : n * 2 ^ (j + 1074).toNat = mag b := hng
  obtain ⟨more, hmore⟩ : ∃ more, more = 54 + n.log2 - m.log2 := ⟨_, rfl⟩
  obtain ⟨A, hA⟩ : ∃ A, A = 2 * (m * 2 ^ more / n) + (m * 2 ^ more % n != 0).toNat := ⟨_, rfl⟩
  obtain ⟨P, hP⟩ : ∃ P : Int, P = i - j - more - 1 := ⟨_, rfl⟩
  have hf : fdiv (some a) (some b) = some (Ieee.double.nearest (neg a ^^ neg b) A P) := by
    show ((Ieee.double.read a).quotient 54 (Ieee.double.read b)).map Ieee.double.write = _
    rw [hm, hn]
    simp only [Ieee.Datum.quotient, if_neg hn0, Nat.shiftLeft_eq, ← hmore, Option.map_some]
    rw [← hA, ← hP]
    rfl
  rw [hf]
  rcases Nat.eq_zero_or_pos m with hm0 | hm0
  · exact absurd ((mag_zero hmg).1 hm0) ha0
  · obtain ⟨D, hD⟩ : ∃ D, D = m * 2 ^ more := ⟨_, rfl⟩
    obtain ⟨k, hk⟩ : ∃ k, k = D / n := ⟨_, rfl⟩
    obtain ⟨st, hst0⟩ : ∃ st, st = (D % n != 0).toNat := ⟨_, rfl⟩
    have hst : (st = 0 ∧ D % n = 0) ∨ (st = 1 ∧ D % n ≠ 0) := by
      by_cases h : D % n = 0
      · left; simp [hst0, h]
      · right
        refine ⟨?_, h⟩
        rw [hst0, show (D % n != 0) = true from bne_iff_ne.2 h]
        rfl
    have hAk : A = 2 * k + st := by rw [hA, ← hD, hk, hst0]
    have hbig : 9007199254740992 ≤ k := by
      rw [hk]
      apply (Nat.le_div_iff_mul_le (by omega)).2
      have h1 : n < 2 ^ (n.log2 + 1) := Nat.lt_log2_self
      have h2 : 2 ^ m.log2 ≤ m := Nat.log2_self_le (by omega)
      calc 9007199254740992 * n ≤ 9007199254740992 * 2 ^ (n.log2 + 1) := Nat.mul_le_mul_left _ (Nat.le_of_lt h1)
        _ = 2 ^ (53 + (n.log2 + 1)) := by rw [Nat.pow_add 2 53]
        _ ≤ 2 ^ (m.log2 + more) := Nat.pow_le_pow_right (by omega) (by omega)
        _ = 2 ^ m.log2 * 2 ^ more := by rw [Nat.pow_add]
        _ ≤ D := by rw [hD]; exact Nat.mul_le_mul_right _ h2
    obtain ⟨r, hr, hr1, hr2⟩ := nearest_mid (neg a ^^ neg b) A P (by omega)
    refine ⟨r, by rw [hr, word_eq], hr1, fun s hs => ?_⟩
    obtain ⟨e1, he1⟩ : ∃ e1 : Nat, e1 = (P + 1075).toNat := ⟨_, rfl⟩
    obtain ⟨e2, he2⟩ : ∃ e2 : Nat, e2 = (-(P + 1075)).toNat := ⟨_, rfl⟩
    obtain ⟨i', hi'⟩ : ∃ i' : Nat, i' = (i + 1074).toNat := ⟨_, rfl⟩
    obtain ⟨j', hj'⟩ : ∃ j' : Nat, j' = (j + 1074).toNat := ⟨_, rfl⟩
    obtain ⟨z, hz⟩ : ∃ z : Nat, z = 1074 := ⟨_, rfl⟩
    rw [← hi'] at hmg'
    rw [← hj'] at hng'
    have hpow : more + e1 + j' = i' + z + e2 := by omega
    -- the bracket's inequality, in whole units of the quotient
    have hlhs : mid s * mag b * 2 ^ e2 = (mid s * n * 2 ^ e2) * 2 ^ j' := by
      rw [← hng', Nat.mul_assoc, Nat.mul_assoc, Nat.mul_assoc, Nat.mul_assoc, Nat.mul_comm (2 ^ j') (2 ^ e2)]
    have hrhs : mag a * big z * 2 ^ e2 = (D * 2 ^ e1) * 2 ^ j' := by
      rw [← hmg', hD]
      unfold big
      rw [Nat.mul_assoc, Nat.mul_assoc, Nat.mul_assoc, Nat.mul_assoc, ← Nat.pow_add, ← Nat.pow_add, ← Nat.pow_add, ← Nat.pow_add]
      congr 2
      omega
    have hp2 := Nat.two_pow_pos e2
    have hpj := Nat.two_pow_pos j'
    have hcmp1 : mid s * mag b < 2 * (mag a * big z) ↔ mid s * n * 2 ^ e2 < 2 * (D * 2 ^ e1) := by
      rw [← Nat.mul_lt_mul_right hp2, hlhs, Nat.mul_assoc 2, hrhs, ← Nat.mul_assoc 2]
      exact Nat.mul_lt_mul_right hpj
    have hcmp2 : mid s * mag b = 2 * (mag a * big z) ↔ mid s * n * 2 ^ e2 = 2 * (D * 2 ^ e1) := by
      constructor
      · intro h
        have h : mid s * mag b * 2 ^ e2 = 2 * (mag a * big z) * 2 ^ e2 := by rw [h]
        rw [hlhs, Nat.mul_assoc 2, hrhs, ← Nat.mul_assoc 2] at h
        exact Nat.eq_of_mul_eq_mul_right hpj h
      · intro h
        have h : mid s * n * 2 ^ e2 * 2 ^ j' = 2 * (D * 2 ^ e1) * 2 ^ j' := by rw [h]
        rw [← hlhs, Nat.mul_assoc 2, ← hrhs, ← Nat.mul_assoc 2] at h
        exact Nat.eq_of_mul_eq_mul_right hp2 h
    rw [← hz, hcmp1, hcmp2]
    have hn1 : 0 < n := Nat.pos_of_ne_zero hn0
    clear hcmp1 hcmp2 hlhs hrhs hmg hng hmg' hng' hm hn hpow hi' hj' hz hP hmore hA hr hf hD hm0 hfa hfb ha hb hb0 ha0 hi hj hn0 hp2 hpj hst0
    by_cases hE : P + 1075 ≤ 0
    · have he10 : e1 = 0 := by omega
      have q1 : (P - P).toNat = 0 := by omega
      have q2 : (-1074 - P).toNat = e2 + 1 := by omega
      have q3 : P ≤ -1074 := by omega
      clear he1 he2 hE
      have h := hr2 s P hs q3 (Int.le_refl _)
      rw [q1, q2, Nat.pow_zero, Nat.mul_one, hAk] at h
      rw [he10, Nat.pow_zero, Nat.mul_one]
      have hmd := mid_dvd s 0
      rw [Nat.pow_zero, Nat.mul_one] at hmd
      have hT : (∃ t, mid s * 2 ^ e2 = 2 * t) ∨ mid s * 2 ^ e2 < 2 * k := by
        cases e2 with
        | zero =>
          rw [Nat.pow_zero, Nat.mul_one]
          clear hst hr2 h
          rcases hmd with h | ⟨t, h⟩
          · right; omega
          · left; exact ⟨t, by rw [h, Nat.mul_one]⟩
        | succ e => exact .inl ⟨mid s * 2 ^ e, by rw [Nat.pow_succ, ← Nat.mul_assoc, Nat.mul_comm]⟩
      have hq := quotT hn1 hk hst hT
      have e5 : mid s * n * 2 ^ e2 = mid s * 2 ^ e2 * n := Nat.mul_right_comm _ _ _
      have e6 : mid s * 2 ^ (e2 + 1) = 2 * (mid s * 2 ^ e2) := by rw [Nat.pow_succ, ← Nat.mul_assoc, Nat.mul_comm]
      rw [e5, hq.1, hq.2, h, e6]
      generalize mid s * 2 ^ e2 = T
      clear hq hT hmd h e5 e6 hr2 hst
      omega
    · have he20 : e2 = 0 := by omega
      obtain ⟨y, hy⟩ : ∃ y : Nat, y = (P - -1074).toNat := ⟨_, rfl⟩
      have hy1 : e1 = y + 1 := by omega
      have q3 : -1074 ≤ P := by omega
      clear he1 he2 hE
      have h := hr2 s (-1074) hs (Int.le_refl _) q3
      rw [← hy, show (-1074 - -1074 : Int).toNat = 0 from by decide, Nat.pow_zero, Nat.mul_one, hAk] at h
      rw [he20, Nat.pow_zero, Nat.mul_one, h]
      have e7 : 2 * ((2 * k + st) * 2 ^ y) = (2 * k + st) * 2 ^ e1 := by rw [hy1, Nat.pow_succ, ← Nat.mul_assoc (2 * k + st), Nat.mul_comm 2]
      rw [e7]
      have hu := Nat.two_pow_pos e1
      clear h e7 hr2 hy hy1
      have hmd := mid_dvd s e1
      generalize 2 ^ e1 = u at *
      rcases hmd with hmd | ⟨t, hmd⟩
      · have w1 : 2 * (9007199254740992 * u) ≤ 2 * (k * u) := Nat.mul_le_mul_left 2 (Nat.mul_le_mul_right u hbig)
        have w2 : 2 * (k * u) ≤ (2 * k + st) * u := by
          rw [← Nat.mul_assoc]
          exact Nat.mul_le_mul_right u (by omega)
        have hdm := Nat.div_mul_le_self D n
        rw [← hk] at hdm
        have w3 : mid s * n < 2 * (k * u) * n := Nat.mul_lt_mul_of_pos_right (by omega) hn1
        have w4 : 2 * (k * u) * n ≤ 2 * (D * u) := by
          rw [Nat.mul_assoc]
          exact Nat.mul_le_mul_left 2 (by rw [Nat.mul_right_comm]; exact Nat.mul_le_mul_right u hdm)
        clear hst hr1 hs hk hdm
        exact ⟨fun _ => .inl (by omega), fun _ => .inl (by omega)⟩
      · have hq := quotT (T := 2 * t) hn1 hk hst (.inl ⟨t, rfl⟩)
        have c1 : 2 * t * n * u < 2 * D * u ↔ 2 * t * u < (2 * k + st) * u := (Nat.mul_lt_mul_right hu).trans (hq.1.trans (Nat.mul_lt_mul_right hu).symm)
        have c2 : 2 * t * n * u = 2 * D * u ↔ 2 * t * u = (2 * k + st) * u := by
          constructor
          · intro h
            rw [hq.2.1 (Nat.eq_of_mul_eq_mul_right hu h)]
          · intro h
            rw [hq.2.2 (Nat.eq_of_mul_eq_mul_right hu h)]
        have e8 : 2 * t * u * n = 2 * t * n * u := Nat.mul_right_comm _ _ _
        rw [hmd, e8, ← Nat.mul_assoc 2 D, c1, c2]
end Go.Proofs.YtfalbdlfopfgcaaGreatDoor
