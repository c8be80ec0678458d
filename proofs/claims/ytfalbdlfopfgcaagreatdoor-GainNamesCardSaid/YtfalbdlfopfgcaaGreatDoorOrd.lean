/- How two reals stand to each other: as two whole numbers, their keys (a word's lower 63 bits, with its sign). No program; condition: words of 64 bits, no NaN. -/
import Derived.Test.YtfalbdlfopfgcaaGreatDoorMod
namespace Go.Proofs.YtfalbdlfopfgcaaGreatDoor

/-- The magnitude of a rung, counted in 2^-1074. -/
def mgn (r : Nat) : Nat := if r < 4503599627370496 then r else (4503599627370496 + r % 4503599627370496) * 2 ^ (r / 4503599627370496 - 1)

theorem mgn_lt {r s : Nat} (h : r < s) : mgn r < mgn s := by
  unfold mgn
  by_cases h1 : s < 4503599627370496
  · rw [if_pos h1, if_pos (by omega)]; exact h
  · rw [if_neg h1]
    have hs : 1 ≤ s / 4503599627370496 := by omega
    have hp : ∀ k, 0 < 2 ^ k := fun k => Nat.two_pow_pos k
    by_cases h2 : r < 4503599627370496
    · rw [if_pos h2]
      have := Nat.mul_le_mul_left (4503599627370496 + s % 4503599627370496) (hp (s / 4503599627370496 - 1))
      omega
    · rw [if_neg h2]
      by_cases h3 : r / 4503599627370496 = s / 4503599627370496
      · rw [h3]
        exact Nat.mul_lt_mul_of_pos_right (by omega) (hp _)
      · have h4 : r / 4503599627370496 < s / 4503599627370496 := by omega
        have h5 : 1 ≤ r / 4503599627370496 := by omega
        generalize r / 4503599627370496 = q at *
        generalize s / 4503599627370496 = p at *
        have h6 : (4503599627370496 + r % 4503599627370496) * 2 ^ (q - 1) < 9007199254740992 * 2 ^ (q - 1) := Nat.mul_lt_mul_of_pos_right (by omega) (hp _)
        have h7 : 9007199254740992 * 2 ^ (q - 1) = 4503599627370496 * 2 ^ q := by
          have e : q = (q - 1) + 1 := by omega
          rw [e, Nat.pow_succ, Nat.add_sub_cancel]
          omega
        have h8 : 4503599627370496 * 2 ^ q ≤ 4503599627370496 * 2 ^ (p - 1) := Nat.mul_le_mul_left _ (Nat.pow_le_pow_right (by omega) (by omega))
        have h9 : 4503599627370496 * 2 ^ (p - 1) ≤ (4503599627370496 + s % 4503599627370496) * 2 ^ (p - 1) := Nat.mul_le_mul_right _ (by omega)
        omega

theorem mgn_zero : mgn 0 = 0 := rfl
theorem mgn_le {r s : Nat} (h : r ≤ s) : mgn r ≤ mgn s := by
  rcases Nat.lt_or_ge r s with h | h'
  · exact Nat.le_of_lt (mgn_lt h)
  · rw [show r = s from by omega]; exact Nat.le_refl _
theorem mgn_lt_iff {r s : Nat} : mgn r < mgn s ↔ r < s :=
  ⟨fun h => Nat.lt_of_not_le fun h' => absurd (mgn_le h') (by omega), mgn_lt⟩
theorem mgn_le_iff {r s : Nat} : mgn r ≤ mgn s ↔ r ≤ s :=
  ⟨fun h => Nat.le_of_not_lt fun h' => absurd (mgn_lt h') (by omega), mgn_le⟩

/-- A word's key. -/
def key (b : Nat) : Int := if b < 9223372036854775808 then (b : Int) else 9223372036854775808 - (b : Int)

/-- A finite word, read: a magnitude of so many 2^-1074. -/
theorem read_fin {b : Nat} (hw : IsW b) (hf : b % 9223372036854775808 < 9218868437227405312) :
    ∃ m p, Ieee.double.read b = .number (decide (9223372036854775808 ≤ b)) m p ∧ -1074 ≤ p ∧ m * 2 ^ (p + 1074).toNat = mgn (b % 9223372036854775808) := by
  have h1 : Ieee.double.signWeight = 9223372036854775808 := by decide +kernel
  have h2 : Ieee.double.binade = 4503599627370496 := by decide +kernel
  have h3 : Ieee.double.infRung = 9218868437227405312 := by decide +kernel
  have h4 : Ieee.double.leastPlace = -1074 := by decide +kernel
  unfold IsW at hw
  have hs : (b / 9223372036854775808 % 2 == 1) = decide (9223372036854775808 ≤ b) := by
    rw [Bool.eq_iff_iff]; simp; omega
  unfold Ieee.Format.read
  simp only [h1, h2, h3, h4, hs]
  split
  · rename_i h
    exact ⟨_, _, rfl, by omega, by simp [mgn, h]⟩
  · rename_i h
    refine ⟨_, _, rfl, by omega, ?_⟩
    rw [mgn, if_neg h]
    congr 2
    omega

theorem read_inf {b : Nat} (hw : IsW b) (hf : b % 9223372036854775808 = 9218868437227405312) :
    Ieee.double.read b = .infinity (decide (9223372036854775808 ≤ b)) := by
  have h1 : Ieee.double.signWeight = 9223372036854775808 := by decide +kernel
  have h2 : Ieee.double.binade = 4503599627370496 := by decide +kernel
  have h3 : Ieee.double.infRung = 9218868437227405312 := by decide +kernel
  unfold IsW at hw
  have hs : (b / 9223372036854775808 % 2 == 1) = decide (9223372036854775808 ≤ b) := by
    rw [Bool.eq_iff_iff]; simp; omega
  unfold Ieee.Format.read
  simp only [h1, h2, h3, hs]
  rw [if_neg (by omega), if_neg (by omega), if_pos hf]

theorem signed_scale (s : Bool) (m : Nat) (i j k : Nat) (h : i + j = k) : Ieee.signed s m i * (2 ^ j : Nat) = if s then -((m * 2 ^ k : Nat) : Int) else ((m * 2 ^ k : Nat) : Int) := by
  subst h
  unfold Ieee.signed
  cases s
  · simp only [Bool.false_eq_true, if_false]
    rw [Nat.shiftLeft_eq, ← Int.natCast_mul, Nat.mul_assoc, ← Nat.pow_add]
  · simp only [if_true]
    rw [Int.neg_mul, Nat.shiftLeft_eq, ← Int.natCast_mul, Nat.mul_assoc, ← Nat.pow_add]

theorem compare_scale (x y : Int) (j : Nat) : compare x y = compare (x * (2 ^ j : Nat)) (y * (2 ^ j : Nat)) := by
  have hp : (0 : Int) < ((2 ^ j : Nat) : Int) := by exact_mod_cast Nat.two_pow_pos j
  simp only [compare, compareOfLessAndEq]
  rcases Int.lt_trichotomy x y with h | h | h
  · rw [if_pos h, if_pos (Int.mul_lt_mul_of_pos_right h hp)]
  · subst h; simp
  · have h' := Int.mul_lt_mul_of_pos_right h hp
    rw [if_neg (by omega), if_neg (by omega), if_neg (by omega), if_neg (by omega)]

/-- A finite word's value, counted in 2^-1074. -/
def sv (b : Nat) : Int := if 9223372036854775808 ≤ b then -(mgn (b % 9223372036854775808) : Int) else (mgn (b % 9223372036854775808) : Int)

theorem order_fin {a b : Nat} (ha : IsW a) (hb : IsW b) (hfa : a % 9223372036854775808 < 9218868437227405312) (hfb : b % 9223372036854775808 < 9218868437227405312) :
    Ieee.double.order a b = some (compare (sv a) (sv b)) := by
  obtain ⟨m, i, hm, hi, hmg⟩ := read_fin ha hfa
  obtain ⟨n, j, hn, hj, hng⟩ := read_fin hb hfb
  unfold Ieee.Format.order
  rw [hm, hn]
  simp only [Ieee.Datum.order]
  congr 1
  rw [compare_scale _ _ ((min i j) + 1074).toNat, signed_scale _ _ _ _ (i + 1074).toNat (by omega), signed_scale _ _ _ _ (j + 1074).toNat (by omega), hmg, hng]
  simp only [sv, decide_eq_true_eq]

theorem sv_lt {a b : Nat} (ha : IsW a) (hb : IsW b) : sv a < sv b ↔ key a < key b := by
  unfold IsW at *
  unfold sv key
  by_cases h1 : a < 9223372036854775808 <;> by_cases h2 : b < 9223372036854775808
  · rw [if_neg (by omega), if_neg (by omega), if_pos h1, if_pos h2, Nat.mod_eq_of_lt h1, Nat.mod_eq_of_lt h2]
    have := @mgn_lt_iff a b
    omega
  · rw [if_neg (by omega), if_pos (by omega), if_pos h1, if_neg h2]
    omega
  · rw [if_pos (by omega), if_neg (by omega), if_neg h1, if_pos h2, Nat.mod_eq_of_lt h2]
    have e1 := @mgn_lt_iff 0 (a % 9223372036854775808)
    have e2 := @mgn_lt_iff 0 b
    rw [mgn_zero] at e1 e2
    omega
  · rw [if_pos (by omega), if_pos (by omega), if_neg h1, if_neg h2]
    have := @mgn_lt_iff (b % 9223372036854775808) (a % 9223372036854775808)
    omega

theorem compare_of_lt {x y u v : Int} (h1 : x < y ↔ u < v) (h2 : y < x ↔ v < u) : compare x y = compare u v := by
  simp only [compare, compareOfLessAndEq]
  by_cases hx : x < y
  · rw [if_pos hx, if_pos (h1.1 hx)]
  · rw [if_neg hx, if_neg (fun h => hx (h1.2 h))]
    by_cases hy : y < x
    · have := h2.1 hy
      rw [if_neg (by omega), if_neg (by omega)]
    · have : ¬ v < u := fun h => hy (h2.2 h)
      have : ¬ u < v := fun h => hx (h1.2 h)
      rw [if_pos (by omega), if_pos (by omega)]

theorem nan_iff (b : Nat) : nanB b = false ↔ b % 9223372036854775808 ≤ 9218868437227405312 := by unfold nanB; simp

theorem order_key {a b : Nat} (ha : IsW a) (hb : IsW b) (hna : nanB a = false) (hnb : nanB b = false) :
    Ieee.double.order a b = some (compare (key a) (key b)) := by
  rw [nan_iff] at hna hnb
  have ha' := ha
  have hb' := hb
  unfold IsW at ha' hb'
  by_cases hfa : a % 9223372036854775808 < 9218868437227405312
  · by_cases hfb : b % 9223372036854775808 < 9218868437227405312
    · rw [order_fin ha hb hfa hfb]
      congr 1
      exact compare_of_lt (sv_lt ha hb) (sv_lt hb ha)
    · obtain ⟨m, i, hm, hi, hmg⟩ := read_fin ha hfa
      have hn := read_inf hb (by omega)
      unfold Ieee.Format.order
      rw [hm, hn]
      simp only [Ieee.Datum.order, decide_eq_true_eq]
      congr 1
      unfold key
      simp only [compare, compareOfLessAndEq]
      repeat' split
      all_goals first | rfl | omega
  · have hn := read_inf ha (by omega)
    by_cases hfb : b % 9223372036854775808 < 9218868437227405312
    · obtain ⟨m, i, hm, hi, hmg⟩ := read_fin hb hfb
      unfold Ieee.Format.order
      rw [hm, hn]
      simp only [Ieee.Datum.order, decide_eq_true_eq]
      congr 1
      unfold key
      simp only [compare, compareOfLessAndEq]
      repeat' split
      all_goals first | rfl | omega
    · have hm := read_inf hb (by omega)
      unfold Ieee.Format.order
      rw [hm, hn]
      simp only [Ieee.Datum.order]
      congr 1
      unfold key
      by_cases h1 : a < 9223372036854775808 <;> by_cases h2 : b < 9223372036854775808 <;> simp [h1, h2, compare, compareOfLessAndEq, Nat.not_le.2, Nat.not_lt.1] <;> (repeat' split) <;> first | rfl | omega

theorem flt_key {a b : Nat} (ha : IsW a) (hb : IsW b) (hna : nanB a = false) (hnb : nanB b = false) : flt (some a) (some b) = decide (key a < key b) := by
  simp only [flt, ford, Option.bind_some, order_key ha hb hna hnb, compare, compareOfLessAndEq]
  by_cases h1 : key a < key b
  · simp [h1]
  · by_cases h2 : key a = key b
    · simp [h2]
    · simp [h1, h2]
theorem fle_key {a b : Nat} (ha : IsW a) (hb : IsW b) (hna : nanB a = false) (hnb : nanB b = false) : fle (some a) (some b) = decide (key a ≤ key b) := by
  simp only [fle, ford, Option.bind_some, order_key ha hb hna hnb, compare, compareOfLessAndEq]
  by_cases h1 : key a < key b
  · simp [h1]; omega
  · by_cases h2 : key a = key b
    · simp [h2]
    · simp [h1, h2]; omega
theorem feq_key {a b : Nat} (ha : IsW a) (hb : IsW b) (hna : nanB a = false) (hnb : nanB b = false) : feq (some a) (some b) = decide (key a = key b) := by
  simp only [feq, ford, Option.bind_some, order_key ha hb hna hnb, compare, compareOfLessAndEq]
  by_cases h1 : key a < key b
  · simp [h1]; omega
  · by_cases h2 : key a = key b
    · simp [h2]
    · simp [h1, h2]
end Go.Proofs.YtfalbdlfopfgcaaGreatDoor

