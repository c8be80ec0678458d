/- The real nearest to a fraction, as gridworkwide.Near finds it, plainly. No condition. -/
import Derived.Test.YtfalbdlfopfgcaaGreatDoorWa
namespace Go.Proofs.YtfalbdlfopfgcaaGreatDoor

/-- How many bits a number needs. -/
def bitsN (n : Nat) : Nat := if n = 0 then 0 else Nat.log2 n + 1
theorem bits_lt (n : Nat) : n < 2 ^ bitsN n := by
  unfold bitsN
  split
  · rename_i h; rw [h]; exact Nat.one_pos
  · exact Nat.lt_log2_self
theorem bits_le {n : Nat} (h : n ≠ 0) : 2 ^ (bitsN n - 1) ≤ n := by
  unfold bitsN
  rw [if_neg h, Nat.add_sub_cancel]
  exact Nat.log2_self_le h
theorem bits_pos {n : Nat} (h : n ≠ 0) : 1 ≤ bitsN n := by
  unfold bitsN
  rw [if_neg h]
  omega
/-- The fraction in units of 2^u. -/
def nearT (p : Nat) (u : Int) : Nat := if u < 0 then p * 2 ^ (-u).toNat else p
def nearQ (q : Nat) (u : Int) : Nat := if u < 0 then q else q * 2 ^ u.toNat
def nearU (p q : Nat) : Int := max ((bitsN p : Int) - (bitsN q : Int) - 53) (-1074)
def nearK (p q : Nat) : Int := if nearT p (nearU p q) / nearQ q (nearU p q) < 9007199254740992 then nearU p q else nearU p q + 1
def nearN (p q : Nat) : Nat := nearT p (nearK p q) / nearQ q (nearK p q) + (if nearQ q (nearK p q) < 2 * (nearT p (nearK p q) % nearQ q (nearK p q)) ∨ (2 * (nearT p (nearK p q) % nearQ q (nearK p q)) = nearQ q (nearK p q) ∧ nearT p (nearK p q) / nearQ q (nearK p q) % 2 = 1) then 1 else 0)
theorem nearQ_pos {q : Nat} (h : q ≠ 0) (u : Int) : 0 < nearQ q u := by
  unfold nearQ
  split
  · omega
  · exact Nat.mul_pos (by omega) (Nat.two_pow_pos _)
/-- One unit up halves. -/
theorem near_half {p q : Nat} (u : Int) : nearT p (u + 1) / nearQ q (u + 1) = nearT p u / nearQ q u / 2 := by
  unfold nearT nearQ
  by_cases h : u + 1 < 0
  · rw [if_pos h, if_pos h, if_pos (by omega), if_pos (by omega)]
    obtain ⟨k, hk⟩ : ∃ k : Nat, (-(u + 1)).toNat = k := ⟨_, rfl⟩
    rw [hk, show (-u).toNat = k + 1 by omega, Nat.pow_succ, Nat.div_div_eq_div_mul, ← Nat.mul_assoc, Nat.mul_div_mul_right _ _ (by decide)]
  · by_cases h2 : u < 0
    · obtain rfl : u = -1 := by omega
      rw [if_neg h, if_neg h, if_pos h2, if_pos h2, Nat.div_div_eq_div_mul]
      show p / (q * 2 ^ 0) = p * 2 ^ 1 / (q * 2)
      rw [Nat.pow_zero, Nat.mul_one, Nat.pow_one, Nat.mul_div_mul_right _ _ (by decide)]
    · rw [if_neg h, if_neg h, if_neg h2, if_neg h2, Nat.div_div_eq_div_mul, show (u + 1).toNat = u.toNat + 1 by omega, Nat.pow_succ, ← Nat.mul_assoc]
theorem near_54 {p q : Nat} (hp : p ≠ 0) (hq : q ≠ 0) : nearT p (nearU p q) / nearQ q (nearU p q) < 18014398509481984 := by
  have h1 := bits_lt p
  have h2 := bits_le hq
  have h3 := bits_pos hq
  have h4 := bits_pos hp
  have hu : (bitsN p : Int) - (bitsN q : Int) - 53 ≤ nearU p q := by unfold nearU; omega
  generalize nearU p q = u at *
  rw [Nat.div_lt_iff_lt_mul (nearQ_pos hq u)]
  unfold nearT nearQ
  by_cases h : u < 0
  · rw [if_pos h, if_pos h]
    calc p * 2 ^ (-u).toNat < 2 ^ bitsN p * 2 ^ (-u).toNat := Nat.mul_lt_mul_of_pos_right h1 (Nat.two_pow_pos _)
      _ = 2 ^ (bitsN p + (-u).toNat) := (Nat.pow_add ..).symm
      _ ≤ 2 ^ (54 + (bitsN q - 1)) := Nat.pow_le_pow_right (by decide) (by omega)
      _ = 2 ^ 54 * 2 ^ (bitsN q - 1) := Nat.pow_add ..
      _ ≤ 2 ^ 54 * q := Nat.mul_le_mul_left _ h2
      _ = 18014398509481984 * q := rfl
  · rw [if_neg h, if_neg h]
    calc p < 2 ^ bitsN p := h1
      _ ≤ 2 ^ (54 + (bitsN q - 1) + u.toNat) := Nat.pow_le_pow_right (by decide) (by omega)
      _ = 2 ^ 54 * 2 ^ (bitsN q - 1) * 2 ^ u.toNat := by rw [Nat.pow_add, Nat.pow_add]
      _ ≤ 2 ^ 54 * q * 2 ^ u.toNat := Nat.mul_le_mul_right _ (Nat.mul_le_mul_left _ h2)
      _ = 18014398509481984 * (q * 2 ^ u.toNat) := Nat.mul_assoc ..
theorem near_53 {p q : Nat} (hp : p ≠ 0) (hq : q ≠ 0) : nearT p (nearK p q) / nearQ q (nearK p q) < 9007199254740992 := by
  unfold nearK
  split
  · assumption
  · rw [near_half]
    have := near_54 hp hq
    omega
end Go.Proofs.YtfalbdlfopfgcaaGreatDoor

