/- Sums, differences, products and quotients of finite reals: exact, then rounded once: between which words they lie. No program; conditions: finite words of 64 bits. -/
import Derived.Test.YtfalbdlfopfgcaaGreatDoorRound
import Derived.Test.YtfalbdlfopfgcaaGreatDoorPlain
namespace Go.Proofs.YtfalbdlfopfgcaaGreatDoor

/-- A rung of infinity, the word of a sign and a rung. -/
def wordB (neg : Bool) (r : Nat) : Nat := if neg then 9223372036854775808 + r else r
theorem word_eq (neg : Bool) (r : Nat) : Ieee.double.word neg r = wordB neg r := by
  have h1 : Ieee.double.signWeight = 9223372036854775808 := by decide +kernel
  unfold Ieee.Format.word wordB
  rw [h1]
/-- The rung r lies between those that bracket V / D (units: 2^-1074). -/
def Near (V D r : Nat) : Prop := r ≤ 9218868437227405312 ∧ ∀ s, s ≤ 9218868437227405312 → (mgn s * D ≤ V → s ≤ r) ∧ (V ≤ mgn s * D → r ≤ s)
theorem Near.exact {V D r s : Nat} (h : Near V D r) (hs : s ≤ 9218868437227405312) (e : mgn s * D = V) : r = s := by
  have := h.2 s hs
  have h1 := this.1 (by omega)
  have h2 := this.2 (by omega)
  omega

theorem wordB_facts (neg : Bool) {r : Nat} (h : r ≤ 9218868437227405312) : IsW (wordB neg r) ∧ nanB (wordB neg r) = false ∧ wordB neg r % 9223372036854775808 = r ∧ decide (9223372036854775808 ≤ wordB neg r) = neg := by
  unfold wordB IsW nanB
  cases neg <;> simp <;> omega
theorem sv_word (neg : Bool) {r : Nat} (h : r ≤ 9218868437227405312) : sv (wordB neg r) = if neg then -(mgn r : Int) else (mgn r : Int) := by
  obtain ⟨_, _, h3, h4⟩ := wordB_facts neg h
  unfold sv
  rw [h3]
  cases neg
  · rw [if_neg (by simpa using h4)]; rfl
  · rw [if_pos (by simpa using h4)]; rfl
theorem fin_word (neg : Bool) {r : Nat} (h : r < 9218868437227405312) : IsFin (wordB neg r) := by
  unfold IsFin
  rw [(wordB_facts neg (Nat.le_of_lt h)).2.2.1]
  exact h

theorem signed_sv {b m : Nat} {t : Nat} (hm : m * 2 ^ t = mgn (b % 9223372036854775808)) :
    Ieee.signed (decide (9223372036854775808 ≤ b)) m t = sv b := by
  unfold Ieee.signed sv
  simp only [decide_eq_true_eq, Nat.shiftLeft_eq, hm]

/-- 2^1074, under a name. -/
def big (k : Nat) : Nat := 2 ^ k
theorem big_pos (k : Nat) : 0 < big k := Nat.two_pow_pos k

/-- The sum of two data at places not below -1074, counted in 2^-1074. -/
theorem sum_spec {s t : Bool} {m n : Nat} {i j : Int} (hi : -1074 ≤ i) (hj : -1074 ≤ j) {x y : Int} (hx : Ieee.signed s m (i + 1074).toNat = x) (hy : Ieee.signed t n (j + 1074).toNat = y) :
    ∃ d, (Ieee.Datum.number s m i).sum (.number t n j) = some d ∧
      ((x + y = 0 ∧ Ieee.double.write d = wordB (s && t) 0) ∨ (x + y ≠ 0 ∧ ∃ r, Ieee.double.write d = wordB (decide (x + y < 0)) r ∧ Near (x + y).natAbs 1 r)) := by
  refine ⟨_, rfl, ?_⟩
  obtain ⟨base, hb⟩ : ∃ base, base = min i j := ⟨_, rfl⟩
  obtain ⟨T, hT⟩ : ∃ T, T = Ieee.signed s m (i - base).toNat + Ieee.signed t n (j - base).toNat := ⟨_, rfl⟩
  obtain ⟨k, hk⟩ : ∃ k : Nat, k = (base + 1074).toNat := ⟨_, rfl⟩
  have hp := Nat.two_pow_pos k
  have e1 : Ieee.signed s m (i - base).toNat * (2 ^ k : Nat) = x := by
    rw [signed_scale _ _ _ _ (i + 1074).toNat (by omega), ← hx, Ieee.signed, Nat.shiftLeft_eq]
  have e2 : Ieee.signed t n (j - base).toNat * (2 ^ k : Nat) = y := by
    rw [signed_scale _ _ _ _ (j + 1074).toNat (by omega), ← hy, Ieee.signed, Nat.shiftLeft_eq]
  have eT : T * (2 ^ k : Nat) = x + y := by rw [hT, Int.add_mul, e1, e2]
  have hp' : (0 : Int) < ((2 ^ k : Nat) : Int) := by exact_mod_cast hp
  rw [← hb, ← hT]
  by_cases h0 : T = 0
  · left
    refine ⟨by rw [← eT, h0]; simp, ?_⟩
    rw [if_pos h0, h0]
    show Ieee.double.nearest (s && t) 0 base = _
    unfold Ieee.Format.nearest
    rw [if_pos rfl, word_eq]
  · right
    have hne : x + y ≠ 0 := by
      rw [← eT]
      intro h
      rcases Int.mul_eq_zero.1 h with h | h <;> omega
    refine ⟨hne, ?_⟩
    rw [if_neg h0]
    have hsgn : decide (T < 0) = decide (x + y < 0) := by
      rw [decide_eq_decide, ← eT]
      constructor
      · intro h; exact Int.mul_neg_of_neg_of_pos h hp'
      · intro h
        apply Int.lt_of_not_ge
        intro h2
        have := Int.mul_nonneg h2 (Int.le_of_lt hp')
        omega
    obtain ⟨r, hr, hr1, hr2⟩ := nearest_spec (decide (T < 0)) T.natAbs base (by omega)
    refine ⟨r, ?_, hr1, fun q hq => ?_⟩
    · show Ieee.double.nearest (decide (T < 0)) T.natAbs base = _
      rw [hr, word_eq, hsgn]
    · have h := hr2 q (-1074) hq (Int.le_refl _) (by omega)
      have e : T.natAbs * 2 ^ (base - -1074).toNat = (x + y).natAbs := by
        rw [← eT, Int.natAbs_mul, Int.natAbs_natCast]
        congr 2
        omega
      rw [e] at h
      simpa using h

/-- A sum of finite reals. -/
theorem fadd_spec {a b : Nat} (ha : IsW a) (hb : IsW b) (hfa : IsFin a) (hfb : IsFin b) :
    (sv a + sv b = 0 ∧ ∃ z, fadd (some a) (some b) = some z ∧ (z = 0 ∨ z = 9223372036854775808)) ∨
    (sv a + sv b ≠ 0 ∧ ∃ r, fadd (some a) (some b) = some (wordB (decide (sv a + sv b < 0)) r) ∧ Near (sv a + sv b).natAbs 1 r) := by
  obtain ⟨m, i, hm, hi, hmg⟩ := read_fin ha hfa
  obtain ⟨n, j, hn, hj, hng⟩ := read_fin hb hfb
  obtain ⟨d, hd, h⟩ := sum_spec hi hj (signed_sv hmg) (signed_sv hng)
  have hf : fadd (some a) (some b) = some (Ieee.double.write d) := by
    show ((Ieee.double.read a).sum (Ieee.double.read b)).map Ieee.double.write = _
    rw [hm, hn, hd]
    rfl
  rcases h with ⟨h0, h1⟩ | ⟨h0, r, h1, h2⟩
  · left
    refine ⟨h0, _, by rw [hf, h1], ?_⟩
    cases decide (9223372036854775808 ≤ a) && decide (9223372036854775808 ≤ b) <;> simp [wordB]
  · right
    exact ⟨h0, r, by rw [hf, h1], h2⟩
theorem fsub_spec {a b : Nat} (ha : IsW a) (hb : IsW b) (hfa : IsFin a) (hfb : IsFin b) :
    (sv a - sv b = 0 ∧ ∃ z, fsub (some a) (some b) = some z ∧ (z = 0 ∨ z = 9223372036854775808)) ∨
    (sv a - sv b ≠ 0 ∧ ∃ r, fsub (some a) (some b) = some (wordB (decide (sv a - sv b < 0)) r) ∧ Near (sv a - sv b).natAbs 1 r) := by
  obtain ⟨m, i, hm, hi, hmg⟩ := read_fin ha hfa
  obtain ⟨n, j, hn, hj, hng⟩ := read_fin hb hfb
  have hneg : Ieee.signed (!decide (9223372036854775808 ≤ b)) n (j + 1074).toNat = -sv b := by
    rw [← signed_sv hng]
    unfold Ieee.signed
    cases decide (9223372036854775808 ≤ b) <;> simp
  obtain ⟨d, hd, h⟩ := sum_spec hi hj (signed_sv hmg) hneg
  rw [← Int.sub_eq_add_neg] at h
  have hf : fsub (some a) (some b) = some (Ieee.double.write d) := by
    show ((Ieee.double.read a).sum (Ieee.double.read b).opposite).map Ieee.double.write = _
    rw [hm, hn]
    show ((Ieee.Datum.number _ m i).sum (.number _ n j)).map _ = _
    rw [hd]
    rfl
  rcases h with ⟨h0, h1⟩ | ⟨h0, r, h1, h2⟩
  · left
    refine ⟨h0, _, by rw [hf, h1], ?_⟩
    cases decide (9223372036854775808 ≤ a) && !decide (9223372036854775808 ≤ b) <;> simp [wordB]
  · right
    exact ⟨h0, r, by rw [hf, h1], h2⟩

/-- The sign of a word. -/
def neg (b : Nat) : Bool := decide (9223372036854775808 ≤ b)
/-- The magnitude of a word, counted in 2^-1074. -/
def mag (b : Nat) : Nat := mgn (b % 9223372036854775808)

theorem mag_zero {b m : Nat} {p : Int} (h : m * 2 ^ (p + 1074).toNat = mag b) : m = 0 ↔ mag b = 0 := by
  rw [← h]
  have := Nat.two_pow_pos (p + 1074).toNat
  constructor
  · intro e; rw [e]; simp
  · intro e
    rcases Nat.mul_eq_zero.1 e with h | h <;> omega

theorem mgn_none {s D : Nat} (hD : 0 < D) (h : mgn s * D ≤ 0) : s ≤ 0 := by
  have h1 : mgn s = 0 := by
    rcases Nat.mul_eq_zero.1 (Nat.le_zero.1 h) with h | h
    · exact h
    · omega
  have h2 := @mgn_lt_iff 0 s
  rw [mgn_zero] at h2
  omega

/-- A product of finite reals. -/
theorem fmul_spec {a b : Nat} (ha : IsW a) (hb : IsW b) (hfa : IsFin a) (hfb : IsFin b) :
    ∃ r, fmul (some a) (some b) = some (wordB (neg a ^^ neg b) r) ∧ Near (mag a * mag b) (big 1074) r := by
  obtain ⟨m, i, hm, hi, hmg⟩ := read_fin ha hfa
  obtain ⟨n, j, hn, hj, hng⟩ := read_fin hb hfb
  have hf : fmul (some a) (some b) = some (Ieee.double.nearest (neg a ^^ neg b) (m * n) (i + j)) := by
    show ((Ieee.double.read a).product (Ieee.double.read b)).map Ieee.double.write = _
    rw [hm, hn]
    rfl
  rw [hf]
  have hV : m * n * 2 ^ (i + j - -2148).toNat = mag a * mag b := by
    unfold mag
    rw [← hmg, ← hng, show (i + j - -2148).toNat = (i + 1074).toNat + (j + 1074).toNat from by omega, Nat.pow_add]
    generalize 2 ^ (i + 1074).toNat = u
    generalize 2 ^ (j + 1074).toNat = v
    rw [Nat.mul_assoc, Nat.mul_assoc, Nat.mul_left_comm n u v]
  rcases Nat.eq_zero_or_pos (m * n) with h0 | h0
  · refine ⟨0, ?_, by omega, fun s hs => ⟨fun h => ?_, fun _ => Nat.zero_le _⟩⟩
    · unfold Ieee.Format.nearest
      rw [h0, if_pos rfl, word_eq]
    · rw [← hV, h0, Nat.zero_mul] at h
      exact mgn_none (big_pos 1074) h
  · obtain ⟨r, hr, hr1, hr2⟩ := nearest_spec (neg a ^^ neg b) (m * n) (i + j) h0
    refine ⟨r, by rw [hr, word_eq], hr1, fun s hs => ?_⟩
    have h := hr2 s (-2148) hs (by omega) (by omega)
    rw [hV] at h
    obtain ⟨k, hk⟩ : ∃ k : Nat, k = (-1074 - -2148 : Int).toNat := ⟨_, rfl⟩
    rw [← hk] at h
    have hk2 : k = 1074 := by omega
    rw [← hk2]
    exact h
end Go.Proofs.YtfalbdlfopfgcaaGreatDoor

