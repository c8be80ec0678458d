/- Sums and quotients of finite reals, told by the middles; they keep the order. No program; conditions: finite words of 64 bits. -/
import Derived.Test.YtjpimgdmlieinaaDoorMid
namespace Go.Proofs.YtjpimgdmlieinaaDoor

theorem sum_mid {s t : Bool} {m n : Nat} {i j : Int} (hi : -1074 ≤ i) (hj : -1074 ≤ j) {x y : Int} (hx : Ieee.signed s m (i + 1074).toNat = x) (hy : Ieee.signed t n (j + 1074).toNat = y) :
    ∃ d, (Ieee.Datum.number s m i).sum (.number t n j) = some d ∧
      ((x + y = 0 ∧ Ieee.double.write d = wordB (s && t) 0) ∨ (x + y ≠ 0 ∧ ∃ r, Ieee.double.write d = wordB (decide (x + y < 0)) r ∧ NearM (x + y).natAbs 1 r)) := by
  refine ⟨_, rfl, ?_⟩
  obtain ⟨base, hb⟩ : ∃ base, base = min i j := ⟨_, rfl⟩
  obtain ⟨T, hT⟩ : ∃ T, T = Ieee.signed s m (i - base).toNat + Ieee.signed t n (j - base).toNat := ⟨_, rfl⟩
  obtain ⟨k, hk⟩ : ∃ k : Nat, k = (base + 1074).toNat := ⟨_, rfl⟩
  have hp := Nat.two_pow_pos k
  have e1 : Ieee.signed s m (i - base).toNat * (2 ^ k : Nat) = x := by
    rw [signed_scale _ _ _ _ (i + 1074).toNat (by omega), ← hx, Ieee.signed, Nat.shiftLeft_eq]
  have e2 : Ieee.signed t n (j - base).toNat * (2 ^ k : Nat) = y := by
    rw [signed_scale _ _ _ _ (j + 1074).toNat (by omega), ← hy, Ieee.signed, Nat.shiftLeft_eq]
  have eT : T * (2 ^ k : Nat) = x + y := by rw [hT, Int.add_mul, e1, e2]
  have hp' : (0 : Int) < ((2 ^ k : Nat) : Int) := by exact_mod_cast hp
  rw [← hb, ← hT]
  by_cases h0 : T = 0
  · left
    refine ⟨by rw [← eT, h0]; simp, ?_⟩
    rw [if_pos h0, h0]
    show Ieee.double.nearest (s && t) 0 base = _
    unfold Ieee.Format.nearest
    rw [if_pos rfl, word_eq]
  · right
    have hne : x + y ≠ 0 := by
      rw [← eT]
      intro h
      rcases Int.mul_eq_zero.1 h with h | h <;> omega
    refine ⟨hne, ?_⟩
    rw [if_neg h0]
    have hsgn : decide (T < 0) = decide (x + y < 0) := by
      rw [decide_eq_decide, ← eT]
      constructor
      · intro h; exact Int.mul_neg_of_neg_of_pos h hp'
      · intro h
        apply Int.lt_of_not_ge
        intro h2
        have := Int.mul_nonneg h2 (Int.le_of_lt hp')
        omega
    obtain ⟨r, hr, hr1, hr2⟩ := nearest_mid (decide (T < 0)) T.natAbs base (by omega)
    refine ⟨r, ?_, hr1, fun q hq => ?_⟩
    · show Ieee.double.nearest (decide (T < 0)) T.natAbs base = _
      rw [hr, word_eq, hsgn]
    · have h := hr2 q (-1074) hq (Int.le_refl _) (by omega)
      have e : T.natAbs * 2 ^ (base - -1074).toNat = (x + y).natAbs := by
        rw [← eT, Int.natAbs_mul, Int.natAbs_natCast]
        congr 2
        omega
      rw [e] at h
      simpa using h

/-- A sum of finite reals. -/
theorem fadd_mid {a b : Nat} (ha : IsW a) (hb : IsW b) (hfa : IsFin a) (hfb : IsFin b) :
    (sv a + sv b = 0 ∧ ∃ z, fadd (some a) (some b) = some z ∧ (z = 0 ∨ z = 9223372036854775808)) ∨
    (sv a + sv b ≠ 0 ∧ ∃ r, fadd (some a) (some b) = some (wordB (decide (sv a + sv b < 0)) r) ∧ NearM (sv a + sv b).natAbs 1 r) := by
  obtain ⟨m, i, hm, hi, hmg⟩ := read_fin ha hfa
  obtain ⟨n, j, hn, hj, hng⟩ := read_fin hb hfb
  obtain ⟨d, hd, h⟩ := sum_mid hi hj (signed_sv hmg) (signed_sv hng)
  have hf : fadd (some a) (some b) = some (Ieee.double.write d) := by
    show ((Ieee.double.read a).sum (Ieee.double.read b)).map Ieee.double.write = _
    rw [hm, hn, hd]
    rfl
  rcases h with ⟨h0, h1⟩ | ⟨h0, r, h1, h2⟩
  · left
    refine ⟨h0, _, by rw [hf, h1], ?_⟩
    cases decide (9223372036854775808 ≤ a) && decide (9223372036854775808 ≤ b) <;> simp [wordB]
  · right
    exact ⟨h0, r, by rw [hf, h1], h2⟩
set_option maxHeartbeats 1000000 in
/-- A quotient of finite reals, the divisor not 0. -/
theorem fdiv_mid {a b : Nat} (ha : IsW a) (hb : IsW b) (hfa : IsFin a) (hfb : IsFin b) (hb0 : mag b ≠ 0) (ha0 : mag a ≠ 0) :
    ∃ r, fdiv (some a) (some b) = some (wordB (neg a ^^ neg b) r) ∧ NearM (mag a * big 1074) (mag b) r := by
  obtain ⟨m, i, hm, hi, hmg⟩ := read_fin ha hfa
  obtain ⟨n, j, hn, hj, hng⟩ := read_fin hb hfb
  have hn0 : n ≠ 0 := fun h => hb0 ((mag_zero hng).1 h)
  have hmg' : m * 2 ^ (i + 1074).toNat = mag a := hmg
  have hng' : n * 2 ^ (j + 1074).toNat = mag b := hng
  obtain ⟨more, hmore⟩ : ∃ more, more = 54 + n.log2 - m.log2 := ⟨_, rfl⟩
  obtain ⟨A, hA⟩ : ∃ A, A = 2 * (m * 2 ^ more / n) + (m * 2 ^ more % n != 0).toNat := ⟨_, rfl⟩
  obtain ⟨P, hP⟩ : ∃ P : Int, P = i - j - more - 1 := ⟨_, rfl⟩
  have hf : fdiv (some a) (some b) = some (Ieee.double.nearest (neg a ^^ neg b) A P) := by
    show ((Ieee.double.read a).quotient 54 (Ieee.double.read b)).map Ieee.double.write = _
    rw [hm, hn]
    simp only [Ieee.Datum.quotient, if_neg hn0, Nat.shiftLeft_eq, ← hmore, Option.map_some]
    rw [← hA, ← hP]
    rfl
  rw [hf]
  rcases Nat.eq_zero_or_pos m with hm0 | hm0
  · exact absurd ((mag_zero hmg).1 hm0) ha0
  · obtain ⟨D, hD⟩ : ∃ D, D = m * 2 ^ more := ⟨_, rfl⟩
    obtain ⟨k, hk⟩ : ∃ k, k = D / n := ⟨_, rfl⟩
    obtain ⟨st, hst0⟩ : ∃ st, st = (D % n != 0).toNat := ⟨_, rfl⟩
    have hst : (st = 0 ∧ D % n = 0) ∨ (st = 1 ∧ D % n ≠ 0) := by
      by_cases h : D % n = 0
      · left; simp [hst0, h]
      · right
        refine ⟨?_, h⟩
        rw [hst0, show (D % n != 0) = true from bne_iff_ne.2 h]
        rfl
    have hAk : A = 2 * k + st := by rw [hA, ← hD, hk, hst0]
    have hbig : 9007199254740992 ≤ k := by
      rw [hk]
      apply (Nat.le_div_iff_mul_le (by omega)).2
      have h1 : n < 2 ^ (n.log2 + 1) := Nat.lt_log2_self
      have h2 : 2 ^ m.log2 ≤ m := Nat.log2_self_le (by omega)
      calc 9007199254740992 * n ≤ 9007199254740992 * 2 ^ (n.log2 + 1) := Nat.mul_le_mul_left _ (Nat.le_of_lt h1)
        _ = 2 ^ (53 + (n.log2 + 1)) := by rw [Nat.pow_add 2 53]
        _ ≤ 2 ^ (m.log2 + more) := Nat.pow_le_pow_right (by omega) (by omega)
        _ = 2 ^ m.log2 * 2 ^ more := by rw [Nat.pow_add]
        _ ≤ D := by rw [hD]; exact Nat.mul_le_mul_right _ h2
    obtain ⟨r, hr, hr1, hr2⟩ := nearest_mid (neg a ^^ neg b) A P (by omega)
    refine ⟨r, by rw [hr, word_eq], hr1, fun s hs => ?_⟩
    obtain ⟨e1, he1⟩ : ∃ e1 : Nat, e1 = (P + 1075).toNat := ⟨_, rfl⟩
    obtain ⟨e2, he2⟩ : ∃ e2 : Nat, e2 = (-(P + 1075)).toNat := ⟨_, rfl⟩
    obtain ⟨i', hi'⟩ : ∃ i' : Nat, i' = (i + 1074).toNat := ⟨_, rfl⟩
    obtain ⟨j', hj'⟩ : ∃ j' : Nat, j' = (j + 1074).toNat := ⟨_, rfl⟩
    obtain ⟨z, hz⟩ : ∃ z : Nat, z = 1074 := ⟨_, rfl⟩
    rw [← hi'] at hmg'
    rw [← hj'] at hng'
    have hpow : more + e1 + j' = i' + z + e2 := by omega
    -- the bracket's inequality, in whole units of the quotient
    have hlhs : mid s * mag b * 2 ^ e2 = (mid s * n * 2 ^ e2) * 2 ^ j' := by
      rw [← hng', Nat.mul_assoc, Nat.mul_assoc, Nat.mul_assoc, Nat.mul_assoc, Nat.mul_comm (2 ^ j') (2 ^ e2)]
    have hrhs : mag a * big z * 2 ^ e2 = (D * 2 ^ e1) * 2 ^ j' := by
      rw [← hmg', hD]
      unfold big
      rw [Nat.mul_assoc, Nat.mul_assoc, Nat.mul_assoc, Nat.mul_assoc, ← Nat.pow_add, ← Nat.pow_add, ← Nat.pow_add, ← Nat.pow_add]
      congr 2
      omega
    have hp2 := Nat.two_pow_pos e2
    have hpj := Nat.two_pow_pos j'
    have hcmp1 : mid s * mag b < 2 * (mag a * big z) ↔ mid s * n * 2 ^ e2 < 2 * (D * 2 ^ e1) := by
      rw [← Nat.mul_lt_mul_right hp2, hlhs, Nat.mul_assoc 2, hrhs, ← Nat.mul_assoc 2]
      exact Nat.mul_lt_mul_right hpj
    have hcmp2 : mid s * mag b = 2 * (mag a * big z) ↔ mid s * n * 2 ^ e2 = 2 * (D * 2 ^ e1) := by
      constructor
      · intro h
        have h : mid s * mag b * 2 ^ e2 = 2 * (mag a * big z) * 2 ^ e2 := by rw [h]
        rw [hlhs, Nat.mul_assoc 2, hrhs, ← Nat.mul_assoc 2] at h
        exact Nat.eq_of_mul_eq_mul_right hpj h
      · intro h
        have h : mid s * n * 2 ^ e2 * 2 ^ j' = 2 * (D * 2 ^ e1) * 2 ^ j' := by rw [h]
        rw [← hlhs, Nat.mul_assoc 2, ← hrhs, ← Nat.mul_assoc 2] at h
        exact Nat.eq_of_mul_eq_mul_right hp2 h
    rw [← hz, hcmp1, hcmp2]
    have hn1 : 0 < n := Nat.pos_of_ne_zero hn0
    clear hcmp1 hcmp2 hlhs hrhs hmg hng hmg' hng' hm hn hpow hi' hj' hz hP hmore hA hr hf hD hm0 hfa hfb ha hb hb0 ha0 hi hj hn0 hp2 hpj hst0
    by_cases hE : P + 1075 ≤ 0
    · have he10 : e1 = 0 := by omega
      have q1 : (P - P).toNat = 0 := by omega
      have q2 : (-1074 - P).toNat = e2 + 1 := by omega
      have q3 : P ≤ -1074 := by omega
      clear he1 he2 hE
      have h := hr2 s P hs q3 (Int.le_refl _)
      rw [q1, q2, Nat.pow_zero, Nat.mul_one, hAk] at h
      rw [he10, Nat.pow_zero, Nat.mul_one]
      have hmd := mid_dvd s 0
      rw [Nat.pow_zero, Nat.mul_one] at hmd
      have hT : (∃ t, mid s * 2 ^ e2 = 2 * t) ∨ mid s * 2 ^ e2 < 2 * k := by
        cases e2 with
        | zero =>
          rw [Nat.pow_zero, Nat.mul_one]
          clear hst hr2 h
          rcases hmd with h | ⟨t, h⟩
          · right; omega
          · left; exact ⟨t, by rw [h, Nat.mul_one]⟩
        | succ e => exact .inl ⟨mid s * 2 ^ e, by rw [Nat.pow_succ, ← Nat.mul_assoc, Nat.mul_comm]⟩
      have hq := quotT hn1 hk hst hT
      have e5 : mid s * n * 2 ^ e2 = mid s * 2 ^ e2 * n := Nat.mul_right_comm _ _ _
      have e6 : mid s * 2 ^ (e2 + 1) = 2 * (mid s * 2 ^ e2) := by rw [Nat.pow_succ, ← Nat.mul_assoc, Nat.mul_comm]
      rw [e5, hq.1, hq.2, h, e6]
      generalize mid s * 2 ^ e2 = T
      clear hq hT hmd h e5 e6 hr2 hst
      omega
    · have he20 : e2 = 0 := by omega
      obtain ⟨y, hy⟩ : ∃ y : Nat, y = (P - -1074).toNat := ⟨_, rfl⟩
      have hy1 : e1 = y + 1 := by omega
      have q3 : -1074 ≤ P := by omega
      clear he1 he2 hE
      have h := hr2 s (-1074) hs (Int.le_refl _) q3
      rw [← hy, show (-1074 - -1074 : Int).toNat = 0 from by decide, Nat.pow_zero, Nat.mul_one, hAk] at h
      rw [he20, Nat.pow_zero, Nat.mul_one, h]
      have e7 : 2 * ((2 * k + st) * 2 ^ y) = (2 * k + st) * 2 ^ e1 := by rw [hy1, Nat.pow_succ, ← Nat.mul_assoc (2 * k + st), Nat.mul_comm 2]
      rw [e7]
      have hu := Nat.two_pow_pos e1
      clear h e7 hr2 hy hy1
      have hmd := mid_dvd s e1
      generalize 2 ^ e1 = u at *
      rcases hmd with hmd | ⟨t, hmd⟩
      · have w1 : 2 * (9007199254740992 * u) ≤ 2 * (k * u) := Nat.mul_le_mul_left 2 (Nat.mul_le_mul_right u hbig)
        have w2 : 2 * (k * u) ≤ (2 * k + st) * u := by
          rw [← Nat.mul_assoc]
          exact Nat.mul_le_mul_right u (by omega)
        have hdm := Nat.div_mul_le_self D n
        rw [← hk] at hdm
        have w3 : mid s * n < 2 * (k * u) * n := Nat.mul_lt_mul_of_pos_right (by omega) hn1
        have w4 : 2 * (k * u) * n ≤ 2 * (D * u) := by
          rw [Nat.mul_assoc]
          exact Nat.mul_le_mul_left 2 (by rw [Nat.mul_right_comm]; exact Nat.mul_le_mul_right u hdm)
        clear hst hr1 hs hk hdm
        exact ⟨fun _ => .inl (by omega), fun _ => .inl (by omega)⟩
      · have hq := quotT (T := 2 * t) hn1 hk hst (.inl ⟨t, rfl⟩)
        have c1 : 2 * t * n * u < 2 * D * u ↔ 2 * t * u < (2 * k + st) * u := (Nat.mul_lt_mul_right hu).trans (hq.1.trans (Nat.mul_lt_mul_right hu).symm)
        have c2 : 2 * t * n * u = 2 * D * u ↔ 2 * t * u = (2 * k + st) * u := by
          constructor
          · intro h
            rw [hq.2.1 (Nat.eq_of_mul_eq_mul_right hu h)]
          · intro h
            rw [hq.2.2 (Nat.eq_of_mul_eq_mul_right hu h)]
        have e8 : 2 * t * u * n = 2 * t * n * u := Nat.mul_right_comm _ _ _
        rw [hmd, e8, ← Nat.mul_assoc 2 D, c1, c2]
end Go.Proofs.YtjpimgdmlieinaaDoor
