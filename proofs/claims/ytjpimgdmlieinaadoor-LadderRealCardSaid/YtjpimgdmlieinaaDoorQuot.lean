/- Quotients of finite reals: exact, then rounded once. Twice as much, half as much. No program; conditions: finite words of 64 bits. -/
import Derived.Test.YtjpimgdmlieinaaDoorFloat
namespace Go.Proofs.YtjpimgdmlieinaaDoor

theorem mgn_dvd {s t : Nat} (h : 9007199254740992 * 2 ^ t < mgn s) : ∃ k, mgn s = k * 2 ^ t := by
  unfold mgn at h ⊢
  by_cases h1 : s < 4503599627370496
  · rw [if_pos h1] at h
    have := Nat.mul_le_mul_left 9007199254740992 (Nat.two_pow_pos t)
    omega
  · rw [if_neg h1] at h ⊢
    have h2 : 9007199254740992 * 2 ^ t < 9007199254740992 * 2 ^ (s / 4503599627370496 - 1) :=
      Nat.lt_of_lt_of_le h (Nat.mul_le_mul_right _ (by omega))
    have h3 : t < s / 4503599627370496 - 1 := (Nat.pow_lt_pow_iff_right (by omega : 1 < 2)).1 (Nat.lt_of_mul_lt_mul_left h2)
    generalize s / 4503599627370496 - 1 = q at *
    refine ⟨(4503599627370496 + s % 4503599627370496) * 2 ^ (q - t), ?_⟩
    rw [Nat.mul_assoc, ← Nat.pow_add, show q - t + t = q from by omega]

/-- The quotient as it is written down: k whole units and a mark for what is left. Case of a unit not above 2^-1074. -/
theorem quot_low {g n D k st e2 : Nat} (hn : 0 < n) (hk : k = D / n) (hst : (st = 0 ∧ D % n = 0) ∨ (st = 1 ∧ D % n ≠ 0)) :
    (g * n * 2 ^ e2 ≤ D → g * 2 ^ (e2 + 1) ≤ 2 * k + st) ∧ (D ≤ g * n * 2 ^ e2 → 2 * k + st ≤ g * 2 ^ (e2 + 1)) := by
  have hdm := Nat.div_add_mod D n
  rw [← hk] at hdm
  obtain ⟨t, ht⟩ : ∃ t, t = g * 2 ^ e2 := ⟨_, rfl⟩
  have w1 : g * n * 2 ^ e2 = n * t := by rw [ht, Nat.mul_comm g n, Nat.mul_assoc]
  have w2 : g * 2 ^ (e2 + 1) = 2 * t := by rw [ht, Nat.pow_succ, ← Nat.mul_assoc, Nat.mul_comm]
  rw [w1, w2]
  have hmod := Nat.mod_lt D hn
  constructor
  · intro h
    have : t ≤ k := by
      apply Nat.le_of_not_lt
      intro hlt
      have := Nat.mul_le_mul_left n hlt
      rw [Nat.mul_succ] at this
      omega
    omega
  · intro h
    have h1 : k ≤ t := by
      apply Nat.le_of_not_lt
      intro hlt
      have := Nat.mul_le_mul_left n hlt
      rw [Nat.mul_succ] at this
      omega
    rcases hst with ⟨h2, _⟩ | ⟨h2, h3⟩
    · omega
    · have : k ≠ t := by intro e; subst e; omega
      omega
theorem quot_high {g n D k st e1 : Nat} (hn : 0 < n) (hk : k = D / n) (hst : (st = 0 ∧ D % n = 0) ∨ (st = 1 ∧ D % n ≠ 0)) (hbig : 9007199254740992 ≤ k)
    (hd : 9007199254740992 * 2 ^ e1 < g → ∃ t, g = t * 2 ^ e1) :
    (g * n ≤ D * 2 ^ e1 → 2 * g ≤ (2 * k + st) * 2 ^ e1) ∧ (D * 2 ^ e1 ≤ g * n → (2 * k + st) * 2 ^ e1 ≤ 2 * g) := by
  have hdm := Nat.div_add_mod D n
  rw [← hk] at hdm
  have hmod := Nat.mod_lt D hn
  have hp := Nat.two_pow_pos e1
  generalize 2 ^ e1 = u at *
  by_cases hg : g ≤ k * u
  · constructor
    · intro _
      calc 2 * g ≤ 2 * (k * u) := by omega
        _ = (2 * k) * u := by rw [Nat.mul_assoc]
        _ ≤ (2 * k + st) * u := Nat.mul_le_mul_right _ (by omega)
    · intro h
      have h1 : D * u ≤ (n * k) * u := by
        calc D * u ≤ g * n := h
          _ ≤ (k * u) * n := Nat.mul_le_mul_right _ hg
          _ = (n * k) * u := by rw [Nat.mul_assoc, Nat.mul_comm u n, ← Nat.mul_assoc, Nat.mul_comm k n]
      have h2 : D ≤ n * k := Nat.le_of_mul_le_mul_right h1 hp
      have h3 : st = 0 := by omega
      have h4 : D = n * k := by omega
      subst h3
      rw [h4] at h
      have h5 : k * u ≤ g := by
        have h6 : n * (k * u) ≤ n * g := by
          rw [← Nat.mul_assoc, Nat.mul_comm n g]
          exact h
        exact Nat.le_of_mul_le_mul_left h6 hn
      rw [Nat.add_zero, Nat.mul_assoc]
      omega
  · obtain ⟨t, rfl⟩ := hd (Nat.lt_of_le_of_lt (Nat.mul_le_mul_right u hbig) (by omega))
    have htk : k < t := by
      apply Nat.lt_of_not_le
      intro h
      exact hg (Nat.mul_le_mul_right u h)
    have e : t * u * n = (n * t) * u := by rw [Nat.mul_comm, ← Nat.mul_assoc]
    constructor
    · intro h
      rw [e] at h
      have h2 := Nat.le_of_mul_le_mul_right h hp
      have h3 := Nat.mul_le_mul_left n htk
      rw [Nat.mul_succ] at h3
      omega
    · intro _
      calc (2 * k + st) * u ≤ (2 * t) * u := Nat.mul_le_mul_right _ (by omega)
        _ = 2 * (t * u) := by rw [Nat.mul_assoc]

set_option maxHeartbeats 1000000 in
/-- A quotient of finite reals, the divisor not 0. -/
theorem fdiv_spec {a b : Nat} (ha : IsW a) (hb : IsW b) (hfa : IsFin a) (hfb : IsFin b) (hb0 : mag b ≠ 0) :
    ∃ r, fdiv (some a) (some b) = some (wordB (neg a ^^ neg b) r) ∧ Near (mag a * big 1074) (mag b) r := by
  obtain ⟨m, i, hm, hi, hmg⟩ := read_fin ha hfa
  obtain ⟨n, j, hn, hj, hng⟩ := read_fin hb hfb
  have hn0 : n ≠ 0 := fun h => hb0 ((mag_zero hng).1 h)
  have hmg' : m * 2 ^ (i + 1074).toNat = mag a := hmg
  have hng' : n * 2 ^ (j + 1074).toNat = mag b := hng
  obtain ⟨more, hmore⟩ : ∃ more, more = 54 + n.log2 - m.log2 := ⟨_, rfl⟩
  obtain ⟨A, hA⟩ : ∃ A, A = 2 * (m * 2 ^ more / n) + (m * 2 ^ more % n != 0).toNat := ⟨_, rfl⟩
  obtain ⟨P, hP⟩ : ∃ P : Int, P = i - j - more - 1 := ⟨_, rfl⟩
  have hf : fdiv (some a) (some b) = some (Ieee.double.nearest (neg a ^^ neg b) A P) := by
    show ((Ieee.double.read a).quotient 54 (Ieee.double.read b)).map Ieee.double.write = _
    rw [hm, hn]
    simp only [Ieee.Datum.quotient, if_neg hn0, Nat.shiftLeft_eq, ← hmore, Option.map_some]
    rw [← hA, ← hP]
    rfl
  rw [hf]
  rcases Nat.eq_zero_or_pos m with hm0 | hm0
  · have hA0 : A = 0 := by rw [hA, hm0]; simp
    have hmag : mag a = 0 := (mag_zero hmg).1 hm0
    refine ⟨0, ?_, by omega, fun s hs => ⟨fun h => ?_, fun _ => Nat.zero_le _⟩⟩
    · unfold Ieee.Format.nearest
      rw [hA0, if_pos rfl, word_eq]
    · rw [hmag, Nat.zero_mul] at h
      exact mgn_none (by omega) h
  · obtain ⟨D, hD⟩ : ∃ D, D = m * 2 ^ more := ⟨_, rfl⟩
    obtain ⟨k, hk⟩ : ∃ k, k = D / n := ⟨_, rfl⟩
    obtain ⟨st, hst0⟩ : ∃ st, st = (D % n != 0).toNat := ⟨_, rfl⟩
    have hst : (st = 0 ∧ D % n = 0) ∨ (st = 1 ∧ D % n ≠ 0) := by
      by_cases h : D % n = 0
      · left; simp [hst0, h]
      · right
        refine ⟨?_, h⟩
        rw [hst0, show (D % n != 0) = true from bne_iff_ne.2 h]
        rfl
    have hAk : A = 2 * k + st := by rw [hA, ← hD, hk, hst0]
    have hbig : 9007199254740992 ≤ k := by
      rw [hk]
      apply (Nat.le_div_iff_mul_le (by omega)).2
      have h1 : n < 2 ^ (n.log2 + 1) := Nat.lt_log2_self
      have h2 : 2 ^ m.log2 ≤ m := Nat.log2_self_le (by omega)
      calc 9007199254740992 * n ≤ 9007199254740992 * 2 ^ (n.log2 + 1) := Nat.mul_le_mul_left _ (Nat.le_of_lt h1)
        _ = 2 ^ (53 + (n.log2 + 1)) := by rw [Nat.pow_add 2 53]
        _ ≤ 2 ^ (m.log2 + more) := Nat.pow_le_pow_right (by omega) (by omega)
        _ = 2 ^ m.log2 * 2 ^ more := by rw [Nat.pow_add]
        _ ≤ D := by rw [hD]; exact Nat.mul_le_mul_right _ h2
    obtain ⟨r, hr, hr1, hr2⟩ := nearest_spec (neg a ^^ neg b) A P (by omega)
    refine ⟨r, by rw [hr, word_eq], hr1, fun s hs => ?_⟩
    obtain ⟨e1, he1⟩ : ∃ e1 : Nat, e1 = (P + 1075).toNat := ⟨_, rfl⟩
    obtain ⟨e2, he2⟩ : ∃ e2 : Nat, e2 = (-(P + 1075)).toNat := ⟨_, rfl⟩
    obtain ⟨i', hi'⟩ : ∃ i' : Nat, i' = (i + 1074).toNat := ⟨_, rfl⟩
    obtain ⟨j', hj'⟩ : ∃ j' : Nat, j' = (j + 1074).toNat := ⟨_, rfl⟩
    obtain ⟨z, hz⟩ : ∃ z : Nat, z = 1074 := ⟨_, rfl⟩
    rw [← hi'] at hmg'
    rw [← hj'] at hng'
    have hpow : more + e1 + j' = i' + z + e2 := by omega
    -- the bracket's inequality, in whole units of the quotient
    have hlhs : mgn s * mag b * 2 ^ e2 = (mgn s * n * 2 ^ e2) * 2 ^ j' := by
      rw [← hng', Nat.mul_assoc, Nat.mul_assoc, Nat.mul_assoc, Nat.mul_assoc, Nat.mul_comm (2 ^ j') (2 ^ e2)]
    have hrhs : mag a * big z * 2 ^ e2 = (D * 2 ^ e1) * 2 ^ j' := by
      rw [← hmg', hD]
      unfold big
      rw [Nat.mul_assoc, Nat.mul_assoc, Nat.mul_assoc, Nat.mul_assoc, ← Nat.pow_add, ← Nat.pow_add, ← Nat.pow_add, ← Nat.pow_add]
      congr 2
      omega
    have hp2 := Nat.two_pow_pos e2
    have hpj := Nat.two_pow_pos j'
    have hle1 : mgn s * mag b ≤ mag a * big z → mgn s * n * 2 ^ e2 ≤ D * 2 ^ e1 := by
      intro h
      have h := Nat.mul_le_mul_right (2 ^ e2) h
      rw [hlhs, hrhs] at h
      exact Nat.le_of_mul_le_mul_right h hpj
    have hle2 : mag a * big z ≤ mgn s * mag b → D * 2 ^ e1 ≤ mgn s * n * 2 ^ e2 := by
      intro h
      have h := Nat.mul_le_mul_right (2 ^ e2) h
      rw [hlhs, hrhs] at h
      exact Nat.le_of_mul_le_mul_right h hpj
    rw [← hz]
    have hn1 : 0 < n := Nat.pos_of_ne_zero hn0
    clear hlhs hrhs hmg hng hmg' hng' hm hn hpow hi' hj' hz hP hmore hA hr hf hD hm0 hfa hfb ha hb hb0 hi hj hn0 hp2 hpj hst0
    by_cases hE : P + 1075 ≤ 0
    · have he10 : e1 = 0 := by omega
      have q1 : (P - P).toNat = 0 := by omega
      have q2 : (-1074 - P).toNat = e2 + 1 := by omega
      have q3 : P ≤ -1074 := by omega
      clear he1 he2 hE
      have h := hr2 s P hs q3 (Int.le_refl _)
      rw [q1, q2, Nat.pow_zero, Nat.mul_one, hAk] at h
      rw [he10, Nat.pow_zero, Nat.mul_one] at hle1 hle2
      have hq := quot_low (g := mgn s) (e2 := e2) hn1 hk hst
      exact ⟨fun h1 => h.1 (hq.1 (hle1 h1)), fun h1 => h.2 (hq.2 (hle2 h1))⟩
    · have he20 : e2 = 0 := by omega
      obtain ⟨y, hy⟩ : ∃ y : Nat, y = (P - -1074).toNat := ⟨_, rfl⟩
      have hy1 : e1 = y + 1 := by omega
      have q3 : -1074 ≤ P := by omega
      clear he1 he2 hE
      have h := hr2 s (-1074) hs (Int.le_refl _) q3
      rw [← hy, show (-1074 - -1074 : Int).toNat = 0 from by decide, Nat.pow_zero, Nat.mul_one, hAk] at h
      rw [he20, Nat.pow_zero, Nat.mul_one] at hle1 hle2
      have hq := quot_high (g := mgn s) (e1 := e1) hn1 hk hst hbig (fun hlt => mgn_dvd hlt)
      rw [hy1, Nat.pow_succ, ← Nat.mul_assoc] at hq
      rw [hy1] at hle1 hle2
      rw [Nat.pow_succ, ← Nat.mul_assoc] at hle1 hle2
      have d1 : ∀ x z : Nat, 2 * x ≤ z * 2 → x ≤ z := fun x z h => by omega
      have d2 : ∀ x z : Nat, z * 2 ≤ 2 * x → z ≤ x := fun x z h => by omega
      exact ⟨fun h1 => h.1 (d1 _ _ (by rw [Nat.mul_assoc]; exact hq.1 (hle1 h1))), fun h1 => h.2 (d2 _ _ (by rw [Nat.mul_assoc]; exact hq.2 (hle2 h1)))⟩
end Go.Proofs.YtjpimgdmlieinaaDoor
