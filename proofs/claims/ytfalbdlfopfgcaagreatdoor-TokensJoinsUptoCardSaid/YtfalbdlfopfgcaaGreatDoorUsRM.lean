/- gridworkwide.Near, plainly: the word is the nearest to p / q, an even one in the middle; and so the two ways of reading a number come to one word. No program; no condition but that p and q are not nought. The exact way of internal/strconv (one product or quotient of exact reals), plainly: the nearest word. No program; the conditions are the program's own. internal/strconv.atof64 on texts of at most 19 digits, plainly: the word that gridworkwide.Near finds for the same number. No condition. More than 19 digits: where d and d + 1 come to one word, the digits left out do not matter. No program; no condition but the program's own bounds. -/
import Derived.Test.YtfalbdlfopfgcaaGreatDoorUsLM
import Derived.Test.YtfalbdlfopfgcaaGreatDoorWo
import Derived.Test.YtfalbdlfopfgcaaGreatDoorOrdM
import Derived.Test.YtfalbdlfopfgcaaGreatDoorPeM
namespace Go.Proofs.YtfalbdlfopfgcaaGreatDoor

theorem frac_law {F R B k st n : Nat} (hR : R < B) (hk : k = 2 * F + 2 * R / B) (hst : (st = 0 ∧ 2 * (2 * R % B) = 0) ∨ (st = 1 ∧ 2 * (2 * R % B) ≠ 0)) (hn : n = F + (if B < 2 * R ∨ (2 * R = B ∧ F % 2 = 1) then 1 else 0)) :
    n = (2 * k + st + 1 + (2 * k + st) / 4 % 2) / 4 ∧ 4 * F ≤ 2 * k + st ∧ 2 * k + st ≤ 4 * F + 3 := by
  rcases Nat.lt_or_ge (2 * R) B with h | h
  · rw [Nat.div_eq_of_lt h] at hk
    rw [if_neg (by omega)] at hn
    omega
  · have e1 : 2 * R / B = 1 := by
      rw [Nat.div_eq_iff (by omega)]
      omega
    have e2 : 2 * R % B = 2 * R - B := by
      rw [Nat.mod_eq_sub_mod h, Nat.mod_eq_of_lt (by omega)]
    rw [e1] at hk
    rw [e2] at hst
    split at hn <;> omega
/-- A fraction rounded to even at the unit 2^q gives the nearest rung. -/
theorem near_frac {A Q q n : Nat} (hQ : 0 < Q) (hn : n = A / (Q * 2 ^ q) + (if Q * 2 ^ q < 2 * (A % (Q * 2 ^ q)) ∨ (2 * (A % (Q * 2 ^ q)) = Q * 2 ^ q ∧ A / (Q * 2 ^ q) % 2 = 1) then 1 else 0))
    (hlt : A / (Q * 2 ^ q) < 9007199254740992) (hge : q = 0 ∨ 4503599627370496 ≤ A / (Q * 2 ^ q)) (s : Nat) :
    s + 1 ≤ q * 4503599627370496 + n ↔ (mid s * Q < 2 * A ∨ (mid s * Q = 2 * A ∧ s % 2 = 1)) := by
  have hB : 0 < Q * 2 ^ q := Nat.mul_pos hQ (Nat.two_pow_pos q)
  have hB2 : Q * 2 ^ (q + 1) = Q * 2 ^ q * 2 := by rw [Nat.pow_succ, Nat.mul_assoc]
  have hR := Nat.mod_lt A hB
  have hdm := Nat.div_add_mod A (Q * 2 ^ q)
  have hk : 4 * A / (Q * 2 ^ (q + 1)) = 2 * (A / (Q * 2 ^ q)) + 2 * (A % (Q * 2 ^ q)) / (Q * 2 ^ q) := by
    rw [hB2]
    generalize Q * 2 ^ q = B at *
    generalize hF : A / B = F at *
    generalize hRR : A % B = R at *
    have e : 4 * A = (2 * R + B * (2 * F)) * 2 := by rw [← hdm]; grind
    rw [e, Nat.mul_div_mul_right _ _ (by omega), Nat.add_mul_div_left _ _ hB, Nat.add_comm]
  have hm : 4 * A % (Q * 2 ^ (q + 1)) = 2 * (2 * (A % (Q * 2 ^ q)) % (Q * 2 ^ q)) := by
    rw [hB2]
    generalize Q * 2 ^ q = B at *
    generalize hF : A / B = F at *
    generalize hRR : A % B = R at *
    have e : 4 * A = (2 * R + B * (2 * F)) * 2 := by rw [← hdm]; grind
    rw [e, Nat.mul_mod_mul_right, Nat.add_mul_mod_self_left, Nat.mul_comm]
  obtain ⟨st, hst⟩ : ∃ st, (st = 0 ∧ 4 * A % (Q * 2 ^ (q + 1)) = 0) ∨ (st = 1 ∧ 4 * A % (Q * 2 ^ (q + 1)) ≠ 0) := by
    by_cases h : 4 * A % (Q * 2 ^ (q + 1)) = 0
    · exact ⟨0, .inl ⟨rfl, h⟩⟩
    · exact ⟨1, .inr ⟨rfl, h⟩⟩
  have hst' := hst
  rw [hm] at hst'
  obtain ⟨l1, l2, l3⟩ := frac_law hR hk hst' hn
  have hN := near_unr hQ rfl hst rfl (by omega) (hge.imp id fun h => by omega) s
  rw [← l1] at hN
  rw [hN, Nat.mul_assoc]
  have e1 := dbl_le (mid s * Q) A
  have e2 := dbl_eq (mid s * Q) A
  rw [e1, e2]
/-- What lies in units of 2^u, told in units of 2^-1074. -/
theorem near_units (p q : Nat) (u : Int) (hu : -1074 ≤ u) : ∃ g, 0 < g ∧ p * 2 ^ 1074 = nearT p u * g ∧ q * 2 ^ (u + 1074).toNat = nearQ q u * g := by
  unfold nearT nearQ
  by_cases h : u < 0
  · rw [if_pos h, if_pos h]
    refine ⟨2 ^ (u + 1074).toNat, Nat.two_pow_pos _, ?_, rfl⟩
    rw [Nat.mul_assoc, ← Nat.pow_add, show (-u).toNat + (u + 1074).toNat = 1074 by omega]
  · rw [if_neg h, if_neg h]
    refine ⟨2 ^ 1074, Nat.two_pow_pos _, rfl, ?_⟩
    rw [Nat.mul_assoc, ← Nat.pow_add 2 u.toNat 1074, show u.toNat + 1074 = (u + 1074).toNat by omega]
theorem nearM_zero (x : Nat) {D : Nat} (hD : 0 < D) : NearM (0 * x) D 0 := by
  rw [Nat.zero_mul]
  refine ⟨Nat.zero_le _, fun s hs => ⟨fun h => absurd h (by omega), fun h => ?_⟩⟩
  have hm : 0 < mid s := by
    have := @mgn_lt s (s + 1) (by omega)
    unfold mid
    omega
  have := Nat.mul_pos hm hD
  omega
theorem nearW_zero {p q : Nat} (x : Nat) (hp : p = 0) (hq : q ≠ 0) : NearM (p * x) q (nearW p q) := by
  have e : nearW p q = 0 := by unfold nearW; rw [if_pos hp]
  rw [e, hp]
  exact nearM_zero _ (Nat.pos_of_ne_zero hq)
/-- The reference's reading: the nearest word. -/
theorem nearW_near (p : Nat) {q : Nat} (hq : q ≠ 0) : NearM (p * 2 ^ 1074) q (nearW p q) := by
  by_cases hp : p = 0
  · exact nearW_zero _ hp hq
  have hU := (nearU_b p q).1
  have hK := (nearK_b p q).1
  have h53 := near_53 hp hq
  have h52 := fun h => near_52 hp hq h
  have hQ0 := nearQ_pos hq (nearK p q)
  obtain ⟨g, hg, hA, hB⟩ := near_units p q (nearK p q) (by omega)
  obtain ⟨n, hn⟩ : ∃ n, n = nearN p q := ⟨_, rfl⟩
  have hn2 := hn
  unfold nearN at hn2
  unfold nearW ldW
  rw [if_neg hp, ← hn]
  obtain ⟨e, he⟩ : ∃ e, e = (nearK p q + 1074).toNat := ⟨_, rfl⟩
  rw [← he] at hB ⊢
  have h52' : e = 0 ∨ 4503599627370496 ≤ nearT p (nearK p q) / nearQ q (nearK p q) := by
    by_cases h : nearK p q = -1074
    · exact .inl (by omega)
    · exact .inr (h52 h)
  clear hn h52 hU hK he
  generalize nearT p (nearK p q) = T at *
  generalize nearQ q (nearK p q) = B at *
  have e1 : p * 2 ^ 1074 / (q * 2 ^ e) = T / B := by rw [hA, hB, Nat.mul_div_mul_right _ _ hg]
  have e2 : p * 2 ^ 1074 % (q * 2 ^ e) = T % B * g := by rw [hA, hB, Nat.mul_mod_mul_right]
  have c1 : B * g < 2 * (T % B * g) ↔ B < 2 * (T % B) := by
    rw [← Nat.mul_assoc]
    exact Nat.mul_lt_mul_right hg
  have c2 : 2 * (T % B * g) = B * g ↔ 2 * (T % B) = B := by
    rw [← Nat.mul_assoc]
    exact ⟨fun h => Nat.eq_of_mul_eq_mul_right hg h, fun h => by rw [h]⟩
  generalize p * 2 ^ 1074 = A at *
  have hF := near_frac (A := A) (Q := q) (q := e) (n := n) (Nat.pos_of_ne_zero hq) (by rw [e1, e2, hB]; simp only [c1, c2]; exact hn2) (by rw [e1]; exact h53) (by rw [e1]; exact h52')
  refine ⟨Nat.min_le_right _ _, fun s hs => ?_⟩
  rw [← hF s, Nat.add_comm n]
  exact ⟨fun h => Nat.le_trans h (Nat.min_le_left _ _), fun h => Nat.le_min.2 ⟨h, Nat.le_of_lt_succ (by omega)⟩⟩
/-- One number, one nearest rung. -/
theorem NearM.uniq {V D V' D' r r' : Nat} (h : NearM V D r) (h' : NearM V' D' r') (hD : 0 < D) (hD' : 0 < D') (e : V * D' = V' * D) : r = r' :=
  Nat.le_antisymm (h.mono h' hD hD' (Nat.le_of_eq e)) (h'.mono h hD' hD (Nat.le_of_eq e.symm))
/-- The program's reading of d * 10^p, and the reference's of the same number p / q: one word. -/
theorem pf_nearW {d : Nat} {p : Int} (hd0 : 0 < d) (hd : d < 18446744073709551616) (h1 : -345 ≤ p) (h2 : p ≤ 310) (a b : Nat) (hb : b ≠ 0) (he : d * 10 ^ p.toNat * b = a * 10 ^ (-p).toNat) (sg : Nat) (hsg : sg = 0 ∨ sg = 9223372036854775808) :
    pfN d p sg = sg + nearW a b ∧ pfG d p sg = if 9218868437227405312 ≤ nearW a b then .iface 155 (.int .i64 1) else .nilIface := by
  obtain ⟨r, hr, h⟩ := pf_near hd0 hd h1 h2
  have e : r = nearW a b := by
    refine hr.uniq (nearW_near a hb) (Nat.pow_pos (by decide)) (Nat.pos_of_ne_zero hb) ?_
    unfold tenV tenD
    rw [Nat.mul_right_comm, he, Nat.mul_right_comm]
  rw [← e]
  exact h sg hsg
end Go.Proofs.YtfalbdlfopfgcaaGreatDoor

namespace Go.Proofs.YtfalbdlfopfgcaaGreatDoor

theorem fmul_mid {a b : Nat} (ha : IsW a) (hb : IsW b) (hfa : IsFin a) (hfb : IsFin b) (ha0 : mag a ≠ 0) (hb0 : mag b ≠ 0) :
    ∃ r, fmul (some a) (some b) = some (wordB (neg a ^^ neg b) r) ∧ NearM (mag a * mag b) (big 1074) r := by
  obtain ⟨m, i, hm, hi, hmg⟩ := read_fin ha hfa
  obtain ⟨n, j, hn, hj, hng⟩ := read_fin hb hfb
  have hf : fmul (some a) (some b) = some (Ieee.double.nearest (neg a ^^ neg b) (m * n) (i + j)) := by
    show ((Ieee.double.read a).product (Ieee.double.read b)).map Ieee.double.write = _
    rw [hm, hn]
    rfl
  rw [hf]
  have hm0 : m ≠ 0 := fun h => ha0 ((mag_zero hmg).1 h)
  have hn0 : n ≠ 0 := fun h => hb0 ((mag_zero hng).1 h)
  have hV : m * n * 2 ^ (i + j - -2148).toNat = mag a * mag b := by
    unfold mag
    rw [← hmg, ← hng, show (i + j - -2148).toNat = (i + 1074).toNat + (j + 1074).toNat from by omega, Nat.pow_add]
    generalize 2 ^ (i + 1074).toNat = u
    generalize 2 ^ (j + 1074).toNat = v
    rw [Nat.mul_assoc, Nat.mul_assoc, Nat.mul_left_comm n u v]
  obtain ⟨r, hr, hr1, hr2⟩ := nearest_mid (neg a ^^ neg b) (m * n) (i + j) (Nat.mul_pos (Nat.pos_of_ne_zero hm0) (Nat.pos_of_ne_zero hn0))
  refine ⟨r, by rw [hr, word_eq], hr1, fun s hs => ?_⟩
  have h := hr2 s (-2148) hs (by omega) (by omega)
  rw [hV] at h
  obtain ⟨k, hk⟩ : ∃ k : Nat, k = (-1074 - -2148 : Int).toNat := ⟨_, rfl⟩
  rw [← hk] at h
  have hk2 : k = 1074 := by omega
  rw [← hk2]
  exact h
/-- What is a word's own magnitude is nearest to that word. -/
theorem nearM_self {V D r : Nat} (hD : 0 < D) (hr : r ≤ 9218868437227405312) (h : mgn r * D = V) : NearM V D r := by
  refine ⟨hr, fun s hs => ?_⟩
  subst h
  have hms : mgn s < mgn (s + 1) := mgn_lt (by omega)
  have e : 2 * (mgn r * D) = 2 * mgn r * D := by rw [Nat.mul_assoc]
  rw [e]
  by_cases hsr : s + 1 ≤ r
  · have h1 : mgn (s + 1) ≤ mgn r := mgn_le hsr
    have h2 : mid s < 2 * mgn r := by unfold mid; omega
    exact ⟨fun _ => .inl (Nat.mul_lt_mul_of_pos_right h2 hD), fun _ => hsr⟩
  · have h1 : mgn r ≤ mgn s := mgn_le (by omega)
    have h2 : 2 * mgn r < mid s := by unfold mid; omega
    have h3 := Nat.mul_lt_mul_of_pos_right h2 hD
    exact ⟨fun h => absurd h hsr, fun h => by omega⟩
theorem ten_word (k : Nat) (hk : k < 23) : mag (tenB k) = 10 ^ k * big 1074 ∧ tenB k < 9218868437227405312 := by
  have h : ∀ k : Fin 23, mag (tenB k.val) = 10 ^ k.val * big 1074 ∧ tenB k.val < 9218868437227405312 := by decide +kernel
  exact h ⟨k, hk⟩
theorem int_word {d : Nat} (h1 : 1 ≤ d) (h2 : d < 9007199254740992) : mag (ofInt (d : Int)) = d * big 1074 ∧ ofInt (d : Int) < 9218868437227405312 := by
  have l1 : 2 ^ d.log2 ≤ d := Nat.log2_self_le (by omega)
  have l2 : d < 2 ^ (d.log2 + 1) := Nat.lt_log2_self
  have l3 : d.log2 < 53 := (Nat.log2_lt (by omega)).2 h2
  obtain ⟨t, ht⟩ : ∃ t, t = 52 - d.log2 := ⟨_, rfl⟩
  have b1 : 4503599627370496 ≤ d * 2 ^ t := by
    have := Nat.mul_le_mul_right (2 ^ t) l1
    rw [← Nat.pow_add, show d.log2 + t = 52 by omega] at this
    exact this
  have b2 : d * 2 ^ t < 9007199254740992 := by
    have := Nat.mul_lt_mul_of_pos_right l2 (Nat.two_pow_pos t)
    rw [← Nat.pow_add, show d.log2 + 1 + t = 53 by omega] at this
    exact this
  have e := ofInt_pos h1 (by omega) b1 (Nat.le_of_lt b2)
  have hlt : ofInt (d : Int) < 9218868437227405312 := by
    rw [e]
    omega
  refine ⟨?_, hlt⟩
  unfold mag
  rw [Nat.mod_eq_of_lt (by omega), e, mgn_form _ _ (.inr b1) (Nat.le_of_lt b2), show d * 2 ^ t * 2 ^ (1074 - t) = d * big (t + (1074 - t)) by rw [Nat.mul_assoc, ← Nat.pow_add]; rfl, show t + (1074 - t) = 1074 by omega]

theorem word_facts {b : Nat} (h : b < 9218868437227405312) : IsW b ∧ IsFin b ∧ neg b = false ∧ val b = some b ∧ mag b = mgn b ∧ nanB b = false := by
  have hf : IsFin b := by unfold IsFin; omega
  exact ⟨by unfold IsW; omega, hf, by unfold neg; exact decide_eq_false (by omega), val_some hf.nan, by unfold mag; rw [Nat.mod_eq_of_lt (by omega)], hf.nan⟩
theorem xor_split (i a y b z : Nat) (hy : y < 2 ^ i) (hz : z < 2 ^ i) : (2 ^ i * a + y) ^^^ (2 ^ i * b + z) = 2 ^ i * (a ^^^ b) + (y ^^^ z) := by
  apply Nat.eq_of_testBit_eq
  intro j
  have hyz : y ^^^ z < 2 ^ i := Nat.xor_lt_two_pow hy hz
  rw [Nat.testBit_xor, Nat.testBit_two_pow_mul_add _ hy, Nat.testBit_two_pow_mul_add _ hz, Nat.testBit_two_pow_mul_add _ hyz]
  split <;> simp [Nat.testBit_xor]
theorem neg_word {b : Nat} (h : b < 9223372036854775808) : negB b = 9223372036854775808 + b := by
  have := xor_split 63 0 b 1 0 h (by decide)
  rw [Nat.mul_zero, Nat.zero_add, Nat.xor_zero, show 2 ^ 63 * 1 + 0 = 9223372036854775808 by decide, show 2 ^ 63 * (0 ^^^ 1) = 9223372036854775808 by decide] at this
  unfold negB
  exact this
theorem neg_facts {b : Nat} (h : b < 9218868437227405312) : IsW (9223372036854775808 + b) ∧ IsFin (9223372036854775808 + b) ∧ neg (9223372036854775808 + b) = true ∧ mag (9223372036854775808 + b) = mag b :=
  ⟨by unfold IsW; omega, by unfold IsFin; omega, by unfold neg; exact decide_eq_true (by omega), by unfold mag; rw [Nat.add_mod_left]⟩
theorem exA_no (d : Nat) : exA d false = val (ofInt (d : Int)) := by
  unfold exA
  rw [if_neg Bool.false_ne_true]
theorem exA_yes (d : Nat) : exA d true = fneg (val (ofInt (d : Int))) := by
  unfold exA
  rw [if_pos rfl]
theorem fneg_some (b : Nat) : fneg (some b) = some (negB b) := by unfold fneg; rw [Option.map_some]
theorem wordB_no (r : Nat) : wordB false r = r := by unfold wordB; rw [if_neg Bool.false_ne_true]
theorem wordB_yes (r : Nat) : wordB true r = 9223372036854775808 + r := by unfold wordB; rw [if_pos rfl]
/-- The integer, its sign before it. -/
theorem exA_word {d : Nat} (n : Bool) (h1 : 1 ≤ d) (h2 : d < 9007199254740992) : ∃ a, exA d n = some a ∧ IsW a ∧ IsFin a ∧ neg a = n ∧ mag a = d * big 1074 ∧ a = wordB n (ofInt (d : Int)) := by
  obtain ⟨m1, m2⟩ := int_word h1 h2
  generalize hx : ofInt (d : Int) = x at m1 m2 ⊢
  obtain ⟨w1, w2, w3, w4, w5, w6⟩ := word_facts m2
  obtain ⟨n1, n2, n3, n4⟩ := neg_facts m2
  have n5 := neg_word (show x < 9223372036854775808 from Nat.lt_trans m2 (by decide))
  cases n
  · exact ⟨x, by rw [exA_no, hx, w4], w1, w2, w3, m1, (wordB_no x).symm⟩
  · exact ⟨9223372036854775808 + x, by rw [exA_yes, hx, w4, fneg_some, n5], n1, n2, n3, n4.trans m1, (wordB_yes x).symm⟩
theorem nearM_scale {V D c r : Nat} (hc : 0 < c) (h : NearM (V * c) (D * c) r) : NearM V D r := by
  refine ⟨h.1, fun s hs => ?_⟩
  have h2 := h.2 s hs
  have e1 : mid s * (D * c) = mid s * D * c := (Nat.mul_assoc _ _ _).symm
  have e2 : 2 * (V * c) = 2 * V * c := (Nat.mul_assoc _ _ _).symm
  rw [e1, e2, Nat.mul_lt_mul_right hc] at h2
  have e3 : mid s * D * c = 2 * V * c ↔ mid s * D = 2 * V := ⟨fun h => Nat.eq_of_mul_eq_mul_right hc h, fun h => by rw [h]⟩
  rw [e3] at h2
  exact h2
theorem big_eq (k : Nat) : big k = 2 ^ k := rfl
theorem tenV_big (d : Nat) (p : Int) (z : Nat) (hz : z = 1074) : tenV d p = d * 10 ^ p.toNat * big z := by
  unfold tenV
  rw [← hz, big_eq]
theorem ten_up (d k : Nat) : tenV d (k : Int) = d * 10 ^ k * big 1074 ∧ tenD (k : Int) = 1 := by
  rw [tenV_big d k 1074 rfl]
  unfold tenD
  rw [Int.toNat_natCast, show (-(k : Int)).toNat = 0 by omega, Nat.pow_zero]
  exact ⟨rfl, rfl⟩
theorem ten_dn (d k : Nat) : tenV d (-(k : Int)) = d * big 1074 ∧ tenD (-(k : Int)) = 10 ^ k := by
  rw [tenV_big d (-(k : Int)) 1074 rfl]
  unfold tenD
  rw [show (-(k : Int)).toNat = 0 by omega, show (- -(k : Int)).toNat = k by omega, Nat.pow_zero, Nat.mul_one]
  exact ⟨rfl, rfl⟩
/-- A product by a small power of ten. -/
theorem mul_ten {a x k : Nat} (ha : IsW a) (hf : IsFin a) (hx : mag a = x * big 1074) (hx0 : 0 < x) (hk : k < 23) : ∃ r, fmul (some a) (val (tenB k)) = some (wordB (neg a) r) ∧ NearM (x * 10 ^ k * big 1074) 1 r := by
  obtain ⟨t1, t2⟩ := ten_word k hk
  obtain ⟨w1, w2, w3, w4, w5, w6⟩ := word_facts t2
  have hB := big_pos 1074
  have h10 : 0 < 10 ^ k := Nat.pow_pos (by decide)
  obtain ⟨r, h1, h2⟩ := fmul_mid ha w1 hf w2 (by rw [hx]; exact Nat.ne_of_gt (Nat.mul_pos hx0 hB)) (by rw [t1]; exact Nat.ne_of_gt (Nat.mul_pos h10 hB))
  refine ⟨r, by rw [w4, h1, w3, Bool.xor_false], ?_⟩
  rw [hx, t1] at h2
  generalize big 1074 = B at *
  apply nearM_scale hB
  rw [Nat.one_mul, show x * 10 ^ k * B * B = x * B * (10 ^ k * B) by grind]
  exact h2
/-- A quotient by a small power of ten. -/
theorem div_ten {a x k : Nat} (ha : IsW a) (hf : IsFin a) (hx : mag a = x * big 1074) (hx0 : 0 < x) (hk : k < 23) : ∃ r, fdiv (some a) (val (tenB k)) = some (wordB (neg a) r) ∧ NearM (x * big 1074) (10 ^ k) r := by
  obtain ⟨t1, t2⟩ := ten_word k hk
  obtain ⟨w1, w2, w3, w4, w5, w6⟩ := word_facts t2
  have hB := big_pos 1074
  have h10 : 0 < 10 ^ k := Nat.pow_pos (by decide)
  obtain ⟨r, h1, h2⟩ := fdiv_mid ha w1 hf w2 (by rw [t1]; exact Nat.ne_of_gt (Nat.mul_pos h10 hB)) (by rw [hx]; exact Nat.ne_of_gt (Nat.mul_pos hx0 hB))
  refine ⟨r, by rw [w4, h1, w3, Bool.xor_false], ?_⟩
  rw [hx, t1] at h2
  generalize big 1074 = B at *
  exact nearM_scale hB h2
/-- What the guard of 10^15 says. -/
theorem exBig_le {n : Bool} {r : Nat} (hr : r ≤ 9218868437227405312) (h : exBig (some (wordB n r)) = false) : r ≤ 4831355200913801216 := by
  obtain ⟨w1, w2, w3, w4⟩ := wordB_facts n hr
  have v1 : val 4831355200913801216 = some 4831355200913801216 := by decide +kernel
  have v2 : val 14054727237768577024 = some 14054727237768577024 := by decide +kernel
  unfold exBig at h
  rw [v1, v2, flt_key (by unfold IsW; omega) w1 (by decide +kernel) w2, flt_key w1 (by unfold IsW; omega) w2 (by decide +kernel), Bool.or_eq_false_iff, decide_eq_false_iff_not, decide_eq_false_iff_not] at h
  obtain ⟨h1, h2⟩ := h
  cases n
  · rw [wordB_no] at h1
    unfold key at h1
    rw [if_pos (by omega), if_pos (by omega)] at h1
    omega
  · rw [wordB_yes] at h2
    unfold key at h2
    rw [if_neg (by omega), if_neg (by omega)] at h2
    omega
/-- A product that the guard lets through is exact. -/
theorem small_exact {x r : Nat} (hx : 0 < x) (hN : NearM (x * big 1074) 1 r) (hr : r ≤ 4831355200913801216) : mgn r = x * big 1074 ∧ r < 9218868437227405312 := by
  have hle : x < 9007199254740992 := by
    apply Nat.lt_of_not_le
    intro h
    obtain ⟨m1, m2⟩ := int_word (d := 9007199254740991) (by omega) (by omega)
    have m3 := (word_facts m2).2.2.2.2.1
    rw [m1] at m3
    have hs : NearM (9007199254740991 * big 1074) 1 (ofInt ((9007199254740991 : Nat) : Int)) := nearM_self (by omega) (Nat.le_of_lt m2) (by rw [Nat.mul_one]; exact m3.symm)
    have h1 := hs.mono hN (by omega) (by omega) (by rw [Nat.mul_one, Nat.mul_one]; exact Nat.mul_le_mul_right _ (by omega))
    have h2 : ofInt ((9007199254740991 : Nat) : Int) = 4845873199050653695 := by decide +kernel
    rw [h2] at h1
    omega
  obtain ⟨m1, m2⟩ := int_word hx hle
  have m3 := (word_facts m2).2.2.2.2.1
  rw [m1] at m3
  have hs : NearM (x * big 1074) 1 (ofInt (x : Int)) := nearM_self (by omega) (Nat.le_of_lt m2) (by rw [Nat.mul_one]; exact m3.symm)
  have e := hN.uniq hs (by omega) (by omega) rfl
  rw [e]
  exact ⟨m3.symm, m2⟩
/-- The exact way, where the program takes it: the nearest word. -/
theorem ex_near {d : Nat} {p : Int} (n : Bool) (h1 : 1 ≤ d) (h : exOk d p n = true) : ∃ r, exF d p n = some (wordB n r) ∧ NearM (tenV d p) (tenD p) r := by
  have h52 : ¬ 4503599627370496 ≤ d := by
    intro h5
    unfold exOk at h
    rw [if_pos h5] at h
    exact Bool.false_ne_true h
  unfold exOk at h
  rw [if_neg h52] at h
  obtain ⟨a, e, wa, fa, na, ma, ea⟩ := exA_word n h1 (show d < 9007199254740992 by omega)
  obtain ⟨i1, i2⟩ := int_word h1 (show d < 9007199254740992 by omega)
  have i3 := (word_facts i2).2.2.2.2.1
  rw [i1] at i3
  unfold exF
  by_cases c0 : p = 0
  · rw [if_pos c0, e, ea]
    refine ⟨_, rfl, ?_⟩
    obtain ⟨u1, u2⟩ := ten_up d 0
    rw [c0, show (0 : Int) = ((0 : Nat) : Int) from rfl, u1, u2, Nat.pow_zero, Nat.mul_one]
    exact nearM_self (Nat.zero_lt_one) (Nat.le_of_lt i2) (by rw [Nat.mul_one]; exact i3.symm)
  rw [if_neg c0] at h ⊢
  by_cases c1 : 0 < p ∧ p ≤ 22
  · rw [if_pos c1]
    obtain ⟨k, rfl⟩ : ∃ k : Nat, p = k := ⟨p.toNat, by omega⟩
    obtain ⟨u1, u2⟩ := ten_up d k
    obtain ⟨r, r1, r2⟩ := mul_ten (k := k) wa fa ma h1 (by omega)
    rw [e, Int.toNat_natCast, r1, na, u1, u2]
    exact ⟨r, rfl, r2⟩
  rw [if_neg c1] at h ⊢
  by_cases c2 : 0 < p ∧ p ≤ 37
  · rw [if_pos c2] at h ⊢
    obtain ⟨k, rfl⟩ : ∃ k : Nat, p = ((k + 22 : Nat) : Int) := ⟨(p - 22).toNat, by omega⟩
    obtain ⟨u1, u2⟩ := ten_up d (k + 22)
    rw [show (((k + 22 : Nat) : Int) - 22).toNat = k by omega] at h ⊢
    obtain ⟨r, r1, r2⟩ := mul_ten (k := k) wa fa ma h1 (by omega)
    rw [e, r1] at h ⊢
    rw [Bool.not_eq_true', na] at h
    rw [na]
    have hx : 0 < d * 10 ^ k := Nat.mul_pos h1 (Nat.pow_pos (by decide))
    obtain ⟨s1, s2⟩ := small_exact hx r2 (exBig_le r2.1 h)
    obtain ⟨w1, w2, w3, w4⟩ := wordB_facts n (Nat.le_of_lt s2)
    have hm : mag (wordB n r) = d * 10 ^ k * big 1074 := by unfold mag; rw [w3]; exact s1
    obtain ⟨q, q1, q2⟩ := mul_ten (k := 22) w1 (fin_word n s2) hm hx (by omega)
    rw [q1, u1, u2]
    refine ⟨q, ?_, ?_⟩
    · have e9 : neg (wordB n r) = n := w4
      rw [e9]
    · rw [Nat.pow_add, ← Nat.mul_assoc]
      exact q2
  rw [if_neg c2] at h ⊢
  have c3 := of_decide_eq_true h
  obtain ⟨k, rfl⟩ : ∃ k : Nat, p = -(k : Int) := ⟨(-p).toNat, by omega⟩
  obtain ⟨u1, u2⟩ := ten_dn d k
  obtain ⟨r, r1, r2⟩ := div_ten (k := k) wa fa ma h1 (by omega)
  rw [e, show (- -(k : Int)).toNat = k by omega, r1, na, u1, u2]
  exact ⟨r, rfl, r2⟩
end Go.Proofs.YtfalbdlfopfgcaaGreatDoor

namespace Go.Proofs.YtfalbdlfopfgcaaGreatDoor

theorem mid_top {s : Nat} (hs : s < 9218868437227405312) : mid s < 10 ^ 310 * big 1074 := by
  have h1 : mgn s ≤ mgn 9218868437227405312 := mgn_le (by omega)
  have h2 : mgn (s + 1) ≤ mgn 9218868437227405312 := mgn_le (by omega)
  have h3 : 2 * mgn 9218868437227405312 < 10 ^ 310 * big 1074 := by decide +kernel
  unfold mid
  generalize 10 ^ 310 * big 1074 = t at *
  generalize mgn 9218868437227405312 = u at *
  omega
/-- A number too great for a real. -/
theorem nearM_inf {V : Nat} (h : 10 ^ 310 * big 1074 ≤ V) : NearM V 1 9218868437227405312 := by
  refine ⟨Nat.le_refl _, fun s hs => ⟨fun _ => .inl ?_, fun _ => hs⟩⟩
  have h1 := Nat.lt_of_lt_of_le (mid_top hs) h
  generalize 10 ^ 310 * big 1074 = t at *
  omega
/-- A number too small for a real. -/
theorem nearM_nought {V D : Nat} (h : 2 * V < D) : NearM V D 0 := by
  refine ⟨Nat.zero_le _, fun s hs => ⟨fun h => absurd h (by omega), fun h2 => ?_⟩⟩
  have hm : 1 ≤ mid s := by
    have := @mgn_lt s (s + 1) (by omega)
    unfold mid
    omega
  exact absurd h2 (low_law _ D V (mid s) hm h rfl)
theorem ten_le {j k : Nat} (h : j ≤ k) : 10 ^ j ≤ 10 ^ k := Nat.pow_le_pow_right (by omega) h
theorem near_big {d k : Nat} (hd : 1 ≤ d) (hk : 310 ≤ k) : NearM (tenV d (k : Int)) (tenD (k : Int)) 9218868437227405312 := by
  obtain ⟨u1, u2⟩ := ten_up d k
  rw [u1, u2]
  apply nearM_inf
  apply Nat.mul_le_mul_right
  have h1 := ten_le hk
  have h2 := Nat.mul_le_mul_right (10 ^ k) hd
  rw [Nat.one_mul] at h2
  exact Nat.le_trans h1 h2
theorem near_tiny {d k : Nat} (hd : d < 18446744073709551616) (hk : 345 ≤ k) : NearM (tenV d (-(k : Int))) (tenD (-(k : Int))) 0 := by
  obtain ⟨u1, u2⟩ := ten_dn d k
  rw [u1, u2]
  apply nearM_nought
  have h1 := ten_le hk
  have h2 : 2 * (18446744073709551616 * big 1074) < 10 ^ 345 := by decide +kernel
  have h3 : d * big 1074 ≤ 18446744073709551616 * big 1074 := Nat.mul_le_mul_right _ (Nat.le_of_lt hd)
  exact Nat.lt_of_le_of_lt (Nat.mul_le_mul_left 2 h3) (Nat.lt_of_lt_of_le h2 h1)
/-- The exact way ends below the infinity. -/
theorem ex_fin {d : Nat} {p : Int} {r : Nat} (hd : d < 4503599627370496) (hp : p ≤ 37) (h : NearM (tenV d p) (tenD p) r) : r < 9218868437227405312 := by
  have h37 : mgn 9214364837600034816 * 10 ^ 0 = mgn 9214364837600034816 * 10 ^ 0 := rfl
  have hs : NearM (mgn 9214364837600034816) 1 9214364837600034816 := nearM_self (by omega) (by omega) (by rw [Nat.mul_one])
  have hD : 0 < tenD p := Nat.pow_pos (by decide)
  have hb : 4503599627370496 * 10 ^ 37 * big 1074 ≤ mgn 9214364837600034816 := by decide +kernel
  have hv : tenV d p ≤ 4503599627370496 * 10 ^ 37 * big 1074 := by
    rw [tenV_big d p 1074 rfl]
    exact Nat.mul_le_mul_right _ (Nat.mul_le_mul (Nat.le_of_lt hd) (ten_le (by omega)))
  have h1 := h.mono hs hD (by omega) (by
    rw [Nat.mul_one]
    have h2 := Nat.le_trans hv hb
    have h3 := Nat.mul_le_mul_left (mgn 9214364837600034816) (show 1 ≤ tenD p from hD)
    rw [Nat.mul_one] at h3
    exact Nat.le_trans h2 h3)
  omega
theorem same_near {d : Nat} {p : Int} {r a b : Nat} (hr : NearM (tenV d p) (tenD p) r) (hb : b ≠ 0) (he : d * 10 ^ p.toNat * b = a * 10 ^ (-p).toNat) : nearW a b = r := by
  refine ((nearW_near a hb).uniq hr (Nat.pos_of_ne_zero hb) (Nat.pow_pos (by decide)) ?_)
  unfold tenV tenD
  rw [Nat.mul_right_comm, ← he, Nat.mul_right_comm]
theorem wordB_sgn (n : Bool) (r : Nat) : wordB n r = sgn n + r := by
  unfold wordB sgn
  cases n <;> simp
theorem sgn_or (n : Bool) : sgn n = 0 ∨ sgn n = 9223372036854775808 := by
  unfold sgn
  cases n <;> simp
/-- atof64 and Near: one word, and an error just where it is infinite. -/
theorem at_near {d a b : Nat} {p : Int} (n : Bool) (hd : d < 18446744073709551616) (hb : b ≠ 0) (he : d * 10 ^ p.toNat * b = a * 10 ^ (-p).toNat) :
    atV d p n = val (sgn n + nearW a b) ∧ atG d p n = if 9218868437227405312 ≤ nearW a b then .iface 155 (.int .i64 1) else .nilIface := by
  unfold atV atG
  by_cases h0 : d = 0
  · have ha : a = 0 := by
      rw [h0, Nat.zero_mul, Nat.zero_mul] at he
      have h10 : 10 ^ (-p).toNat ≠ 0 := Nat.ne_of_gt (Nat.pow_pos (by decide))
      exact (Nat.mul_eq_zero.1 he.symm).resolve_right h10
    have e : nearW a b = 0 := by unfold nearW; rw [if_pos ha]
    rw [if_pos h0, if_pos h0, e, if_neg (by omega), Nat.add_zero]
    exact ⟨rfl, rfl⟩
  rw [if_neg h0, if_neg h0]
  by_cases h1 : 310 < p
  · obtain ⟨k, rfl⟩ : ∃ k : Nat, p = k := ⟨p.toNat, by omega⟩
    rw [if_pos h1, if_pos h1, same_near (near_big (by omega) (by omega)) hb he, if_pos (by omega)]
    exact ⟨rfl, rfl⟩
  rw [if_neg h1, if_neg h1]
  by_cases h2 : p < -345
  · obtain ⟨k, rfl⟩ : ∃ k : Nat, p = -(k : Int) := ⟨(-p).toNat, by omega⟩
    rw [if_pos h2, if_pos h2, same_near (near_tiny hd (by omega)) hb he, if_neg (by omega), Nat.add_zero]
    exact ⟨rfl, rfl⟩
  rw [if_neg h2, if_neg h2]
  by_cases h3 : exOk d p n = true
  · rw [if_pos h3, if_pos h3]
    obtain ⟨r, r1, r2⟩ := ex_near n (by omega) h3
    have hp : p ≤ 37 ∧ d < 4503599627370496 := by
      unfold exOk at h3
      by_cases h5 : 4503599627370496 ≤ d
      · rw [if_pos h5] at h3
        exact absurd h3 Bool.false_ne_true
      · rw [if_neg h5] at h3
        refine ⟨?_, by omega⟩
        apply Int.not_lt.1
        intro h6
        rw [if_neg (by omega), if_neg (by omega), if_neg (by omega)] at h3
        have := of_decide_eq_true h3
        omega
    have hf := ex_fin hp.2 hp.1 r2
    have hw := (wordB_facts n (Nat.le_of_lt hf)).2.1
    rw [same_near r2 hb he, r1, ← wordB_sgn, val_some hw, if_neg (by omega)]
    exact ⟨rfl, rfl⟩
  · rw [if_neg h3, if_neg h3]
    obtain ⟨g1, g2⟩ := pf_nearW (Nat.pos_of_ne_zero h0) hd (by omega) (by omega) a b hb he (sgn n) (sgn_or n)
    rw [g1, g2]
    exact ⟨rfl, rfl⟩
end Go.Proofs.YtfalbdlfopfgcaaGreatDoor

namespace Go.Proofs.YtfalbdlfopfgcaaGreatDoor

/-- What lies between two numbers of one rung has that rung. -/
theorem NearM.between {V0 D0 V1 D1 V D r r' : Nat} (h0 : NearM V0 D0 r) (h1 : NearM V1 D1 r) (h : NearM V D r') (p0 : 0 < D0) (p1 : 0 < D1) (p : 0 < D) (hlo : V0 * D ≤ V * D0) (hhi : V * D1 ≤ V1 * D) : r = r' :=
  Nat.le_antisymm (h0.mono h p0 p hlo) (h.mono h1 p p1 hhi)
theorem tenD_pos (p : Int) : 0 < tenD p := Nat.pow_pos (by decide)
theorem trunc_near {d : Nat} {p : Int} (hd0 : 0 < d) (hd : d + 1 < 18446744073709551616) (h1 : -345 ≤ p) (h2 : p ≤ 310) (sg : Nat) (hsg : sg = 0 ∨ sg = 9223372036854775808) (he : pfN d p sg = pfN (d + 1) p sg)
    {V D r : Nat} (hD : 0 < D) (hN : NearM V D r) (hlo : tenV d p * D ≤ V * tenD p) (hhi : V * tenD p ≤ tenV (d + 1) p * D) :
    pfN d p sg = sg + r ∧ pfG d p sg = if 9218868437227405312 ≤ r then .iface 155 (.int .i64 1) else .nilIface := by
  obtain ⟨r0, n0, f0⟩ := pf_near hd0 (show d < 18446744073709551616 by omega) h1 h2
  obtain ⟨r1, n1, f1⟩ := pf_near (Nat.succ_pos d) hd h1 h2
  obtain ⟨g0, g0'⟩ := f0 sg hsg
  obtain ⟨g1, -⟩ := f1 sg hsg
  have e : r0 = r1 := by
    rw [g0, g1] at he
    exact Nat.add_left_cancel he
  rw [← e] at n1
  have e2 := n0.between n1 hN (tenD_pos p) (tenD_pos p) hD hlo hhi
  rw [← e2]
  exact ⟨g0, g0'⟩
end Go.Proofs.YtfalbdlfopfgcaaGreatDoor
