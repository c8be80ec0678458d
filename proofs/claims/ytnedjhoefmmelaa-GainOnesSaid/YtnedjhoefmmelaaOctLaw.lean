/- An octave more is twice as much; an octave holds. No program; conditions: words of 64 bits. -/
import Derived.Test.YtnedjhoefmmelaaOnesLaw
import Derived.Test.YtnedjhoefmmelaaOct
import Derived.Test.YtnedjhoefmmelaaLdexp
namespace Go.Proofs.Ytnedjhoefmmelaa

theorem bitLenAux_spec : ∀ (f x : Nat), x < 2 ^ f → 0 < x → 1 ≤ Lib.bitLenAux f x ∧ 2 ^ (Lib.bitLenAux f x - 1) ≤ x ∧ x < 2 ^ Lib.bitLenAux f x := by
  intro f
  induction f with
  | zero => intro x h h0; simp at h; omega
  | succ f ih =>
    intro x h h0
    simp only [Lib.bitLenAux]
    rw [if_neg (by omega)]
    rw [Nat.pow_succ] at h
    rcases Nat.eq_zero_or_pos (x / 2) with h1 | h1
    · have hx : x = 1 := by omega
      subst hx
      have : Lib.bitLenAux f (1 / 2) = 0 := by
        cases f <;> simp [Lib.bitLenAux]
      rw [this]
      decide
    · obtain ⟨a, b, c⟩ := ih (x / 2) (by omega) h1
      generalize Lib.bitLenAux f (x / 2) = k at *
      obtain ⟨j, rfl⟩ : ∃ j, k = j + 1 := ⟨k - 1, by omega⟩
      rw [show 1 + (j + 1) - 1 = j + 1 from by omega, show 1 + (j + 1) = (j + 1) + 1 from by omega]
      rw [Nat.add_sub_cancel] at b
      rw [Nat.pow_succ] at c ⊢
      have e : 2 ^ (j + 1) = 2 ^ j * 2 := Nat.pow_succ ..
      rw [Nat.pow_succ]
      omega
/-- The power of two of a real above 0. -/
theorem octK_spec {x : Nat} (h0 : 0 < x) (hx : x < 9218868437227405312) : ∃ K : Nat, octK x = (K : Int) - 1074 ∧ K ≤ 2097 ∧ 2 ^ K ≤ mgn x ∧ mgn x < 2 ^ (K + 1) := by
  unfold octK mgn
  by_cases h : x < 4503599627370496
  · rw [if_neg (by omega), if_pos h]
    obtain ⟨a, b, c⟩ := bitLenAux_spec 64 x (by omega) h0
    have hle := bitLen_le x
    refine ⟨Lib.bitLen x - 1, ?_, by omega, b, ?_⟩
    · have : 1 ≤ Lib.bitLen x := a
      omega
    · have : 1 ≤ Lib.bitLen x := a
      rw [Nat.sub_add_cancel this]
      exact c
  · rw [if_pos (by omega), if_neg h]
    refine ⟨52 + (x / 4503599627370496 - 1), by omega, by omega, ?_, ?_⟩
    · rw [Nat.pow_add]
      exact Nat.mul_le_mul_right _ (show 4503599627370496 ≤ _ by omega)
    · rw [show 52 + (x / 4503599627370496 - 1) + 1 = 53 + (x / 4503599627370496 - 1) from by omega, Nat.pow_add 2 53]
      exact Nat.mul_lt_mul_of_pos_right (show _ < 9007199254740992 by omega) (Nat.two_pow_pos _)
theorem pow_unique {a b n : Nat} (h1 : 2 ^ a ≤ n) (h2 : n < 2 ^ (a + 1)) (h3 : 2 ^ b ≤ n) (h4 : n < 2 ^ (b + 1)) : a = b := by
  have e1 := (Nat.pow_lt_pow_iff_right (by omega : 1 < 2)).1 (Nat.lt_of_le_of_lt h1 h4)
  have e2 := (Nat.pow_lt_pow_iff_right (by omega : 1 < 2)).1 (Nat.lt_of_le_of_lt h3 h2)
  omega

/-- math.Ldexp(1, k), in 2^-1074. -/
theorem mgn_pow {K : Nat} (h : K < 52) : mgn (2 ^ K) = 2 ^ K := by
  unfold mgn
  rw [if_pos]
  exact Nat.pow_lt_pow_right (by omega) h
theorem mgn_up (q : Nat) : mgn ((q + 1) * 4503599627370496) = 2 ^ (52 + q) := by
  have h := mgn_form q 4503599627370496 (.inr (by omega)) (by omega)
  rw [show (q + 1) * 4503599627370496 = q * 4503599627370496 + 4503599627370496 from by omega, h, Nat.pow_add]
theorem one_some : one = some 4607182418800017408 := by decide +kernel
theorem mag_53 : mag 4368491638549381120 = big 1021 := by decide +kernel
theorem mag_one : mag 4607182418800017408 = big 1074 := by decide +kernel
theorem ldV_spec {K : Nat} (h : K ≤ 2097) : ∃ l, ldV ((K : Int) - 1074) = some l ∧ l < 9218868437227405312 ∧ mgn l = 2 ^ K ∧ IsW l ∧ IsFin l ∧ sv l = ((2 ^ K : Nat) : Int) ∧ (K = 2097 → l = 9214364837600034816) ∧ (K < 2097 → l < 9214364837600034816) := by
  have fin : ∀ l, l < 9218868437227405312 → mgn l = 2 ^ K → IsW l ∧ IsFin l ∧ sv l = ((2 ^ K : Nat) : Int) := by
    intro l hl hm
    refine ⟨by unfold IsW; omega, by unfold IsFin; omega, ?_⟩
    unfold sv
    rw [if_neg (by omega), Nat.mod_eq_of_lt (by omega), hm]
  unfold ldV
  by_cases hk : K < 52
  · rw [if_pos (by omega)]
    have hlt : 2 ^ K < 2 ^ 52 := Nat.pow_lt_pow_right (by omega) hk
    have hlt2 : 2 ^ K < 4503599627370496 := hlt
    obtain ⟨w, hw⟩ : ∃ w, w = ((K : Int) - 1074 + 1076).toNat * 4503599627370496 := ⟨_, rfl⟩
    have hw2 : w = (K + 1 + 1) * 4503599627370496 := by rw [hw, show ((K : Int) - 1074 + 1076).toNat = K + 1 + 1 from by omega]
    rw [← hw]
    have hww : IsW w := by unfold IsW; omega
    have hwf : IsFin w := by unfold IsFin; omega
    have hwm : mag w = 2 ^ (52 + (K + 1)) := by
      unfold mag
      rw [Nat.mod_eq_of_lt (by omega), hw2, mgn_up]
    have hwn : neg w = false := by unfold neg; rw [decide_eq_false_iff_not]; omega
    obtain ⟨r, hr, hn⟩ := fmul_spec (a := 4368491638549381120) (b := w) (by unfold IsW; omega) hww (by unfold IsFin; omega) hwf
    have hrk : r = 2 ^ K := by
      refine hn.exact (by omega) ?_
      rw [mgn_pow hk, mag_53, hwm]
      unfold big
      obtain ⟨u, hu⟩ : ∃ u : Nat, u = 1074 := ⟨_, rfl⟩
      obtain ⟨v, hv⟩ : ∃ v : Nat, v = 1021 := ⟨_, rfl⟩
      rw [← hu, ← hv, ← Nat.pow_add, ← Nat.pow_add]
      congr 1
      omega
    have hv : val 4368491638549381120 = some 4368491638549381120 := by decide +kernel
    refine ⟨2 ^ K, ?_, by omega, mgn_pow hk, ?_⟩
    · rw [hv, hwf.val, hr, hwn, hrk, show neg 4368491638549381120 = false from by decide +kernel]
      simp [wordB]
    · obtain ⟨a, b, c⟩ := fin (2 ^ K) (by omega) (mgn_pow hk)
      exact ⟨a, b, c, by omega, by omega⟩
  · rw [if_neg (by omega)]
    obtain ⟨w, hw⟩ : ∃ w, w = ((K : Int) - 1074 + 1023).toNat * 4503599627370496 := ⟨_, rfl⟩
    have hw2 : w = ((K - 52) + 1) * 4503599627370496 := by rw [hw, show ((K : Int) - 1074 + 1023).toNat = (K - 52) + 1 from by omega]
    rw [← hw]
    have hwlt : w < 9218868437227405312 := by omega
    have hwm : mgn w = 2 ^ K := by rw [hw2, mgn_up]; congr 1; omega
    obtain ⟨a, b, c⟩ := fin w hwlt hwm
    have hwm2 : mag w = 2 ^ K := by unfold mag; rw [Nat.mod_eq_of_lt (by omega), hwm]
    have hwn : neg w = false := by unfold neg; rw [decide_eq_false_iff_not]; omega
    obtain ⟨r, hr, hn⟩ := fmul_spec (a := 4607182418800017408) (b := w) (by unfold IsW; omega) a (by unfold IsFin; omega) b
    have hrk : r = w := hn.exact (by omega) (by rw [hwm, mag_one, hwm2, Nat.mul_comm])
    refine ⟨w, ?_, hwlt, hwm, a, b, c, by omega, by omega⟩
    rw [one_some, b.val, hr, hwn, hrk, show neg 4607182418800017408 = false from by decide +kernel]
    simp [wordB]

/-- Twice a real that is too great: infinite. -/
theorem ftwice_over {b : Nat} (hw : IsW b) (hf : IsFin b) (hb : 9214364837600034816 ≤ b % 9223372036854775808) : fmul (val 4611686018427387904) (val b) = some (wordB (neg b) 9218868437227405312) := by
  obtain ⟨r, hr, hn⟩ := fmul_spec two_w hw two_fin hf
  have h1 : r = 9218868437227405312 := by
    have h2 := hn.1
    have h3 := (hn.2 9218868437227405312 (by omega)).1 (by
      rw [two_mag, show mgn 9218868437227405312 = 2 * mgn 9214364837600034816 from by decide +kernel]
      have h4 : mgn 9214364837600034816 ≤ mag b := mgn_le hb
      rw [Nat.mul_assoc, Nat.mul_assoc, Nat.mul_comm (big 1074)]
      exact Nat.mul_le_mul_left _ (Nat.mul_le_mul_right _ h4))
    omega
  rw [two_val, hf.val, hr, two_neg, h1]
  simp
theorem fin_over (b : Bool) : fin (some (wordB b 9218868437227405312)) = false := by cases b <;> decide +kernel
theorem fin_some {y : Nat} (hw : IsW y) (hf : IsFin y) : fin (some y) = true := by rw [← hf.val]; exact val_fin hw hf

theorem above_fin {x : Nat} (hw : IsW x) (hf : IsFin x) : aboveE (some x) = if 0 < sv x then 0 else 2 := by
  unfold aboveE
  rw [if_pos (fin_some hw hf), vl_flt vl_zero ⟨x, rfl, hw, hf, rfl⟩]
  by_cases h : 0 < sv x <;> simp [h]
theorem above_pos {x : Nat} (hw : IsW x) (h : aboveE (val x) = 0) : IsFin x ∧ 0 < x ∧ x < 9218868437227405312 ∧ sv x = (mgn x : Int) := by
  have h1 : fin (val x) = true := by
    unfold aboveE at h
    by_cases h1 : fin (val x) = true
    · exact h1
    · rw [if_neg h1] at h; cases h
  have hf := fin_val hw h1
  rw [hf.val, above_fin hw hf] at h
  have hs : 0 < sv x := by
    by_cases h2 : 0 < sv x
    · exact h2
    · rw [if_neg h2] at h; cases h
  have hx : x < 9223372036854775808 := by
    unfold sv at hs
    split at hs <;> omega
  have h3 : sv x = (mgn x : Int) := by
    unfold sv
    rw [if_neg (by omega), Nat.mod_eq_of_lt hx]
  refine ⟨hf, ?_, ?_, h3⟩
  · rcases Nat.eq_zero_or_pos x with h | h
    · rw [h, show sv 0 = 0 from by decide +kernel] at hs
      omega
    · exact h
  · unfold IsFin at hf
    omega

/-- The errors of a real and of the real twice as great. -/
theorem oct_errors {x y : Nat} (hw : IsW x) (hy : val y = fmul (val 4611686018427387904) (val x)) :
    (aboveE (val x) ≠ 0 → aboveE (val y) ≠ 0) ∧ (aboveE (val x) = 0 → aboveE (val y) = 0 ∨ aboveE (val y) = 5) := by
  have hover : ∀ b, aboveE (some (wordB b 9218868437227405312)) = 5 := by
    intro b
    unfold aboveE
    rw [fin_over]
    rfl
  rw [hy]
  by_cases hf : IsFin x
  · by_cases hb : x % 9223372036854775808 < 9214364837600034816
    · obtain ⟨z, hz, zw, zf, zs⟩ := ftwice hw hb
      rw [hz, above_fin zw zf, hf.val, above_fin hw hf, zs]
      constructor
      · intro h h2
        by_cases h3 : 0 < sv x
        · rw [if_pos h3] at h; exact h rfl
        · rw [if_neg (by omega)] at h2; cases h2
      · intro h
        by_cases h3 : 0 < sv x
        · rw [if_pos (by omega)]; exact .inl rfl
        · rw [if_neg h3] at h; cases h
    · rw [ftwice_over hw hf (by omega), hover]
      exact ⟨fun _ => by decide, fun _ => .inr rfl⟩
  · have hbad : aboveE (fmul (val 4611686018427387904) (val x)) = 5 := by
      cases hn : nanB x
      · rw [nan_iff] at hn
        have hx : x = 9218868437227405312 ∨ x = 18442240474082181120 := by
          unfold IsW at hw
          unfold IsFin at hf
          omega
        rcases hx with rfl | rfl <;> decide +kernel
      · rw [val_none hn]
        have : fmul (val 4611686018427387904) none = none := by
          unfold fmul fop
          cases val 4611686018427387904 <;> rfl
        rw [this]
        rfl
    rw [hbad]
    exact ⟨fun _ => by decide, fun _ => .inr rfl⟩

/-- AN OCTAVE MORE IS TWICE AS MUCH; AN OCTAVE HOLDS. -/
theorem oct_holds {x y l t : Nat} (hw : IsW x) (hyw : IsW y) (hy : val y = fmul (val 4611686018427387904) (val x)) (h1 : aboveE (val x) = 0) (h2 : aboveE (val y) = 0)
    (hl : val l = ldV (octM x)) (ht : val t = fmul (val 4611686018427387904) (val l)) :
    octM y = octM x + 1 ∧ fle (val l) (val x) = true ∧ flt (val x) (val t) = true ∧ -1074 ≤ octM x ∧ octM x ≤ 1023 := by
  obtain ⟨hf, hx0, hx, hs⟩ := above_pos hw h1
  obtain ⟨hyf, hy0, hyx, hys⟩ := above_pos hyw h2
  obtain ⟨K, hK, hKb, hk1, hk2⟩ := octK_spec hx0 hx
  obtain ⟨J, hJ, hJb, hj1, hj2⟩ := octK_spec hy0 hyx
  have hox : octM x = (K : Int) - 1074 := by rw [octM, if_pos h1, hK]
  have hoy : octM y = (J : Int) - 1074 := by rw [octM, if_pos h2, hJ]
  obtain ⟨l', hl', hll, hlm, hlw, hlf, hls, hl1, hl2⟩ := ldV_spec hKb
  rw [hox, hl'] at hl
  obtain rfl : l = l' := val_inj hl
  have hvx := vl_val hw hf
  have hmy : mgn y = 2 * mgn x := by
    have hb : x % 9223372036854775808 < 9214364837600034816 := by
      apply Nat.lt_of_not_le
      intro hc
      rw [ftwice_over hw hf hc] at hy
      have hyv := val_inj hy
      rw [hyv] at h2
      have : aboveE (val (wordB (neg x) 9218868437227405312)) = 5 := by
        cases neg x <;> decide +kernel
      rw [this] at h2
      cases h2
    obtain ⟨z, hz, zw, zf, zs⟩ := ftwice hw hb
    rw [hz] at hy
    have hyz := val_inj hy
    subst hyz
    rw [hys, hs] at zs
    omega
  refine ⟨?_, ?_, ?_, by omega, by omega⟩
  · have : J = K + 1 := by
      refine pow_unique hj1 hj2 ?_ ?_
      · rw [hmy, Nat.pow_succ]; omega
      · rw [hmy, Nat.pow_succ]; omega
    omega
  · rw [vl_fle (vl_val hlw hlf) hvx, hls, hs]
    rw [decide_eq_true_eq]
    exact_mod_cast hk1
  · by_cases hK2 : K = 2097
    · rw [ht, hl1 hK2, show fmul (val 4611686018427387904) (val 9214364837600034816) = val 9218868437227405312 from by decide +kernel]
      rw [hf.val, show val 9218868437227405312 = some 9218868437227405312 from by decide +kernel, flt_key hw isW_inf hf.nan (by decide +kernel), decide_eq_true_eq]
      unfold key
      rw [if_pos (by omega), if_pos (by omega)]
      omega
    · have hlb := hl2 (by omega)
      obtain ⟨z, hz, zw, zf, zs⟩ := ftwice hlw (b := l) (by omega)
      rw [ht, hz, vl_flt hvx ⟨z, rfl, zw, zf, rfl⟩, zs, hs, hls, decide_eq_true_eq]
      rw [Nat.pow_succ] at hk2
      omega
end Go.Proofs.Ytnedjhoefmmelaa
