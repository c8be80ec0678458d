/- The angle of a finite number is finite; a conjugate's is the opposite. No program; conditions: words of 64 bits. -/
import Derived.Test.YtnedjhoefmmelaaBd
namespace Go.Proofs.Ytnedjhoefmmelaa

theorem rootFrom_le (n : Nat) : ∀ (todo root : Nat), root * root ≤ n → Ieee.Datum.rootFrom n todo root * Ieee.Datum.rootFrom n todo root ≤ n := by
  intro todo
  induction todo with
  | zero => intro root h; exact h
  | succ t ih =>
    intro root h
    unfold Ieee.Datum.rootFrom
    refine ih _ ?_
    split
    · assumption
    · exact h

/-- 1, in 2^-1074. -/
def O : Nat := big 1074
theorem mgn_two : mgn 4611686018427387904 = big 1075 := by decide +kernel
theorem O_eq : big 1074 = O := rfl
theorem O_pos : 0 < O := big_pos 1074
theorem two_O : 2 * O = mgn 4611686018427387904 := by decide +kernel

theorem root_bound {m : Nat} {i : Int} (hm : 0 < m) (hi : -1074 ≤ i) {z : Nat} (hz : z = 1075) (hb : m * 2 ^ (i + 1074).toNat ≤ big z) (hz2 : mgn 4611686018427387904 = big z) (digits : Nat) :
    ∃ r, r ≤ 4611686018427387904 ∧ ((Ieee.Datum.number false m i).root digits).map Ieee.double.write = some (wordB false r) := by
  have hL1 : 2 ^ m.log2 ≤ m := Nat.log2_self_le (by omega)
  have hL2 : m < 2 ^ (m.log2 + 1) := Nat.lt_log2_self
  obtain ⟨L, hL⟩ : ∃ L, L = m.log2 := ⟨_, rfl⟩
  rw [← hL] at hL1 hL2
  have hLi : (L : Int) + i ≤ 1 := by
    have h1 : 2 ^ (L + (i + 1074).toNat) ≤ 2 ^ z := by
      rw [Nat.pow_add]
      exact Nat.le_trans (Nat.mul_le_mul_right _ hL1) hb
    have h2 := (Nat.pow_le_pow_iff_right (by omega : 1 < 2)).1 h1
    omega
  obtain ⟨more, hmore⟩ : ∃ more : Nat, more = 2 * digits - L + ((i - (2 * digits - L : Nat)) % 2).toNat := ⟨_, rfl⟩
  obtain ⟨n, hn⟩ : ∃ n, n = m * 2 ^ more := ⟨_, rfl⟩
  obtain ⟨whole, hw⟩ : ∃ whole, whole = Ieee.Datum.rootFrom n (n.log2 / 2 + 1) 0 := ⟨_, rfl⟩
  obtain ⟨A, hA⟩ : ∃ A, A = 2 * whole + (whole * whole != n).toNat := ⟨_, rfl⟩
  obtain ⟨P, hP⟩ : ∃ P : Int, P = (i - more) / 2 - 1 := ⟨_, rfl⟩
  have hroot : ((Ieee.Datum.number false m i).root digits).map Ieee.double.write = some (Ieee.double.nearest false A P) := by
    unfold Ieee.Datum.root
    simp only [if_neg (show ¬ m = 0 by omega), Bool.false_eq_true, if_false, ← hL, ← hmore, Nat.shiftLeft_eq, ← hn, ← hw, ← hA, ← hP, Option.map_some]
    rfl
  rw [hroot]
  have hn0 : 0 < n := by rw [hn]; exact Nat.mul_pos hm (Nat.two_pow_pos _)
  have hww : whole * whole ≤ n := by rw [hw]; exact rootFrom_le n _ 0 (by omega)
  have hA0 : 0 < A := by
    rw [hA]
    rcases Nat.eq_zero_or_pos whole with h | h
    · subst h
      have : (0 * 0 != n) = true := by simp; omega
      rw [this]
      decide
    · omega
  have hb1 : (whole * whole != n).toNat ≤ 1 := by cases (whole * whole != n) <;> decide
  obtain ⟨h, hh⟩ : ∃ h : Nat, h = (L + 2 + more) / 2 := ⟨_, rfl⟩
  have hwh : whole < 2 ^ h := by
    apply Nat.lt_of_not_le
    intro hc
    have h1 : 2 ^ (h + h) ≤ n := by
      rw [Nat.pow_add]
      exact Nat.le_trans (Nat.mul_le_mul hc hc) hww
    have h2 : n < 2 ^ (L + 1 + more) := by
      rw [hn, Nat.pow_add]
      exact Nat.mul_lt_mul_of_pos_right hL2 (Nat.two_pow_pos _)
    have h3 := (Nat.pow_lt_pow_iff_right (by omega : 1 < 2)).1 (Nat.lt_of_le_of_lt h1 h2)
    omega
  have hAh : A < 2 ^ (h + 1) := by
    rw [Nat.pow_succ]
    omega
  have hhP : (h : Int) + 1 + P ≤ 1 := by omega
  obtain ⟨r, hr, _, hr2⟩ := nearest_spec false A P hA0
  refine ⟨r, ?_, by rw [hr, word_eq]⟩
  obtain ⟨p, hp⟩ : ∃ p : Int, p = min P (-1074) := ⟨_, rfl⟩
  refine (hr2 4611686018427387904 p (by omega) (by omega) (by omega)).2 ?_
  rw [hz2]
  unfold big
  rw [← Nat.pow_add]
  calc A * 2 ^ (P - p).toNat ≤ 2 ^ (h + 1) * 2 ^ (P - p).toNat := Nat.mul_le_mul_right _ (Nat.le_of_lt hAh)
    _ = 2 ^ (h + 1 + (P - p).toNat) := by rw [Nat.pow_add 2 (h + 1)]
    _ ≤ _ := Nat.pow_le_pow_right (by omega) (by omega)

theorem rep_of (k s : Nat) (hs : s < 9218868437227405312) (h : k * O = mgn s) : Rep ((k * O : Nat) : Int) := ⟨s, hs, .inl (by rw [h])⟩
theorem rep1 : Rep ((1 * O : Nat) : Int) := rep_of 1 4607182418800017408 (by omega) (by decide +kernel)
theorem rep2 : Rep ((2 * O : Nat) : Int) := rep_of 2 4611686018427387904 (by omega) (by decide +kernel)
theorem rep3 : Rep ((3 * O : Nat) : Int) := rep_of 3 4613937818241073152 (by omega) (by decide +kernel)
theorem rep4 : Rep ((4 * O : Nat) : Int) := rep_of 4 4616189618054758400 (by omega) (by decide +kernel)
theorem rep5 : Rep ((5 * O : Nat) : Int) := rep_of 5 4617315517961601024 (by omega) (by decide +kernel)
theorem rep6 : Rep ((6 * O : Nat) : Int) := rep_of 6 4618441417868443648 (by omega) (by decide +kernel)
theorem rep7 : Rep ((7 * O : Nat) : Int) := rep_of 7 4619567317775286272 (by omega) (by decide +kernel)
theorem rep8 : Rep ((8 * O : Nat) : Int) := rep_of 8 4620693217682128896 (by omega) (by decide +kernel)
theorem rep64 : Rep ((64 * O : Nat) : Int) := rep_of 64 4634204016564240384 (by omega) (by decide +kernel)
theorem rep256 : Rep ((256 * O : Nat) : Int) := rep_of 256 4643211215818981376 (by omega) (by decide +kernel)
theorem rep264 : Rep ((264 * O : Nat) : Int) := rep_of 264 4643351953307336704 (by omega) (by decide +kernel)
theorem rep280 : Rep ((280 * O : Nat) : Int) := rep_of 280 4643633428284047360 (by omega) (by decide +kernel)
theorem rep_small : ∀ k, k ≤ 8 → Rep ((k * O : Nat) : Int) := by
  intro k hk
  match k, hk with
  | 0, _ => rw [Nat.zero_mul]; exact rep_zero
  | 1, _ => exact rep1
  | 2, _ => exact rep2
  | 3, _ => exact rep3
  | 4, _ => exact rep4
  | 5, _ => exact rep5
  | 6, _ => exact rep6
  | 7, _ => exact rep7
  | 8, _ => exact rep8

theorem bd_lit (b : Nat) (hw : IsW b) (hf : IsFin b) : Bd (val b) (sv b) (sv b) := ⟨b, hf.val, hw, hf, Int.le_refl _, Int.le_refl _⟩
theorem bd_one : Bd one ((1 * O : Nat) : Int) ((1 * O : Nat) : Int) := by
  have h := bd_lit 4607182418800017408 (by unfold IsW; omega) (by unfold IsFin; omega)
  rw [show sv 4607182418800017408 = ((1 * O : Nat) : Int) from by decide +kernel] at h
  exact h

/-- A root, of a real from 0 to 2. -/
theorem Bd.sqrt {x : Option Nat} {lo : Int} (hx : Bd x lo ((2 * O : Nat) : Int)) (hlo : 0 < lo) : Bd (fsqrt x) 0 ((2 * O : Nat) : Int) := by
  obtain ⟨b, rfl, hw, hf, h1, h2⟩ := hx
  obtain ⟨m, i, hm, hi, hmg⟩ := read_fin hw hf
  have hneg : decide (9223372036854775808 ≤ b) = false := by
    rw [decide_eq_false_iff_not]
    intro hc
    unfold sv at h1
    rw [if_pos hc] at h1
    omega
  have hsv : sv b = (mgn (b % 9223372036854775808) : Int) := by
    unfold sv
    rw [if_neg (by simpa using hneg)]
  have hm0 : 0 < m := by
    rcases Nat.eq_zero_or_pos m with h | h
    · rw [h] at hmg
      simp at hmg
      omega
    · exact h
  rw [hneg] at hm
  obtain ⟨z, hz⟩ : ∃ z : Nat, z = 1075 := ⟨_, rfl⟩
  have hz2 := mgn_two
  rw [← hz] at hz2
  have hb : m * 2 ^ (i + 1074).toNat ≤ big z := by
    rw [hmg, ← hz2, ← two_O]
    rw [hsv] at h2
    exact_mod_cast h2
  obtain ⟨r, hr, hroot⟩ := root_bound hm0 hi hz hb hz2 (Ieee.double.fractionBits + 2)
  have hval : fsqrt (some b) = some (wordB false r) := by
    show ((Ieee.double.read b).root _).map Ieee.double.write = _
    rw [hm]
    exact hroot
  have hrf : r < 9218868437227405312 := by omega
  refine ⟨_, hval, (wordB_facts _ (Nat.le_of_lt hrf)).1, fin_word _ hrf, ?_, ?_⟩
  · rw [sv_word _ (Nat.le_of_lt hrf)]
    simp
  · rw [sv_word _ (Nat.le_of_lt hrf)]
    have := mgn_le hr
    rw [← two_O] at this
    simp
    omega

theorem mulO (a b c : Nat) (h : a * b = c) : a * O * (b * O) ≤ c * O * big 1074 := by
  rw [← h, O_eq, Nat.mul_mul_mul_comm, Nat.mul_assoc (a * b)]
  exact Nat.le_refl _
theorem bd_T {t : Option Nat} (h : Bd t 0 ((1 * O : Nat) : Int)) : Bd (angT t) 0 ((1 * O : Nat) : Int) := by
  have hO := O_pos
  have h1 : Bd (fmul t t) 0 ((1 * O : Nat) : Int) := h.mul_pos h rep1 (mulO 1 1 1 rfl)
  have h2 : Bd (fadd one (fmul t t)) ((1 * O : Nat) : Int) ((2 * O : Nat) : Int) := bd_one.add h1 rep1 rep2 (by omega) (by omega)
  have h3 := h2.sqrt (by omega)
  have h4 : Bd (fadd one (fsqrt (fadd one (fmul t t)))) ((1 * O : Nat) : Int) ((3 * O : Nat) : Int) := bd_one.add h3 rep1 rep3 (by omega) (by omega)
  exact h.div_pos h4 (by omega) rep1 (by rw [O_eq, Nat.one_mul]; exact Nat.le_refl _)
theorem bd_Ts {t : Option Nat} (h : Bd t 0 ((1 * O : Nat) : Int)) : ∀ k, Bd (angTs k t) 0 ((1 * O : Nat) : Int)
  | 0 => h
  | k + 1 => bd_T (bd_Ts h k)

def smallB (x : Option Nat) : Bool := match x with | none => false | some b => decide (b < 9223372036854775808) && decide (b ≤ 4607182418800017408)
theorem bd_small {x : Option Nat} (h : smallB x = true) : Bd x 0 ((1 * O : Nat) : Int) := by
  cases x with
  | none => cases h
  | some b =>
    simp [smallB] at h
    refine ⟨b, rfl, by unfold IsW; omega, by unfold IsFin; omega, ?_, ?_⟩
    · unfold sv; rw [if_neg (by omega)]; omega
    · have := mgn_le h.2
      rw [show mgn 4607182418800017408 = 1 * O from by decide +kernel] at this
      unfold sv
      rw [if_neg (by omega), Nat.mod_eq_of_lt h.1]
      omega
theorem inv_small : ∀ k, k < 7 → smallB (fdiv one (val (dB k))) = true := by decide +kernel
theorem s0_small : smallB (val 4589468260265693457) = true := by decide +kernel

theorem bd_S {u : Option Nat} (h : Bd u 0 ((1 * O : Nat) : Int)) : ∀ k, k ≤ 7 → Bd (angS u k) (-(((k + 1) * O : Nat) : Int)) (((k + 1) * O : Nat) : Int) := by
  intro k
  induction k with
  | zero => intro _; exact (bd_small s0_small).mono (by omega) (by omega)
  | succ k ih =>
    intro hk
    have h1 := ih (by omega)
    have h2 := bd_small (inv_small k (by omega))
    have h3 : Bd (fmul u (angS u k)) (-(((k + 1) * O : Nat) : Int)) (((k + 1) * O : Nat) : Int) :=
      (h.mono (by omega) (Int.le_refl _)).mul h1 (rep_small _ (by omega)) (mulO 1 (k + 1) (k + 1) (Nat.one_mul _))
    have e : (k + 1 + 1) * O = (k + 1) * O + 1 * O := by rw [Nat.add_mul (k + 1) 1]
    exact h2.sub h3 (rep_small (k + 1 + 1) (by omega)).neg (rep_small (k + 1 + 1) (by omega)) (by omega) (by omega)

theorem bd_V {t : Option Nat} (h : Bd t 0 ((1 * O : Nat) : Int)) : Bd (angV t) (-((256 * O : Nat) : Int)) ((256 * O : Nat) : Int) := by
  have hO := O_pos
  have h1 : Bd (fmul t t) 0 ((1 * O : Nat) : Int) := h.mul_pos h rep1 (mulO 1 1 1 rfl)
  have hS := bd_S h1 7 (by omega)
  have h8 := bd_lit 4620693217682128896 (by unfold IsW; omega) (by unfold IsFin; omega)
  rw [show sv 4620693217682128896 = ((8 * O : Nat) : Int) from by decide +kernel] at h8
  have hC := bd_lit 4615783660508851396 (by unfold IsW; omega) (by unfold IsFin; omega)
  have hc1 : 0 ≤ sv 4615783660508851396 ∧ sv 4615783660508851396 ≤ ((4 * O : Nat) : Int) := by decide +kernel
  have h2 : Bd (fmul (val 4620693217682128896) t) (-((8 * O : Nat) : Int)) ((8 * O : Nat) : Int) :=
    (h8.mono (by omega) (Int.le_refl _)).mul (h.mono (by omega) (Int.le_refl _)) rep8 (mulO 8 1 8 rfl)
  have h3 : Bd (fmul (fmul (val 4620693217682128896) t) (angS (fmul t t) 7)) (-((64 * O : Nat) : Int)) ((64 * O : Nat) : Int) :=
    h2.mul hS rep64 (mulO 8 (7 + 1) 64 rfl)
  exact h3.mul (hC.mono (by omega) hc1.2) rep256 (mulO 64 4 256 rfl)

theorem bd_R {t : Option Nat} (h : Bd t 0 ((1 * O : Nat) : Int)) (c d : Bool) : Bd (angR c (angB d (angV (angTs 3 t)))) (-((280 * O : Nat) : Int)) ((280 * O : Nat) : Int) := by
  have hO := O_pos
  have h1 := bd_V (bd_Ts h 3)
  have h6 := bd_lit 4618441417868443648 (by unfold IsW; omega) (by unfold IsFin; omega)
  rw [show sv 4618441417868443648 = ((6 * O : Nat) : Int) from by decide +kernel] at h6
  have h12 := bd_lit 4622945017495814144 (by unfold IsW; omega) (by unfold IsFin; omega)
  rw [show sv 4622945017495814144 = ((12 * O : Nat) : Int) from by decide +kernel] at h12
  have h2 : Bd (angB d (angV (angTs 3 t))) (-((264 * O : Nat) : Int)) ((264 * O : Nat) : Int) := by
    unfold angB
    split
    · exact h6.sub h1 rep264.neg rep264 (by omega) (by omega)
    · exact h1.mono (by omega) (by omega)
  unfold angR
  split
  · exact h12.sub h2 rep280.neg rep280 (by omega) (by omega)
  · exact h2.mono (by omega) (by omega)
end Go.Proofs.Ytnedjhoefmmelaa
