/- Reals between bounds: sums, differences, products, quotients and roots stay between the words that bound the exact number. No program; conditions: finite words of 64 bits. -/
import Derived.Test.YtnedjhoefmmelaaHalfLaw
namespace Go.Proofs.Ytnedjhoefmmelaa

/-- A number (in 2^-1074) that is a word's. -/
def Rep (n : Int) : Prop := ∃ s, s < 9218868437227405312 ∧ (n = mgn s ∨ n = -(mgn s : Int))
/-- A finite real between two bounds. -/
def Bd (x : Option Nat) (lo hi : Int) : Prop := ∃ b, x = some b ∧ IsW b ∧ IsFin b ∧ lo ≤ sv b ∧ sv b ≤ hi

theorem mag_sv (b : Nat) : (sv b).natAbs = mag b := by
  unfold sv mag
  split <;> omega
theorem sv_neg (b : Nat) : sv b = if neg b then -(mag b : Int) else (mag b : Int) := by
  unfold sv neg mag
  by_cases h : 9223372036854775808 ≤ b <;> simp [h]

theorem near_in {V D r : Nat} {ng : Bool} {lo hi : Int} (h : Near V D r) (hD : 0 < D) (hl : Rep lo) (hh : Rep hi)
    (h1 : lo * D ≤ if ng then -(V : Int) else V) (h2 : (if ng then -(V : Int) else V) ≤ hi * D) :
    r < 9218868437227405312 ∧ lo ≤ sv (wordB ng r) ∧ sv (wordB ng r) ≤ hi := by
  obtain ⟨sl, hsl, hl⟩ := hl
  obtain ⟨sh, hsh, hh⟩ := hh
  obtain ⟨hr, hn⟩ := h
  rw [sv_word _ hr]
  have hD' : (0 : Int) < (D : Int) := by omega
  have nn : ∀ n : Nat, (0 : Int) ≤ (n : Int) := fun n => by omega
  -- a bound on the side of the sign holds the rung
  have up : ∀ s : Nat, s < 9218868437227405312 → (V : Int) ≤ (mgn s : Int) * D → r ≤ s := fun s hs hv => (hn s (by omega)).2 (by exact_mod_cast hv)
  have dn : ∀ s : Nat, s < 9218868437227405312 → (mgn s : Int) * D ≤ (V : Int) → s ≤ r := fun s hs hv => (hn s (by omega)).1 (by exact_mod_cast hv)
  cases ng
  · simp only [Bool.false_eq_true, if_false] at h1 h2 ⊢
    have hhi : hi = mgn sh ∨ (hi = -(mgn sh : Int) ∧ mgn sh = 0) := by
      rcases hh with hh | hh
      · exact .inl hh
      · right
        refine ⟨hh, ?_⟩
        by_cases h0 : mgn sh = 0
        · exact h0
        · have : hi * D < 0 := by
            rw [hh]
            exact Int.mul_neg_of_neg_of_pos (by omega) hD'
          have := nn V
          omega
    have hhi' : hi = mgn sh := by
      rcases hhi with h | ⟨h, h0⟩
      · exact h
      · omega
    rw [hhi'] at h2 ⊢
    have hrs := up sh hsh h2
    refine ⟨by omega, ?_, by have := mgn_le hrs; omega⟩
    rcases hl with hl | hl
    · rw [hl] at h1 ⊢
      have := mgn_le (dn sl hsl h1)
      omega
    · omega
  · simp only [if_true] at h1 h2 ⊢
    have hlo' : lo = -(mgn sl : Int) := by
      rcases hl with hl | hl
      · by_cases h0 : mgn sl = 0
        · omega
        · have : 0 < lo * D := by
            rw [hl]
            exact Int.mul_pos (by omega) hD'
          have := nn V
          omega
      · exact hl
    rw [hlo', Int.neg_mul] at h1
    rw [hlo']
    have hrs := up sl hsl (by omega)
    refine ⟨by omega, by have := mgn_le hrs; omega, ?_⟩
    rcases hh with hh | hh
    · omega
    · rw [hh, Int.neg_mul] at h2
      rw [hh]
      have := mgn_le (dn sh hsh (by omega))
      omega

theorem Bd.mono {x : Option Nat} {lo hi lo' hi' : Int} (h : Bd x lo hi) (h1 : lo' ≤ lo) (h2 : hi ≤ hi') : Bd x lo' hi' := by
  obtain ⟨b, h3, h4, h5, h6, h7⟩ := h
  exact ⟨b, h3, h4, h5, by omega, by omega⟩

theorem sv_zero {z : Nat} (h : z = 0 ∨ z = 9223372036854775808) : IsW z ∧ IsFin z ∧ sv z = 0 := by
  rcases h with rfl | rfl
  · exact ⟨isW_0, by unfold IsFin; omega, by decide +kernel⟩
  · exact ⟨by unfold IsW; omega, by unfold IsFin; omega, by decide +kernel⟩

theorem bd_sum {n : Int} {x : Option Nat} {lo hi : Int} (hl : Rep lo) (hh : Rep hi) (h1 : lo ≤ n) (h2 : n ≤ hi)
    (h : (n = 0 ∧ ∃ z, x = some z ∧ (z = 0 ∨ z = 9223372036854775808)) ∨ (n ≠ 0 ∧ ∃ r, x = some (wordB (decide (n < 0)) r) ∧ Near n.natAbs 1 r)) : Bd x lo hi := by
  rcases h with ⟨h0, z, hz, hz2⟩ | ⟨h0, r, hr, hn⟩
  · obtain ⟨a, b, c⟩ := sv_zero hz2
    exact ⟨z, hz, a, b, by omega, by omega⟩
  · have e : (if decide (n < 0) = true then -(n.natAbs : Int) else (n.natAbs : Int)) = n := by
      by_cases hs : n < 0
      · rw [if_pos (by simpa using hs)]; omega
      · rw [if_neg (by simpa using hs)]; omega
    obtain ⟨a, b, c⟩ := near_in (ng := decide (n < 0)) hn (by omega) hl hh (by rw [e]; omega) (by rw [e]; omega)
    exact ⟨_, hr, (wordB_facts _ (Nat.le_of_lt a)).1, fin_word _ a, b, c⟩

theorem Bd.add {x y : Option Nat} {l1 h1 l2 h2 lo hi : Int} (hx : Bd x l1 h1) (hy : Bd y l2 h2) (hl : Rep lo) (hh : Rep hi) (e1 : lo ≤ l1 + l2) (e2 : h1 + h2 ≤ hi) : Bd (fadd x y) lo hi := by
  obtain ⟨a, rfl, hwa, hfa, ha1, ha2⟩ := hx
  obtain ⟨b, rfl, hwb, hfb, hb1, hb2⟩ := hy
  exact bd_sum hl hh (by omega) (by omega) (fadd_spec hwa hwb hfa hfb)
theorem Bd.sub {x y : Option Nat} {l1 h1 l2 h2 lo hi : Int} (hx : Bd x l1 h1) (hy : Bd y l2 h2) (hl : Rep lo) (hh : Rep hi) (e1 : lo ≤ l1 - h2) (e2 : h1 - l2 ≤ hi) : Bd (fsub x y) lo hi := by
  obtain ⟨a, rfl, hwa, hfa, ha1, ha2⟩ := hx
  obtain ⟨b, rfl, hwb, hfb, hb1, hb2⟩ := hy
  exact bd_sum hl hh (by omega) (by omega) (fsub_spec hwa hwb hfa hfb)

theorem abs_le {n : Int} {p : Nat} (h1 : -(p : Int) ≤ n) (h2 : n ≤ p) : n.natAbs ≤ p := by omega
theorem Rep.neg {n : Int} (h : Rep n) : Rep (-n) := by
  obtain ⟨s, hs, h | h⟩ := h
  · exact ⟨s, hs, .inr (by rw [h])⟩
  · exact ⟨s, hs, .inl (by omega)⟩
theorem rep_zero : Rep 0 := ⟨0, by omega, .inl rfl⟩

/-- A product, by sizes. -/
theorem Bd.mul {x y : Option Nat} {p q h : Nat} (hx : Bd x (-(p : Int)) p) (hy : Bd y (-(q : Int)) q) (hh : Rep h) (e : p * q ≤ h * big 1074) : Bd (fmul x y) (-(h : Int)) h := by
  obtain ⟨a, rfl, hwa, hfa, ha1, ha2⟩ := hx
  obtain ⟨b, rfl, hwb, hfb, hb1, hb2⟩ := hy
  obtain ⟨r, hr, hn⟩ := fmul_spec hwa hwb hfa hfb
  have hma := abs_le ha1 ha2
  have hmb := abs_le hb1 hb2
  rw [mag_sv] at hma hmb
  have hV : mag a * mag b ≤ h * big 1074 := Nat.le_trans (Nat.mul_le_mul hma hmb) e
  have hV' : ((mag a * mag b : Nat) : Int) ≤ (h : Int) * (big 1074 : Nat) := by exact_mod_cast hV
  have h0 : (0 : Int) ≤ ((mag a * mag b : Nat) : Int) := by omega
  have h0' : (0 : Int) ≤ (h : Int) * (big 1074 : Nat) := by omega
  obtain ⟨u, v, w⟩ := near_in hn (big_pos 1074) hh.neg hh (by rw [Int.neg_mul]; split <;> omega) (by split <;> omega)
  exact ⟨_, hr, (wordB_facts _ (Nat.le_of_lt u)).1, fin_word _ u, v, w⟩
/-- .. of two that are not below 0. -/
theorem Bd.mul_pos {x y : Option Nat} {p q h : Nat} (hx : Bd x 0 p) (hy : Bd y 0 q) (hh : Rep h) (e : p * q ≤ h * big 1074) : Bd (fmul x y) 0 h := by
  obtain ⟨a, rfl, hwa, hfa, ha1, ha2⟩ := hx
  obtain ⟨b, rfl, hwb, hfb, hb1, hb2⟩ := hy
  obtain ⟨r, hr, hn⟩ := fmul_spec hwa hwb hfa hfb
  have hma := mag_sv a
  have hmb := mag_sv b
  have hV : mag a * mag b ≤ h * big 1074 := Nat.le_trans (Nat.mul_le_mul (show mag a ≤ p by omega) (show mag b ≤ q by omega)) e
  have hV' : ((mag a * mag b : Nat) : Int) ≤ (h : Int) * (big 1074 : Nat) := by exact_mod_cast hV
  have h0 : (0 : Int) ≤ ((mag a * mag b : Nat) : Int) := by omega
  have h0' : (0 : Int) ≤ (h : Int) * (big 1074 : Nat) := by omega
  have hs : (if (neg a ^^ neg b) = true then -((mag a * mag b : Nat) : Int) else ((mag a * mag b : Nat) : Int)) = ((mag a * mag b : Nat) : Int) := by
    split
    · rename_i hx
      rw [sv_neg] at ha1 hb1
      have : mag a * mag b = 0 := by
        cases h1 : neg a <;> cases h2 : neg b <;> rw [h1, h2] at hx <;> simp at hx <;> rw [h1] at ha1 <;> rw [h2] at hb1 <;> simp at ha1 hb1
        · rw [show mag b = 0 by omega]; simp
        · rw [show mag a = 0 by omega]; simp
      omega
    · rfl
  obtain ⟨u, v, w⟩ := near_in hn (big_pos 1074) rep_zero hh (by rw [hs]; omega) (by rw [hs]; omega)
  exact ⟨_, hr, (wordB_facts _ (Nat.le_of_lt u)).1, fin_word _ u, v, w⟩
/-- A quotient of two that are not below 0, the divisor above q. -/
theorem Bd.div_pos {x y : Option Nat} {p q h : Nat} {hi : Int} (hx : Bd x 0 p) (hy : Bd y q hi) (hq : 0 < q) (hh : Rep h) (e : p * big 1074 ≤ h * q) : Bd (fdiv x y) 0 h := by
  obtain ⟨a, rfl, hwa, hfa, ha1, ha2⟩ := hx
  obtain ⟨b, rfl, hwb, hfb, hb1, hb2⟩ := hy
  have hma := mag_sv a
  have hmb := mag_sv b
  obtain ⟨r, hr, hn⟩ := fdiv_spec hwa hwb hfa hfb (by omega)
  have hV : mag a * big 1074 ≤ h * mag b := Nat.le_trans (Nat.mul_le_mul_right _ (show mag a ≤ p by omega)) (Nat.le_trans e (Nat.mul_le_mul_left _ (show q ≤ mag b by omega)))
  have hV' : ((mag a * big 1074 : Nat) : Int) ≤ (h : Int) * (mag b : Nat) := by exact_mod_cast hV
  have h0 : (0 : Int) ≤ ((mag a * big 1074 : Nat) : Int) := by omega
  have hb0 : neg b = false := by
    rw [sv_neg] at hb1
    cases h1 : neg b
    · rfl
    · rw [h1] at hb1
      simp at hb1
      omega
  have hs : (if (neg a ^^ neg b) = true then -((mag a * big 1074 : Nat) : Int) else ((mag a * big 1074 : Nat) : Int)) = ((mag a * big 1074 : Nat) : Int) := by
    split
    · rename_i hx
      rw [hb0] at hx
      simp at hx
      rw [sv_neg, hx] at ha1
      simp at ha1
      rw [show mag a = 0 by omega]
      simp
    · rfl
  obtain ⟨u, v, w⟩ := near_in hn (by omega) rep_zero hh (by rw [hs]; omega) (by rw [hs]; omega)
  exact ⟨_, hr, (wordB_facts _ (Nat.le_of_lt u)).1, fin_word _ u, v, w⟩
end Go.Proofs.Ytnedjhoefmmelaa
