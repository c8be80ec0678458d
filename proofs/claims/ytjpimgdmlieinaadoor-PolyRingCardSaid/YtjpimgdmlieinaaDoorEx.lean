/- Whole numbers below 2^53 as reals: sums, differences and products are exact; numbers of two whole parts likewise. No program; no condition but the bound. -/
import Derived.Test.YtjpimgdmlieinaaDoorFloat
import Derived.Test.YtjpimgdmlieinaaDoorMod
import Derived.Test.YtjpimgdmlieinaaDoorGau
namespace Go.Proofs.YtjpimgdmlieinaaDoor

theorem rep (n : Nat) (hn : n ≤ 9007199254740992) : ∃ s, s < 9218868437227405312 ∧ mgn s = n * big 1074 := by
  by_cases h0 : n = 0
  · subst h0
    exact ⟨0, by omega, by rw [mgn_zero, Nat.zero_mul]⟩
  · have hex : ∃ t, t ≤ 52 ∧ 4503599627370496 ≤ n * 2 ^ t ∧ n * 2 ^ t ≤ 9007199254740992 := by
      by_cases h1 : n = 9007199254740992
      · exact ⟨0, by omega, by omega, by omega⟩
      · have a1 := Nat.log2_self_le h0
        have a2 := @Nat.lt_log2_self n
        have a3 : n.log2 < 53 := by
          rw [← Nat.pow_lt_pow_iff_right (a := 2) (by omega)]
          omega
        refine ⟨52 - n.log2, by omega, ?_, ?_⟩
        · have := Nat.mul_le_mul_right (2 ^ (52 - n.log2)) a1
          rw [← Nat.pow_add, show n.log2 + (52 - n.log2) = 52 by omega] at this
          exact this
        · have := Nat.mul_le_mul_right (2 ^ (52 - n.log2)) (Nat.le_of_lt a2)
          rw [← Nat.pow_add, show n.log2 + 1 + (52 - n.log2) = 53 by omega] at this
          exact this
    obtain ⟨t, ht, h1, h2⟩ := hex
    refine ⟨(1074 - t) * 4503599627370496 + n * 2 ^ t, by omega, ?_⟩
    have e : 2 ^ (t + (1074 - t)) = big 1074 := congrArg big (by omega : t + (1074 - t) = 1074)
    rw [mgn_form _ _ (Or.inr h1) h2, Nat.mul_assoc, ← Nat.pow_add, e]
/-- The real a is the whole number n. -/
def Ez (x : Option Nat) (a : Int) : Prop := ∃ w, x = some w ∧ IsW w ∧ IsFin w ∧ sv w = a * ((big 1074 : Nat) : Int)
theorem bigZ : (0 : Int) < ((big 1074 : Nat) : Int) := by have := big_pos 1074; omega
theorem Ez.abs {w : Nat} {a : Int} (h : sv w = a * ((big 1074 : Nat) : Int)) : mag w = a.natAbs * big 1074 := by
  have := congrArg Int.natAbs h
  rw [Int.natAbs_mul, Int.natAbs_natCast] at this
  rw [← this]
  unfold sv mag
  split <;> simp
theorem ez_zero {z : Nat} (h : z = 0 ∨ z = 9223372036854775808) : Ez (some z) 0 := by
  refine ⟨z, rfl, ?_, ?_, ?_⟩
  · unfold IsW; omega
  · unfold IsFin; omega
  · rcases h with rfl | rfl
    · rw [Int.zero_mul]; decide +kernel
    · rw [Int.zero_mul]; decide +kernel
theorem ez_word {a : Int} {r : Nat} (neg : Bool) (hr : r < 9218868437227405312) (hm : mgn r = a.natAbs * big 1074) (hn : a < 0 → neg = true) (hp : 0 < a → neg = false) : Ez (some (wordB neg r)) a := by
  refine ⟨_, rfl, (wordB_facts neg (Nat.le_of_lt hr)).1, fin_word neg hr, ?_⟩
  rw [sv_word neg (Nat.le_of_lt hr), hm]
  rcases Int.lt_trichotomy a 0 with h | h | h
  · rw [hn h, if_pos rfl, Int.natCast_mul, ← Int.neg_mul]
    congr 1
    omega
  · subst h
    cases neg <;> simp
  · rw [hp h, if_neg (by simp), Int.natCast_mul]
    congr 1
    omega
theorem ez_sum {a : Int} {s : Int} {x : Option Nat} (hs : s = a * ((big 1074 : Nat) : Int)) (hb : a.natAbs ≤ 9007199254740992)
    (h : (s = 0 ∧ ∃ z, x = some z ∧ (z = 0 ∨ z = 9223372036854775808)) ∨ (s ≠ 0 ∧ ∃ r, x = some (wordB (decide (s < 0)) r) ∧ Near s.natAbs 1 r)) : Ez x a := by
  have hU := bigZ
  rcases h with ⟨h0, z, rfl, hz⟩ | ⟨h0, r, rfl, hr⟩
  · rw [hs] at h0
    rcases Int.mul_eq_zero.1 h0 with h | h
    · subst h; exact ez_zero hz
    · omega
  · obtain ⟨t, ht, hm⟩ := rep _ hb
    have hr2 := hr.exact (Nat.le_of_lt ht) (by rw [Nat.mul_one, hm, hs, Int.natAbs_mul, Int.natAbs_natCast])
    subst hr2
    refine ez_word _ ht hm (fun h => ?_) (fun h => ?_)
    · rw [decide_eq_true_eq, hs]
      exact Int.mul_neg_of_neg_of_pos h hU
    · rw [decide_eq_false_iff_not, hs]
      have := Int.mul_pos h hU
      omega
theorem ez_add {x y : Option Nat} {a b : Int} (h : Ez x a) (h' : Ez y b) (hb : (a + b).natAbs ≤ 9007199254740992) : Ez (fadd x y) (a + b) := by
  obtain ⟨v, rfl, hv, fv, ev⟩ := h
  obtain ⟨w, rfl, hw, fw, ew⟩ := h'
  exact ez_sum (by rw [ev, ew, Int.add_mul]) hb (fadd_spec hv hw fv fw)
theorem ez_sub {x y : Option Nat} {a b : Int} (h : Ez x a) (h' : Ez y b) (hb : (a - b).natAbs ≤ 9007199254740992) : Ez (fsub x y) (a - b) := by
  obtain ⟨v, rfl, hv, fv, ev⟩ := h
  obtain ⟨w, rfl, hw, fw, ew⟩ := h'
  exact ez_sum (by rw [ev, ew, Int.sub_mul]) hb (fsub_spec hv hw fv fw)
theorem sv_neg {w : Nat} {a : Int} (h : sv w = a * ((big 1074 : Nat) : Int)) : (a < 0 → neg w = true) ∧ (0 < a → neg w = false) := by
  have hU := bigZ
  constructor
  · intro ha
    have h1 := Int.mul_neg_of_neg_of_pos ha hU
    rw [← h] at h1
    unfold neg
    unfold sv at h1
    split at h1
    · simp [*]
    · omega
  · intro ha
    have h1 := Int.mul_pos ha hU
    rw [← h] at h1
    unfold neg
    unfold sv at h1
    split at h1
    · omega
    · simp; omega
theorem ez_mul {x y : Option Nat} {a b : Int} (h : Ez x a) (h' : Ez y b) (hb : (a * b).natAbs ≤ 9007199254740992) : Ez (fmul x y) (a * b) := by
  obtain ⟨v, rfl, hv, fv, ev⟩ := h
  obtain ⟨w, rfl, hw, fw, ew⟩ := h'
  obtain ⟨r, e, hr⟩ := fmul_spec hv hw fv fw
  rw [e]
  obtain ⟨t, ht, hm⟩ := rep _ hb
  have hr2 := hr.exact (Nat.le_of_lt ht) (by
    rw [Ez.abs ev, Ez.abs ew, hm, Int.natAbs_mul]
    simp only [Nat.mul_assoc, Nat.mul_left_comm, Nat.mul_comm])
  subst hr2
  obtain ⟨v1, v2⟩ := sv_neg ev
  obtain ⟨w1, w2⟩ := sv_neg ew
  refine ez_word _ ht hm (fun h => ?_) (fun h => ?_)
  · rcases Int.lt_trichotomy a 0 with ha | ha | ha
    · rcases Int.lt_trichotomy b 0 with hb | hb | hb
      · have := Int.mul_pos_of_neg_of_neg ha hb; omega
      · subst hb; simp at h
      · rw [v1 ha, w2 hb]; rfl
    · subst ha; simp at h
    · rcases Int.lt_trichotomy b 0 with hb | hb | hb
      · rw [v2 ha, w1 hb]; rfl
      · subst hb; simp at h
      · have := Int.mul_pos ha hb; omega
  · rcases Int.lt_trichotomy a 0 with ha | ha | ha
    · rcases Int.lt_trichotomy b 0 with hb | hb | hb
      · rw [v1 ha, w1 hb]; rfl
      · subst hb; simp at h
      · have := Int.mul_neg_of_neg_of_pos ha hb; omega
    · subst ha; simp at h
    · rcases Int.lt_trichotomy b 0 with hb | hb | hb
      · have := Int.mul_neg_of_pos_of_neg ha hb; omega
      · subst hb; simp at h
      · rw [v2 ha, w2 hb]; rfl
theorem ez_eq {x y : Option Nat} {a : Int} (h : Ez x a) (h' : Ez y a) : feq x y = true := by
  obtain ⟨v, rfl, hv, fv, ev⟩ := h
  obtain ⟨w, rfl, hw, fw, ew⟩ := h'
  rw [feq_key hv hw fv.nan fw.nan, decide_eq_true_eq]
  have h1 := @sv_lt v w hv hw
  have h2 := @sv_lt w v hw hv
  rw [ev, ew] at h1 h2
  omega
theorem ez_fin {x : Option Nat} {a : Int} (h : Ez x a) : fin x = true := by
  obtain ⟨v, rfl, hv, fv, ev⟩ := h
  have := val_fin hv fv
  rw [fv.val] at this
  exact this
theorem ez_uniq {x : Option Nat} {a b : Int} (h : Ez x a) (h' : Ez x b) : a = b := by
  obtain ⟨v, rfl, _, _, ev⟩ := h
  obtain ⟨w, e, _, _, ew⟩ := h'
  cases e
  rw [ev] at ew
  exact Int.eq_of_mul_eq_mul_right (by have := bigZ; omega) ew
def ezB (n : Int) : Bool := decide (ofInt n < 18446744073709551616) && decide (ofInt n % 9223372036854775808 < 9218868437227405312) && decide (sv (ofInt n) = n * ((big 1074 : Nat) : Int))
theorem ezB_all : ((List.range 40).all fun n => ezB ((n : Int) - 20)) = true := by decide +kernel
theorem ez_int {n : Int} (h1 : -20 ≤ n) (h2 : n < 20) : Ez (val (ofInt n)) n := by
  have h := List.all_eq_true.1 ezB_all (n + 20).toNat (List.mem_range.2 (by omega))
  rw [show (((n + 20).toNat : Nat) : Int) - 20 = n by omega] at h
  unfold ezB at h
  simp only [Bool.and_eq_true, decide_eq_true_eq] at h
  have hf : IsFin (ofInt n) := h.1.2
  exact ⟨ofInt n, hf.val, by unfold IsW; exact h.1.1, hf, h.2⟩

/-! ### Numbers of two whole parts -/
def Gz (c : CV) (g : G) : Prop := Ez c.1 g.1 ∧ Ez c.2 g.2
def n1 (g : G) : Nat := g.1.natAbs + g.2.natAbs
theorem n1_add (a b : G) : n1 (gadd a b) ≤ n1 a + n1 b := by unfold n1 gadd; simp only; omega
theorem n1_mul (a b : G) : n1 (gmul a b) ≤ n1 a * n1 b := by
  unfold n1 gmul
  simp only
  have e1 : (a.1 * b.1 - a.2 * b.2).natAbs ≤ a.1.natAbs * b.1.natAbs + a.2.natAbs * b.2.natAbs := by
    rw [← Int.natAbs_mul, ← Int.natAbs_mul]; omega
  have e2 : (a.1 * b.2 + a.2 * b.1).natAbs ≤ a.1.natAbs * b.2.natAbs + a.2.natAbs * b.1.natAbs := by
    rw [← Int.natAbs_mul, ← Int.natAbs_mul]; omega
  have e3 : (a.1.natAbs + a.2.natAbs) * (b.1.natAbs + b.2.natAbs) = a.1.natAbs * b.1.natAbs + a.2.natAbs * b.2.natAbs + (a.1.natAbs * b.2.natAbs + a.2.natAbs * b.1.natAbs) := by grind
  omega
theorem n1_parts (a b : G) : (a.1 * b.1).natAbs ≤ n1 a * n1 b ∧ (a.2 * b.2).natAbs ≤ n1 a * n1 b ∧ (a.1 * b.2).natAbs ≤ n1 a * n1 b ∧ (a.2 * b.1).natAbs ≤ n1 a * n1 b := by
  unfold n1
  simp only [Int.natAbs_mul]
  have e3 : (a.1.natAbs + a.2.natAbs) * (b.1.natAbs + b.2.natAbs) = a.1.natAbs * b.1.natAbs + a.2.natAbs * b.2.natAbs + (a.1.natAbs * b.2.natAbs + a.2.natAbs * b.1.natAbs) := by grind
  rw [e3]
  generalize a.1.natAbs * b.1.natAbs = x
  generalize a.2.natAbs * b.2.natAbs = y
  generalize a.1.natAbs * b.2.natAbs = u
  generalize a.2.natAbs * b.1.natAbs = v
  omega
theorem gzv_add {x y : CV} {a b : G} (h : Gz x a) (h' : Gz y b) (hb : n1 a + n1 b ≤ 9007199254740992) : Gz (cadd x y) (gadd a b) := by
  unfold n1 at hb
  exact ⟨ez_add h.1 h'.1 (by omega), ez_add h.2 h'.2 (by omega)⟩
theorem gzv_mul {x y : CV} {a b : G} (h : Gz x a) (h' : Gz y b) (hb : n1 a * n1 b ≤ 9007199254740992) : Gz (cmul x y) (gmul a b) := by
  obtain ⟨p1, p2, p3, p4⟩ := n1_parts a b
  have hm := n1_mul a b
  have hm1 : (gmul a b).1.natAbs ≤ n1 (gmul a b) := by unfold n1; omega
  have hm2 : (gmul a b).2.natAbs ≤ n1 (gmul a b) := by unfold n1; omega
  exact ⟨ez_sub (ez_mul h.1 h'.1 (by omega)) (ez_mul h.2 h'.2 (by omega)) (Nat.le_trans hm1 (by omega)), ez_add (ez_mul h.1 h'.2 (by omega)) (ez_mul h.2 h'.1 (by omega)) (Nat.le_trans hm2 (by omega))⟩
theorem gzv_sc {x : CV} {a : G} {n : Nat} (hn : n < 20) (h : Gz x a) (hb : n * n1 a ≤ 9007199254740992) : Gz (cscale (val (ofInt (n : Int))) x) (gsc n a) := by
  have hi := ez_int (n := (n : Int)) (by omega) (by omega)
  have e1 : ((n : Int) * a.1).natAbs ≤ n * n1 a := by
    rw [Int.natAbs_mul, Int.natAbs_natCast]
    exact Nat.mul_le_mul_left _ (by unfold n1; omega)
  have e2 : ((n : Int) * a.2).natAbs ≤ n * n1 a := by
    rw [Int.natAbs_mul, Int.natAbs_natCast]
    exact Nat.mul_le_mul_left _ (by unfold n1; omega)
  exact ⟨ez_mul hi h.1 (by omega), ez_mul hi h.2 (by omega)⟩
theorem gz_fin {x : CV} {a : G} (h : Gz x a) : cfin x = true := by
  unfold cfin
  rw [ez_fin h.1, ez_fin h.2]
  rfl
theorem gz_eq {x y : CV} {a : G} (h : Gz x a) (h' : Gz y a) : (feq x.1 y.1 && feq x.2 y.2) = true := by
  rw [ez_eq h.1 h'.1, ez_eq h.2 h'.2]
  rfl
theorem gz_uniq {x : CV} {a b : G} (h : Gz x a) (h' : Gz x b) : a = b := Prod.ext (ez_uniq h.1 h'.1) (ez_uniq h.2 h'.2)
theorem gz_zero : Gz (val 0, val 0) g0 := ⟨ez_zero (Or.inl rfl), ez_zero (Or.inl rfl)⟩
end Go.Proofs.YtjpimgdmlieinaaDoor
