/- A number by itself gains 1; a conjugate lags by the opposite. No program; conditions: words of 64 bits. -/
import Derived.Test.YtnedjhoefmmelaaAngLaw
namespace Go.Proofs.Ytnedjhoefmmelaa

/-- A finite real of this value. -/
def Vl (x : Option Nat) (n : Int) : Prop := ∃ b, x = some b ∧ IsW b ∧ IsFin b ∧ sv b = n
theorem vl_bd {x : Option Nat} {n : Int} (h : Vl x n) : Bd x n n := by
  obtain ⟨b, h1, h2, h3, h4⟩ := h
  exact ⟨b, h1, h2, h3, by omega, by omega⟩
theorem bd_vl {x : Option Nat} {n : Int} (h : Bd x n n) : Vl x n := by
  obtain ⟨b, h1, h2, h3, h4, h5⟩ := h
  exact ⟨b, h1, h2, h3, by omega⟩
theorem vl_some {x : Nat} {n : Int} (h : Vl (some x) n) : IsW x ∧ IsFin x ∧ sv x = n := by
  obtain ⟨b, h1, h2, h3, h4⟩ := h
  cases h1
  exact ⟨h2, h3, h4⟩
theorem vl_rep {x : Option Nat} {n : Int} (h : Vl x n) : Rep n := by
  obtain ⟨b, _, h2, h3, rfl⟩ := h
  refine ⟨b % 9223372036854775808, h3, ?_⟩
  unfold sv
  split
  · exact .inr rfl
  · exact .inl rfl
theorem vl_zero : Vl (val 0) 0 := ⟨0, by decide +kernel, isW_0, by unfold IsFin; omega, by decide +kernel⟩
theorem vl_neg0 {x : Option Nat} {n : Int} (h : Vl x n) : Vl (fsub (val 0) x) (-n) :=
  bd_vl ((vl_bd vl_zero).sub (vl_bd h) (vl_rep h).neg (vl_rep h).neg (by omega) (by omega))
theorem negB_facts {b : Nat} (hw : IsW b) : IsW (negB b) ∧ (negB b) % 9223372036854775808 = b % 9223372036854775808 ∧ sv (negB b) = -sv b := by
  have hm := negB_mod b
  have hw2 := isW_neg hw
  refine ⟨hw2, hm, ?_⟩
  have hx : b = 9223372036854775808 ^^^ negB b := by
    unfold negB
    rw [Nat.xor_comm b, ← Nat.xor_assoc, Nat.xor_self, Nat.zero_xor]
  have hne : (9223372036854775808 ≤ negB b) ↔ ¬ 9223372036854775808 ≤ b := by
    have h1 : (negB b).testBit 63 = !(b.testBit 63) := by
      unfold negB
      rw [Nat.testBit_xor, show (9223372036854775808 : Nat).testBit 63 = true from by decide]
      simp
    have h2 : ∀ x, IsW x → (x.testBit 63 = true ↔ 9223372036854775808 ≤ x) := by
      intro x hx
      unfold IsW at hx
      rw [Nat.testBit_eq_decide_div_mod_eq, show (2 : Nat) ^ 63 = 9223372036854775808 from by decide, decide_eq_true_eq]
      omega
    rw [← h2 _ hw2, ← h2 _ hw, h1]
    simp
  unfold sv
  rw [hm]
  by_cases h : 9223372036854775808 ≤ b
  · rw [if_neg (by rw [hne]; simp [h]), if_pos h]; omega
  · rw [if_pos (hne.2 h), if_neg h]
theorem vl_fneg {x : Option Nat} {n : Int} (h : Vl x n) : Vl (fneg x) (-n) := by
  obtain ⟨b, rfl, h2, h3, rfl⟩ := h
  obtain ⟨a1, a2, a3⟩ := negB_facts h2
  exact ⟨negB b, rfl, a1, by unfold IsFin at *; omega, a3⟩
theorem vl_feq {x y : Option Nat} {n m : Int} (h : Vl x n) (k : Vl y m) : feq x y = decide (n = m) := by
  obtain ⟨a, rfl, h2, h3, rfl⟩ := h
  obtain ⟨b, rfl, k2, k3, rfl⟩ := k
  simp only [feq, ford, Option.bind_some, order_fin h2 k2 h3 k3, compare, compareOfLessAndEq]
  by_cases e1 : sv a < sv b
  · simp [e1]; omega
  · by_cases e2 : sv a = sv b
    · simp [e2]
    · simp [e1, e2]
theorem vl_flt {x y : Option Nat} {n m : Int} (h : Vl x n) (k : Vl y m) : flt x y = decide (n < m) := by
  obtain ⟨a, rfl, h2, h3, rfl⟩ := h
  obtain ⟨b, rfl, k2, k3, rfl⟩ := k
  rw [flt_sv h2 k2 h3 k3]
theorem vl_fle {x y : Option Nat} {n m : Int} (h : Vl x n) (k : Vl y m) : fle x y = decide (n ≤ m) := by
  obtain ⟨a, rfl, h2, h3, rfl⟩ := h
  obtain ⟨b, rfl, k2, k3, rfl⟩ := k
  simp only [fle, ford, Option.bind_some, order_fin h2 k2 h3 k3, compare, compareOfLessAndEq]
  by_cases e1 : sv a < sv b
  · simp [e1]; omega
  · by_cases e2 : sv a = sv b
    · simp [e2]
    · simp [e1, e2]; omega
theorem vl_val {b : Nat} (hw : IsW b) (hf : IsFin b) : Vl (val b) (sv b) := ⟨b, hf.val, hw, hf, rfl⟩

theorem fmin_sv {a b : Nat} (ha : IsW a) (hb : IsW b) (hfa : IsFin a) (hfb : IsFin b) :
    ∃ m, fmin (some a) (some b) = some m ∧ IsW m ∧ IsFin m ∧ sv m = min (sv a) (sv b) := by
  have ho := order_fin ha hb hfa hfb
  have hmin : min (sv a) (sv b) = if sv a ≤ sv b then sv a else sv b := rfl
  rw [hmin]
  simp only [fmin, Option.bind_some, ho]
  by_cases h1 : sv a < sv b
  · rw [show compare (sv a) (sv b) = .lt from by simp only [compare, compareOfLessAndEq, if_pos h1]]
    exact ⟨a, rfl, ha, hfa, by rw [if_pos (Int.le_of_lt h1)]⟩
  · by_cases h2 : sv a = sv b
    · rw [show compare (sv a) (sv b) = .eq from by simp only [compare, compareOfLessAndEq, if_neg h1, if_pos h2]]
      refine ⟨_, rfl, by split <;> assumption, by split <;> assumption, ?_⟩
      rw [if_pos (show sv a ≤ sv b from Int.le_of_eq h2)]
      split
      · rfl
      · exact h2.symm
    · rw [show compare (sv a) (sv b) = .gt from by simp only [compare, compareOfLessAndEq, if_neg h1, if_neg h2]]
      exact ⟨b, rfl, hb, hfb, by rw [if_neg (show ¬ sv a ≤ sv b by omega)]⟩

theorem sv_size {b : Nat} (_hf : IsFin b) : IsW (sizeB b) ∧ IsFin (sizeB b) ∧ sv (sizeB b) = (mag b : Int) := by
  refine ⟨isW_size b, _hf.size, ?_⟩
  unfold sv sizeB mag
  rw [if_neg (by omega), Nat.mod_mod]

/-- The tangent: from 0 to 1; 0 where one size is 0. -/
theorem bd_tan {a b : Nat} (hfa : IsFin a) (hfb : IsFin b) (h0 : mag a ≠ 0 ∨ mag b ≠ 0) :
    Bd (fdiv (fmin (fsize (val a)) (fsize (val b))) (fmax (fsize (val a)) (fsize (val b)))) 0 ((1 * O : Nat) : Int) ∧
    (mag b = 0 → Bd (fdiv (fmin (fsize (val a)) (fsize (val b))) (fmax (fsize (val a)) (fsize (val b)))) 0 0) := by
  obtain ⟨wa, fa, sa⟩ := sv_size hfa
  obtain ⟨wb, fb, sb⟩ := sv_size hfb
  rw [← val_size, ← val_size, fa.val, fb.val]
  obtain ⟨m, hm, mw, mf, ms⟩ := fmin_sv wa wb fa fb
  obtain ⟨n, hn, nw, nf, ns⟩ := fmax_sv wa wb fa fb
  rw [hm, hn]
  have key : ∀ (p h : Nat), min (mag a) (mag b) ≤ p → Rep h → p * big 1074 ≤ h * max (mag a) (mag b) → Bd (fdiv (some m) (some n)) 0 h := by
    intro p h hp hr he
    have h1 : Bd (some m) 0 p := ⟨m, rfl, mw, mf, by omega, by omega⟩
    have h2 : Bd (some n) ((max (mag a) (mag b) : Nat) : Int) ((max (mag a) (mag b) : Nat) : Int) := ⟨n, rfl, nw, nf, by omega, by omega⟩
    exact h1.div_pos h2 (by omega) hr he
  constructor
  · refine key (max (mag a) (mag b)) (1 * O) (by omega) rep1 ?_
    rw [Nat.mul_comm, O_eq, Nat.one_mul]
    exact Nat.le_refl _
  · intro hb0
    exact key 0 0 (by omega) rep_zero (by rw [Nat.zero_mul]; exact Nat.zero_le _)

theorem ang_zero {t : Option Nat} (h : Bd t 0 0) : Vl (angV (angTs 3 t)) 0 := by
  obtain ⟨b, rfl, hw, hf, h1, h2⟩ := h
  have hm : mag b = 0 := by
    have := mag_sv b
    omega
  have hb : b = 0 ∨ b = 9223372036854775808 := by
    have h3 : b % 9223372036854775808 ≤ 0 := mgn_none (D := 1) (by omega) (by unfold mag at hm; omega)
    unfold IsW at hw
    omega
  have hq : ∀ x : Option Nat, (match x with | none => false | some b => b == 0 || b == 9223372036854775808) = true → Vl x 0 := by
    intro x hx
    cases x with
    | none => cases hx
    | some y =>
      simp at hx
      obtain ⟨a, b, c⟩ := sv_zero hx
      exact ⟨y, rfl, a, b, c⟩
  rcases hb with rfl | rfl
  · exact hq _ (by decide +kernel)
  · exact hq _ (by decide +kernel)

theorem fin_neg {b : Nat} (hw : IsW b) : fin (fneg (val b)) = fin (val b) := by
  rw [← val_neg, Bool.eq_iff_iff]
  obtain ⟨a1, a2, _⟩ := negB_facts hw
  constructor
  · intro h
    have := fin_val a1 h
    exact val_fin hw (by unfold IsFin at *; omega)
  · intro h
    have := fin_val hw h
    exact val_fin a1 (by unfold IsFin at *; omega)
theorem angE_conj {a b : Nat} (ha : IsW a) (hb : IsW b) : angE (cconj (cv a b)) = angE (cv a b) := by
  have h1 : cfin (cconj (cv a b)) = cfin (cv a b) := by simp only [cfin, cconj, cv, fin_neg hb]
  unfold angE
  rw [h1]
  by_cases h : cfin (cv a b) = true
  · obtain ⟨hfa, hfb⟩ := cfin_parts ha hb h
    have h2 : feq (fneg (val b)) (val 0) = feq (val b) (val 0) := by
      rw [vl_feq (vl_fneg (vl_val hb hfb)) vl_zero, vl_feq (vl_val hb hfb) vl_zero, decide_eq_decide]
      omega
    have h3 : czero (cconj (cv a b)) = czero (cv a b) := by simp only [czero, cconj, cv, h2]
    rw [h3]
  · simp [h]

/-- A CONJUGATE LAGS BY THE OPPOSITE, but on the left half of the axis of re. -/
theorem lag_conj {a b : Nat} (ha : IsW a) (hb : IsW b) (h : angE (cv a b) = 0) :
    feq (lagG (cv a b) (angP (cv a b))) (fneg (lagG (cconj (cv a b)) (angP (cconj (cv a b))))) = true ∨ (feq (val b) (val 0) = true ∧ flt (val a) (val 0) = true) := by
  have hc : cfin (cv a b) = true ∧ czero (cv a b) = false := by
    unfold angE at h
    by_cases h1 : cfin (cv a b) = true
    · refine ⟨h1, ?_⟩
      rw [if_pos h1] at h
      cases h2 : czero (cv a b)
      · rfl
      · rw [h2] at h; simp at h
    · rw [if_neg h1] at h; cases h
  obtain ⟨hcf, hcz⟩ := hc
  obtain ⟨hfa, hfb⟩ := cfin_parts ha hb hcf
  have va := vl_val ha hfa
  have vb := vl_val hb hfb
  have hz : ¬ (sv a = 0 ∧ sv b = 0) := by
    intro ⟨h1, h2⟩
    simp only [czero, cv, vl_feq va vl_zero, vl_feq vb vl_zero, h1, h2] at hcz
    simp at hcz
  have hm0 : mag a ≠ 0 ∨ mag b ≠ 0 := by
    have h1 := mag_sv a
    have h2 := mag_sv b
    omega
  obtain ⟨bt, bt0⟩ := bd_tan hfa hfb hm0
  obtain ⟨V, hV⟩ : ∃ V, V = angR (flt (val a) (val 0)) (angB (flt (fsize (val a)) (fsize (val b))) (angV (angTs 3 (fdiv (fmin (fsize (val a)) (fsize (val b))) (fmax (fsize (val a)) (fsize (val b))))))) := ⟨_, rfl⟩
  obtain ⟨v, hv1, hv2, hv3, _, _⟩ := bd_R bt (flt (val a) (val 0)) (flt (fsize (val a)) (fsize (val b)))
  have hVl : Vl V (sv v) := ⟨v, by rw [hV]; exact hv1, hv2, hv3, rfl⟩
  have hss : ∀ x, fsize (fneg (val x)) = fsize (val x) := by
    intro x
    rw [← val_neg, ← val_size, ← val_size]
    congr 1
    unfold sizeB
    exact negB_mod x
  have e1 : angP (cv a b) = angI (flt (val b) (val 0)) V := by rw [hV]; rfl
  have e2 : angP (cconj (cv a b)) = angI (flt (fneg (val b)) (val 0)) V := by
    rw [hV]
    simp only [angP, angW, cconj, cv, hss]
  have f1 : flt (val b) (val 0) = decide (sv b < 0) := vl_flt vb vl_zero
  have f2 : flt (fneg (val b)) (val 0) = decide (-sv b < 0) := vl_flt (vl_fneg vb) vl_zero
  unfold lagG
  rw [angE_conj ha hb, if_pos h, if_pos h, e1, e2, f1, f2]
  rcases Int.lt_trichotomy (sv b) 0 with hs | hs | hs
  · left
    rw [show decide (sv b < 0) = true from by simpa using hs, show decide (-sv b < 0) = false from by simp; omega]
    simp only [angI, if_true, Bool.false_eq_true, if_false]
    rw [vl_feq (vl_neg0 (vl_neg0 hVl)) (vl_fneg (vl_neg0 hVl))]
    simp
  · by_cases hsa : sv a < 0
    · right
      rw [vl_feq vb vl_zero, vl_flt va vl_zero]
      simp [hs, hsa]
    · left
      have hb0 : mag b = 0 := by
        have := mag_sv b
        omega
      have hV0 : Vl V 0 := by
        rw [hV, vl_flt va vl_zero, show decide (sv a < 0) = false from by simpa using hsa]
        obtain ⟨wa, fa, sa⟩ := sv_size hfa
        obtain ⟨wb, fb, sb⟩ := sv_size hfb
        have hlt : flt (fsize (val a)) (fsize (val b)) = false := by
          rw [← val_size, ← val_size, vl_flt (vl_val wa fa) (vl_val wb fb), sa, sb, hb0]
          simp
        rw [hlt]
        simp only [angR, angB, Bool.false_eq_true, if_false]
        exact ang_zero (bt0 hb0)
      rw [hs]
      simp only [angI, Int.neg_zero, Int.lt_irrefl, decide_false, Bool.false_eq_true, if_false]
      rw [vl_feq (vl_neg0 hV0) (vl_fneg (vl_neg0 hV0))]
      simp
  · left
    rw [show decide (sv b < 0) = false from by simp; omega, show decide (-sv b < 0) = true from by simp; omega]
    simp only [angI, if_true, Bool.false_eq_true, if_false]
    rw [vl_feq (vl_neg0 hVl) (vl_fneg (vl_neg0 (vl_neg0 hVl)))]
    simp

/-- A quotient of a real by itself, if it is finite, is 1. -/
theorem fdiv_self {x : Nat} (hw : IsW x) (h : fin (fdiv (val x) (val x)) = true) : fdiv (val x) (val x) = one := by
  have hone : one = some 4607182418800017408 := by decide +kernel
  have hnone : ¬ fin none = true := by decide
  by_cases hf : IsFin x
  · by_cases h0 : mag x = 0
    · have hx : x = 0 ∨ x = 9223372036854775808 := by
        have h3 : x % 9223372036854775808 ≤ 0 := mgn_none (D := 1) (by omega) (by unfold mag at h0; omega)
        unfold IsW at hw
        omega
      exfalso
      rcases hx with rfl | rfl
      · exact hnone (by rw [show fdiv (val 0) (val 0) = none from by decide +kernel] at h; exact h)
      · exact hnone (by rw [show fdiv (val 9223372036854775808) (val 9223372036854775808) = none from by decide +kernel] at h; exact h)
    · obtain ⟨r, hr, hn⟩ := fdiv_spec hw hw hf hf h0
      have hr1 : r = 4607182418800017408 := hn.exact (by omega) (by rw [show mgn 4607182418800017408 = big 1074 from by decide +kernel, Nat.mul_comm])
      rw [hf.val, hr, hone, hr1]
      simp [wordB]
  · exfalso
    cases hn : nanB x
    · rw [nan_iff] at hn
      unfold IsFin at hf
      have hx : x = 9218868437227405312 ∨ x = 18442240474082181120 := by
        unfold IsW at hw
        omega
      rcases hx with rfl | rfl
      · exact hnone (by rw [show fdiv (val 9218868437227405312) (val 9218868437227405312) = none from by decide +kernel] at h; exact h)
      · exact hnone (by rw [show fdiv (val 18442240474082181120) (val 18442240474082181120) = none from by decide +kernel] at h; exact h)
    · rw [val_none hn] at h
      exact hnone h

theorem fop_w (op : BinOp) (x y : Option Nat) : fop op x y = none ∨ ∃ b, fop op x y = val b ∧ IsW b := by
  cases h : fop op x y with
  | none => exact .inl rfl
  | some r =>
    right
    unfold fop at h
    cases x with
    | none => cases h
    | some a =>
      cases y with
      | none => cases h
      | some b =>
        obtain ⟨_, _, h3, h4⟩ := floatBits_parts h
        exact ⟨r, (val_some h3).symm, h4⟩
/-- A NUMBER BY ITSELF GAINS 1 IN ITS RE. -/
theorem of_self {z : CV} (h : ofE z z = 0) : (ofG z z).1 = one := by
  unfold ofG
  rw [if_pos h]
  unfold ofE at h
  split at h
  · split at h
    · cases h
    · split at h
      · rename_i hfin
        have h1 : fin (cdiv z z).1 = true := by
          unfold cfin at hfin
          simp at hfin
          exact hfin.1
        have hx : ∃ x, (x = none ∨ ∃ b, x = val b ∧ IsW b) ∧ (cdiv z z).1 = fdiv x x := by
          unfold cdiv
          split
          · exact ⟨_, fop_w _ _ _, rfl⟩
          · exact ⟨_, fop_w _ _ _, rfl⟩
        obtain ⟨x, hx, he⟩ := hx
        rw [he] at h1 ⊢
        rcases hx with rfl | ⟨b, rfl, hb⟩
        · cases h1
        · exact fdiv_self hb h1
      · cases h
  · cases h
end Go.Proofs.Ytnedjhoefmmelaa
