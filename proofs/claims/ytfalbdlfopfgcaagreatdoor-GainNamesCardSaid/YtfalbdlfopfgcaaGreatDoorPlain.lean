/- Plain laws on reals: what is finite; sizes and angles computed in two ways are the same. No program; conditions: words of 64 bits, finite parts. -/
import Derived.Test.YtfalbdlfopfgcaaGreatDoorOrd
namespace Go.Proofs.YtfalbdlfopfgcaaGreatDoor

/-- Is a word a finite real? -/
def IsFin (b : Nat) : Prop := b % 9223372036854775808 < 9218868437227405312

theorem IsFin.nan {b : Nat} (h : IsFin b) : nanB b = false := by
  unfold IsFin at h
  rw [nan_iff]
  omega
theorem IsFin.val {b : Nat} (h : IsFin b) : val b = some b := val_some h.nan

theorem fin_val {b : Nat} (hw : IsW b) (h : fin (val b) = true) : IsFin b := by
  cases hn : nanB b
  · rw [nan_iff] at hn
    unfold IsFin
    by_cases hi : b % 9223372036854775808 = 9218868437227405312
    · exfalso
      have hr := read_inf hw hi
      have hs : floatBits .sub .f64 b b = none := by
        show ((Ieee.double.read b).sum (Ieee.double.read b).opposite).map Ieee.double.write = none
        rw [hr]
        cases decide (9223372036854775808 ≤ b) <;> rfl
      unfold fin fsub at h
      rw [val_fop, hs] at h
      simp [feq, ford] at h
    · omega
  · rw [val_none hn] at h
    simp [fin, fsub, fop, feq, ford] at h

theorem val_fin {b : Nat} (hw : IsW b) (h : IsFin b) : fin (val b) = true := by
  obtain ⟨m, p, hr, _, _⟩ := read_fin hw h
  have hs : floatBits .sub .f64 b b = some 0 := by
    show ((Ieee.double.read b).sum (Ieee.double.read b).opposite).map Ieee.double.write = some 0
    rw [hr]
    have hz : ∀ (s : Bool) (k : Nat), Ieee.signed s m k + Ieee.signed (!s) m k = 0 := by
      intro s k
      unfold Ieee.signed
      cases s <;> simp <;> omega
    simp only [Ieee.Datum.opposite, Ieee.Datum.sum, hz, Option.map_some, if_true, Int.natAbs_zero]
    cases decide (9223372036854775808 ≤ b) <;> rfl
  unfold fin fsub
  rw [val_fop, hs]
  decide +kernel

theorem key_size (b : Nat) : key (sizeB b) = (b % 9223372036854775808 : Nat) := by
  unfold key sizeB
  rw [if_pos (by omega)]
theorem IsFin.size {b : Nat} (h : IsFin b) : IsFin (sizeB b) := by
  unfold IsFin sizeB at *
  omega

theorem isInf_fin {b : Nat} (h : IsFin b) : isInf (val b) = false := by
  unfold isInf
  rw [← val_size, h.size.val, show val 9218868437227405311 = some 9218868437227405311 from by decide +kernel, flt_key (by unfold IsW; omega) (isW_size b) (by decide +kernel) h.size.nan, key_size]
  unfold IsFin at h
  rw [decide_eq_false_iff_not, show key 9218868437227405311 = 9218868437227405311 from by decide +kernel]
  omega
theorem feqInf_fin {b : Nat} (h : IsFin b) : feq (fsize (val b)) inf = false := by
  unfold inf
  rw [← val_size, h.size.val, show val 9218868437227405312 = some 9218868437227405312 from by decide +kernel, feq_key (isW_size b) isW_inf h.size.nan (by decide +kernel), key_size]
  unfold IsFin at h
  rw [decide_eq_false_iff_not, show key 9218868437227405312 = 9218868437227405312 from by decide +kernel]
  omega
theorem feq_refl_fin {b : Nat} (hw : IsW b) (h : IsFin b) : feq (val b) (val b) = true := by
  rw [h.val, feq_key hw hw h.nan h.nan]
  simp

theorem abs_same {a b : Nat} (ha : IsFin a) (hb : IsFin b) : absP (cv a b) = absR (cv a b) := by
  have ea := feq_refl_fin (isW_size a) ha.size
  have eb := feq_refl_fin (isW_size b) hb.size
  rw [val_size] at ea eb
  simp only [absP, absR, cv, isInf_fin ha, isInf_fin hb, feqInf_fin ha, feqInf_fin hb, ea, eb]
  simp

theorem ang_same {a b : Nat} (ha : IsFin a) (hb : IsFin b) : angP (cv a b) = angRef (cv a b) := by
  have hwa := isW_size a
  have hwb := isW_size b
  have hna := ha.size.nan
  have hnb := hb.size.nan
  have hk := key_size a
  have hl := key_size b
  show angW (cv a b) (fdiv (fmin (fsize (val a)) (fsize (val b))) (fmax (fsize (val a)) (fsize (val b)))) =
    angW (cv a b) (if flt (fsize (val b)) (fsize (val a)) = true then fdiv (fsize (val b)) (fsize (val a)) else fdiv (fsize (val a)) (fsize (val b)))
  congr 1
  rw [← val_size, ← val_size, ha.size.val, hb.size.val, flt_key hwb hwa hnb hna]
  have ho := order_key hwa hwb hna hnb
  have hab : key (sizeB a) = key (sizeB b) → sizeB a = sizeB b := by
    intro h
    rw [hk, hl] at h
    unfold sizeB
    omega
  clear hk hl
  rcases Int.lt_trichotomy (key (sizeB a)) (key (sizeB b)) with h | h | h
  · rw [show compare (key (sizeB a)) (key (sizeB b)) = .lt from by simp only [compare, compareOfLessAndEq]; rw [if_pos h]] at ho
    have h2 : ¬ decide (key (sizeB b) < key (sizeB a)) = true := by rw [decide_eq_true_eq]; omega
    rw [if_neg h2]
    simp only [fmin, fmax, Option.bind_some, ho]
  · rw [show compare (key (sizeB a)) (key (sizeB b)) = .eq from by simp only [compare, compareOfLessAndEq]; rw [if_neg (by omega), if_pos h]] at ho
    have h2 : ¬ decide (key (sizeB b) < key (sizeB a)) = true := by rw [decide_eq_true_eq]; omega
    rw [if_neg h2]
    simp only [fmin, fmax, Option.bind_some, ho]
    rw [hab h]
    simp
  · rw [show compare (key (sizeB a)) (key (sizeB b)) = .gt from by simp only [compare, compareOfLessAndEq]; rw [if_neg (by omega), if_neg (by omega)]] at ho
    have h2 : decide (key (sizeB b) < key (sizeB a)) = true := by rw [decide_eq_true_eq]; omega
    rw [if_pos h2]
    simp only [fmin, fmax, Option.bind_some, ho]
theorem cfin_parts {a b : Nat} (ha : IsW a) (hb : IsW b) (h : cfin (cv a b) = true) : IsFin a ∧ IsFin b := by
  simp only [cfin, cv, Bool.and_eq_true] at h
  exact ⟨fin_val ha h.1, fin_val hb h.2⟩
theorem sz_same {a b : Nat} (ha : IsW a) (hb : IsW b) : szE (cv a b) (absP (cv a b)) = szE (cv a b) (absR (cv a b)) ∧ szG (cv a b) (absP (cv a b)) = szG (cv a b) (absR (cv a b)) := by
  by_cases h : cfin (cv a b) = true
  · obtain ⟨h1, h2⟩ := cfin_parts ha hb h
    rw [abs_same h1 h2]
    exact ⟨rfl, rfl⟩
  · simp [szG, szE, h]
theorem lag_same {a b : Nat} (ha : IsW a) (hb : IsW b) : lagG (cv a b) (angP (cv a b)) = lagG (cv a b) (angRef (cv a b)) := by
  by_cases h : cfin (cv a b) = true
  · obtain ⟨h1, h2⟩ := cfin_parts ha hb h
    rw [ang_same h1 h2]
  · simp [lagG, angE, h]
end Go.Proofs.YtfalbdlfopfgcaaGreatDoor

