/- Gains: the functions of package gain on one or two numbers, and of its reference: what they give. Conditions: words have 64 bits. -/
import Derived.Test.YtfalbdlfopfgcaaGreatDoorAngle
namespace Go.Proofs.YtfalbdlfopfgcaaGreatDoor
open Go.RowKit

set_option maxHeartbeats 4000000 in
theorem Of_any (a b c d : Nat) (w : World) :
    Calls Tryz.prog 20 #[.complex .f64 a b, .complex .f64 c d] w (RetCE w (ofG (cv a b) (cv c d)) (ofE (cv a b) (cv c d))) := by
  obtain ⟨g, hg⟩ : ∃ g, ofG (cv a b) (cv c d) = g := ⟨_, rfl⟩
  obtain ⟨n, hn⟩ : ∃ n, ofE (cv a b) (cv c d) = n := ⟨_, rfl⟩
  rw [hg, hn]
  unfold ofG at hg
  rw [hn] at hg
  unfold ofE at hn
  have Hg := hid hg
  have Hn := hid hn
  clear hg hn
  by_cases h1 : cfin (cv a b) = true <;> try simp only [Bool.not_eq_true] at h1
  all_goals by_cases h2 : cfin (cv c d) = true <;> try simp only [Bool.not_eq_true] at h2
  all_goals by_cases h3 : czero (cv c d) = true <;> try simp only [Bool.not_eq_true] at h3
  all_goals by_cases h4 : cfin (cdiv (cv a b) (cv c d)) = true <;> try simp only [Bool.not_eq_true] at h4
  all_goals
    have hn := Hn.out
    have hg := Hg.out
    simp [h1, h2, h3, h4] at hn
    subst hn
    simp at hg
    clear Hn Hg
    subst hg
    go_enter Tryz.func20, Tryz.ntmps20
    go_wp2_with (first | (go_at_call 52; refine (Finite_any _ _ _).mono ?_; rintro e w' ⟨rfl, n, rfl⟩) | (go_at_call 53; refine (Zero_any _ _ _).mono ?_; rintro e w' ⟨rfl, rfl⟩) | (go_at_call 54; refine (Div_any _ _ _ _ _).mono ?_; rintro e w' ⟨x, y, rfl, ⟨n, rfl⟩, hr, hx, hy⟩))
    go_ret2
    exact ⟨_, _, rfl, (by first | with_reducible exact Dr.mk _ _ | with_reducible exact Dr.refl _), by first | rfl | assumption, (by first | with_reducible assumption | with_reducible exact isW_0 | with_reducible exact isW_inf), (by first | with_reducible assumption | with_reducible exact isW_0 | with_reducible exact isW_inf)⟩
/-- finite: a real, if it is one. -/
theorem finite_any (x : Nat) (w : World) (hx : IsW x) :
    Calls Tryz.prog 55 #[.float .f64 x] w (RetFE w (if fin (val x) = true then val x else val 0) (if fin (val x) = true then 0 else 6)) := by
  by_cases h : fin (val x) = true
  · rw [if_pos h, if_pos h]
    unfold fin at h
    go_enter Tryz.func55, Tryz.ntmps55
    go_wp2_with (first | ((with_reducible refine upon_fadd ?_); intro r n hr hl) | ((with_reducible refine upon_fsub ?_); intro r n hr hl) | ((with_reducible refine upon_fmul ?_); intro r n hr hl) | ((with_reducible refine upon_fdiv ?_); intro r n hr hl) | ((with_reducible refine upon_fmax (by assumption) (by assumption) ?_); intro r n hr hl) | ((with_reducible refine upon_fmin (by assumption) (by assumption) ?_); intro r n hr hl))
    go_ret2
    exact ⟨_, rfl, (by first | with_reducible exact Dr.mk _ _ | with_reducible exact Dr.refl _), rfl, (by first | with_reducible assumption | with_reducible exact isW_0 | with_reducible exact isW_inf)⟩
  · rw [if_neg h, if_neg h]
    unfold fin at h
    simp only [Bool.not_eq_true] at h
    go_enter Tryz.func55, Tryz.ntmps55
    go_wp2_with (first | ((with_reducible refine upon_fadd ?_); intro r n hr hl) | ((with_reducible refine upon_fsub ?_); intro r n hr hl) | ((with_reducible refine upon_fmul ?_); intro r n hr hl) | ((with_reducible refine upon_fdiv ?_); intro r n hr hl) | ((with_reducible refine upon_fmax (by assumption) (by assumption) ?_); intro r n hr hl) | ((with_reducible refine upon_fmin (by assumption) (by assumption) ?_); intro r n hr hl))
    go_ret2
    exact ⟨_, rfl, (by first | with_reducible exact Dr.mk _ _ | with_reducible exact Dr.refl _), rfl, (by first | with_reducible assumption | with_reducible exact isW_0 | with_reducible exact isW_inf)⟩

theorem finite_good (x : Nat) (w : World) (hx : IsW x) (h : fin (val x) = true) : Calls Tryz.prog 55 #[.float .f64 x] w (RetFE w (val x) 0) := by
  have := finite_any x w hx
  rwa [if_pos h, if_pos h] at this
theorem finite_bad (x : Nat) (w : World) (h : fin (val x) = false) : Calls Tryz.prog 55 #[.float .f64 x] w (RetFE w (val 0) 6) := by
  unfold fin at h
  go_enter Tryz.func55, Tryz.ntmps55
  go_wp2_with (first | ((with_reducible refine upon_fadd ?_); intro r n hr hl) | ((with_reducible refine upon_fsub ?_); intro r n hr hl) | ((with_reducible refine upon_fmul ?_); intro r n hr hl) | ((with_reducible refine upon_fdiv ?_); intro r n hr hl) | ((with_reducible refine upon_fmax (by assumption) (by assumption) ?_); intro r n hr hl) | ((with_reducible refine upon_fmin (by assumption) (by assumption) ?_); intro r n hr hl))
  go_ret2
  exact ⟨_, rfl, (by first | with_reducible exact Dr.mk _ _ | with_reducible exact Dr.refl _), rfl, (by first | with_reducible assumption | with_reducible exact isW_0 | with_reducible exact isW_inf)⟩

theorem Size_any (a b : Nat) (w : World) :
    Calls Tryz.prog 22 #[.complex .f64 a b] w (RetFE w (szG (cv a b) (absP (cv a b))) (szE (cv a b) (absP (cv a b)))) := by
  by_cases h : cfin (cv a b) = true
  · by_cases h2 : fin (absP (cv a b)) = true
    · rw [show szG (cv a b) (absP (cv a b)) = absP (cv a b) from by simp [szG, szE, h, h2], show szE (cv a b) (absP (cv a b)) = 0 from by simp [szE, h, h2]]
      go_enter Tryz.func22, Tryz.ntmps22
      go_wp2_with (first | (go_at_call 52; refine (Finite_any _ _ _).mono ?_; rintro e w' ⟨rfl, n, rfl⟩) | (go_at_call 56; refine (Abs_any _ _ _).mono ?_; rintro e w' ⟨x, rfl, ⟨n, rfl⟩, hr, hx⟩) | (go_at_call 55; refine (finite_good _ _ (by assumption) (by rw [hr]; assumption)).mono ?_; rintro e w' ⟨x, rfl, ⟨n, rfl⟩, hr, hx⟩))
      go_ret2
      exact ⟨_, rfl, (by first | with_reducible exact Dr.mk _ _ | with_reducible exact Dr.refl _), by simp [*], (by first | with_reducible assumption | with_reducible exact isW_0 | with_reducible exact isW_inf)⟩
    · simp only [Bool.not_eq_true] at h2
      rw [show szG (cv a b) (absP (cv a b)) = val 0 from by simp [szG, szE, h, h2], show szE (cv a b) (absP (cv a b)) = 6 from by simp [szE, h, h2]]
      go_enter Tryz.func22, Tryz.ntmps22
      go_wp2_with (first | (go_at_call 52; refine (Finite_any _ _ _).mono ?_; rintro e w' ⟨rfl, n, rfl⟩) | (go_at_call 56; refine (Abs_any _ _ _).mono ?_; rintro e w' ⟨x, rfl, ⟨n, rfl⟩, hr, hx⟩) | (go_at_call 55; refine (finite_bad _ _ (by rw [hr]; assumption)).mono ?_; rintro e w' ⟨x, rfl, ⟨n, rfl⟩, hr, hx⟩))
      go_ret2
      exact ⟨_, rfl, (by first | with_reducible exact Dr.mk _ _ | with_reducible exact Dr.refl _), by assumption, (by first | with_reducible assumption | with_reducible exact isW_0 | with_reducible exact isW_inf)⟩
  · simp only [Bool.not_eq_true] at h
    rw [show szG (cv a b) (absP (cv a b)) = val 0 from by simp [szG, szE, h], show szE (cv a b) (absP (cv a b)) = 5 from by simp [szE, h]]
    go_enter Tryz.func22, Tryz.ntmps22
    go_wp2_with (first | (go_at_call 52; refine (Finite_any _ _ _).mono ?_; rintro e w' ⟨rfl, n, rfl⟩))
    go_ret2
    exact ⟨_, rfl, (by first | with_reducible exact Dr.mk _ _ | with_reducible exact Dr.refl _), rfl, (by first | with_reducible assumption | with_reducible exact isW_0 | with_reducible exact isW_inf)⟩

theorem Power_any (a b : Nat) (w : World) :
    Calls Tryz.prog 23 #[.complex .f64 a b] w (RetFE w (szG (cv a b) (size2 (cv a b))) (szE (cv a b) (size2 (cv a b)))) := by
  by_cases h : cfin (cv a b) = true
  · by_cases h2 : fin (size2 (cv a b)) = true
    · rw [show szG (cv a b) (size2 (cv a b)) = size2 (cv a b) from by simp [szG, szE, h, h2], show szE (cv a b) (size2 (cv a b)) = 0 from by simp [szE, h, h2]]
      go_enter Tryz.func23, Tryz.ntmps23
      go_wp2_with (first | (go_at_call 52; refine (Finite_any _ _ _).mono ?_; rintro e w' ⟨rfl, n, rfl⟩) | (go_at_call 57; refine (Size2_any _ _ _).mono ?_; rintro e w' ⟨x, rfl, ⟨n, rfl⟩, hr, hx⟩) | (go_at_call 55; refine (finite_good _ _ (by assumption) (by rw [hr]; assumption)).mono ?_; rintro e w' ⟨x, rfl, ⟨n, rfl⟩, hr, hx⟩))
      go_ret2
      exact ⟨_, rfl, (by first | with_reducible exact Dr.mk _ _ | with_reducible exact Dr.refl _), by simp [*], (by first | with_reducible assumption | with_reducible exact isW_0 | with_reducible exact isW_inf)⟩
    · simp only [Bool.not_eq_true] at h2
      rw [show szG (cv a b) (size2 (cv a b)) = val 0 from by simp [szG, szE, h, h2], show szE (cv a b) (size2 (cv a b)) = 6 from by simp [szE, h, h2]]
      go_enter Tryz.func23, Tryz.ntmps23
      go_wp2_with (first | (go_at_call 52; refine (Finite_any _ _ _).mono ?_; rintro e w' ⟨rfl, n, rfl⟩) | (go_at_call 57; refine (Size2_any _ _ _).mono ?_; rintro e w' ⟨x, rfl, ⟨n, rfl⟩, hr, hx⟩) | (go_at_call 55; refine (finite_bad _ _ (by rw [hr]; assumption)).mono ?_; rintro e w' ⟨x, rfl, ⟨n, rfl⟩, hr, hx⟩))
      go_ret2
      exact ⟨_, rfl, (by first | with_reducible exact Dr.mk _ _ | with_reducible exact Dr.refl _), by assumption, (by first | with_reducible assumption | with_reducible exact isW_0 | with_reducible exact isW_inf)⟩
  · simp only [Bool.not_eq_true] at h
    rw [show szG (cv a b) (size2 (cv a b)) = val 0 from by simp [szG, szE, h], show szE (cv a b) (size2 (cv a b)) = 5 from by simp [szE, h]]
    go_enter Tryz.func23, Tryz.ntmps23
    go_wp2_with (first | (go_at_call 52; refine (Finite_any _ _ _).mono ?_; rintro e w' ⟨rfl, n, rfl⟩))
    go_ret2
    exact ⟨_, rfl, (by first | with_reducible exact Dr.mk _ _ | with_reducible exact Dr.refl _), rfl, (by first | with_reducible assumption | with_reducible exact isW_0 | with_reducible exact isW_inf)⟩

theorem Lag_any (a b : Nat) (w : World) :
    Calls Tryz.prog 24 #[.complex .f64 a b] w (RetFE w (lagG (cv a b) (angP (cv a b))) (angE (cv a b))) := by
  by_cases h : angE (cv a b) = 0
  · have hc : cfin (cv a b) = true ∧ czero (cv a b) = false := by
      unfold angE at h
      by_cases h1 : cfin (cv a b) = true
      · rw [if_pos h1] at h
        by_cases h2 : czero (cv a b) = true
        · rw [if_pos h2] at h; cases h
        · exact ⟨h1, by simpa using h2⟩
      · rw [if_neg h1] at h; cases h
    rw [show lagG (cv a b) (angP (cv a b)) = fsub (val 0) (angP (cv a b)) from by simp [lagG, h], h]
    clear h
    go_enter Tryz.func24, Tryz.ntmps24
    go_wp2_with (first | (go_at_call 58; refine (Angle_good _ _ _ hc.1 hc.2).mono ?_; rintro e w' ⟨x, rfl, ⟨n, rfl⟩, hr, hx⟩) | ((with_reducible refine upon_fadd ?_); intro r n hr hl) | ((with_reducible refine upon_fsub ?_); intro r n hr hl) | ((with_reducible refine upon_fmul ?_); intro r n hr hl) | ((with_reducible refine upon_fdiv ?_); intro r n hr hl) | ((with_reducible refine upon_fmax (by assumption) (by assumption) ?_); intro r n hr hl) | ((with_reducible refine upon_fmin (by assumption) (by assumption) ?_); intro r n hr hl))
    go_ret2
    exact ⟨_, rfl, (by first | with_reducible exact Dr.mk _ _ | with_reducible exact Dr.refl _), by simp [*], (by first | with_reducible assumption | with_reducible exact isW_0 | with_reducible exact isW_inf)⟩
  · have hc : cfin (cv a b) = false ∨ czero (cv a b) = true := by
      unfold angE at h
      by_cases h1 : cfin (cv a b) = true
      · rw [if_pos h1] at h
        by_cases h2 : czero (cv a b) = true
        · exact .inr h2
        · rw [if_neg h2] at h; exact absurd rfl h
      · exact .inl (by simpa using h1)
    rw [show lagG (cv a b) (angP (cv a b)) = val 0 from by simp [lagG, h]]
    have hb := Angle_bad a b w hc
    generalize angE (cv a b) = n at *
    have hn : (n != 0) = true := by rw [bne_iff_ne]; exact h
    clear h hc
    go_enter Tryz.func24, Tryz.ntmps24
    go_wp2_with (first | (go_at_call 58; refine hb.mono ?_; rintro e w' ⟨x, rfl, ⟨n, rfl⟩, hr, hx⟩) | ((with_reducible refine upon_fadd ?_); intro r n hr hl) | ((with_reducible refine upon_fsub ?_); intro r n hr hl) | ((with_reducible refine upon_fmul ?_); intro r n hr hl) | ((with_reducible refine upon_fdiv ?_); intro r n hr hl) | ((with_reducible refine upon_fmax (by assumption) (by assumption) ?_); intro r n hr hl) | ((with_reducible refine upon_fmin (by assumption) (by assumption) ?_); intro r n hr hl))
    go_ret2
    exact ⟨_, rfl, (by first | with_reducible exact Dr.mk _ _ | with_reducible exact Dr.refl _), rfl, (by first | with_reducible assumption | with_reducible exact isW_0 | with_reducible exact isW_inf)⟩

end Go.Proofs.YtfalbdlfopfgcaaGreatDoor

