/- The size of a complex number, in the program and in its references: what they give. Conditions: words have 64 bits. The size of a complex number in the reference, and the angle in both: what they give. Conditions: words have 64 bits. Gains: the functions of package gain on one or two numbers, and of its reference: what they give. Conditions: words have 64 bits. The powers of many gains: gain.Powers and its reference. Condition: the length as the reach has it. -/
import Derived.Test.YtfnbohpfcdddgaaNLadM
import Derived.Test.YtfnbohpfcdddgaaNOf
import Derived.Test.YtfnbohpfcdddgaaKitCM
import Derived.Test.YtfnbohpfcdddgaaNmAM
namespace Go.Proofs.Ytfnbohpfcdddgaa
open Go.RowKit

theorem inf_any (w : World) :
    Calls Try.prog 89 #[.int .i64 1] w fun e w' => e = .returned (.float .f64 9218868437227405312) ∧ w = w' := by
  go_enter Try.func89, Try.ntmps89
  go_wp2
  go_ret
  exact ⟨rfl, rfl⟩
theorem infinite_any (x : Nat) (w : World) :
    Calls Try.prog 88 #[.float .f64 x] w fun e w' => e = .returned (.bool (feq (fsize (val x)) inf)) ∧ w = w' := by
  unfold inf
  go_enter Try.func88, Try.ntmps88
  go_wp2_with (first | (go_at_call 84; refine (rsize_any _ _).mono ?_; rintro e w' ⟨rfl, rfl⟩) | (go_at_call 89; refine (inf_any _).mono ?_; rintro e w' ⟨rfl, rfl⟩))
  go_ret
  exact ⟨by simp [val_size], rfl⟩
theorem call_sqrt (x : Nat) (w : World) : ∃ r n, (callFunc 91 #[.float .f64 x]).run Try.prog w = .ok (.value (.float .f64 r)) (w.drewN n) ∧ val r = fsqrt (val x) ∧ IsW r := by
  obtain ⟨r, n, h1, h2, h3⟩ := run_fsqrt (P := Try.prog) w x
  refine ⟨r, n, ?_, h2, h3⟩
  rw [run_callFunc_extern (e := Extern.MathSqrt.sqrt) Try.func91 (by kernel_rfl) (by kernel_rfl) (by kernel_rfl) (by kernel_rfl) _ w, h1, Result.andThen_ok]
theorem upon_res {P : Program} {o : Oper} {a : Act} {K : Act → World → Prop} {Q : Exit → Act → World → Prop} {w : World} {R : Result Next} {v : Option Nat}
    (hR : ∃ r n, R = .ok (.value (.float .f64 r)) (w.drewN n) ∧ val r = v ∧ IsW r) (h : ∀ r n, val r = v → IsW r → K (a.put o.dst (.float .f64 r)) (w.drewN n)) : Oper.upon P o a K Q R := by
  obtain ⟨r, n, rfl, h2, h3⟩ := hR
  exact h r n h2 h3
theorem upon_sqrt {P : Program} {f : FuncId} (hf : ∀ x w, ∃ r n, (callFunc f #[.float .f64 x]).run P w = .ok (.value (.float .f64 r)) (w.drewN n) ∧ val r = fsqrt (val x) ∧ IsW r)
    {o : Oper} {a : Act} {K : Act → World → Prop} {Q : Exit → Act → World → Prop} {w : World} {x : Nat} (h : ∀ r n, val r = fsqrt (val x) → IsW r → K (a.put o.dst (.float .f64 r)) (w.drewN n)) :
    Oper.upon P o a K Q (Sem.run P (callFunc f #[.float .f64 x]) w) := upon_res (hf x w) h
theorem sqrt_any (x : Nat) (w : World) :
    Calls Try.prog 90 #[.float .f64 x] w (RetF w (fsqrt (val x))) := by
  go_enter Try.func90, Try.ntmps90
  go_wp2_with (first | ((with_reducible refine upon_sqrt call_sqrt ?_); intro r n hr hl))
  go_ret
  exact ⟨_, rfl, (by first | with_reducible exact Dr.mk _ _ | with_reducible exact Dr.refl _), by assumption, by assumption⟩

end Go.Proofs.Ytfnbohpfcdddgaa

namespace Go.Proofs.Ytfnbohpfcdddgaa
open Go.RowKit

set_option maxRecDepth 100000 in
set_option maxHeartbeats 2000000 in
theorem rAbs_any (a b : Nat) (w : World) :
    Calls Try.prog 86 #[.complex .f64 a b] w (RetF w (absR (cv a b))) := by
  have hss : ∀ x, fsize (fsize x) = fsize x := fun x => by cases x <;> simp [fsize, sizeB]
  unfold absR cv hyp
  simp only [← val_size]
  by_cases h1 : feq (val (sizeB a)) inf = true <;> try simp only [Bool.not_eq_true] at h1
  all_goals by_cases h2 : feq (val (sizeB b)) inf = true <;> try simp only [Bool.not_eq_true] at h2
  all_goals by_cases h3 : feq (val (sizeB a)) (val 0) = true <;> try simp only [Bool.not_eq_true] at h3
  all_goals by_cases h4 : feq (val (sizeB b)) (val 0) = true <;> try simp only [Bool.not_eq_true] at h4
  all_goals by_cases h5 : feq (val (sizeB a)) (val (sizeB a)) = true <;> try simp only [Bool.not_eq_true] at h5
  all_goals
    have k1 : feq (fsize (val (sizeB a))) inf = feq (val (sizeB a)) inf := by rw [val_size, hss]
    have k2 : feq (fsize (val (sizeB b))) inf = feq (val (sizeB b)) inf := by rw [val_size, hss]
    clear hss
    go_enter Try.func86, Try.ntmps86
    go_wp2_with (first | (go_at_call 84; refine (rsize_any _ _).mono ?_; rintro e w' ⟨rfl, rfl⟩) | (go_at_call 88; refine (infinite_any _ _).mono ?_; rintro e w' ⟨rfl, rfl⟩) | (go_at_call 89; refine (inf_any _).mono ?_; rintro e w' ⟨rfl, rfl⟩) | (go_at_call 90; refine (sqrt_any _ _).mono ?_; rintro e w' ⟨r, rfl, ⟨n, rfl⟩, hr, hl⟩) | ((with_reducible refine upon_fadd ?_); intro r n hr hl) | ((with_reducible refine upon_fsub ?_); intro r n hr hl) | ((with_reducible refine upon_fmul ?_); intro r n hr hl) | ((with_reducible refine upon_fdiv ?_); intro r n hr hl) | ((with_reducible refine upon_fmax (by assumption) (by assumption) ?_); intro r n hr hl) | ((with_reducible refine upon_fmin (by assumption) (by assumption) ?_); intro r n hr hl))
    all_goals
      go_ret
      exact ⟨_, rfl, (by first | with_reducible exact Dr.mk _ _ | with_reducible exact Dr.refl _), by simp [*, inf], (by first | with_reducible assumption | with_reducible exact isW_0 | with_reducible exact isW_inf)⟩

theorem dB_pos : ∀ k, k < 7 → flt (val 0) (val (dB k)) = true := by decide +kernel
theorem dB_end : flt (val 0) (val (dB 7)) = false := by decide +kernel
theorem dB_next : ∀ k, k < 7 → fsub (val (dB k)) (val 4611686018427387904) = some (dB (k + 1)) := by decide +kernel
theorem dB_0 : dB 0 = 4623507967449235456 := by decide +kernel

/-- The slots of the first loop, of the second. -/
def AngLoop (w : World) (t0 : Option Nat) (t i : Value) (wr : World) : Prop := ∃ (k r : Nat), k ≤ 3 ∧ i = .int .i64 k ∧ t = .float .f64 r ∧ val r = angTs k t0 ∧ Dr w wr
def AngLoop2 (w : World) (u : Option Nat) (s d : Value) (wr : World) : Prop := ∃ (k r : Nat), k ≤ 7 ∧ d = .float .f64 (dB k) ∧ s = .float .f64 r ∧ val r = angS u k ∧ Dr w wr
def dOf (v : Value) : Nat := match v with | .float _ b => b | _ => 0
/-- How many rounds are left. -/
def dLeft (v : Value) : Nat := 8 - (((List.range 8).findIdx? fun k => dB k == dOf v).getD 8)
theorem dLeft_next : ∀ k, k < 7 → dLeft (.float .f64 (dB (k + 1))) < dLeft (.float .f64 (dB k)) := by decide +kernel

def AngLoop3 (w : World) (u : Option Nat) (s d : Value) (wr : World) : Prop := ∃ (k r : Nat), k ≤ 7 ∧ d = .int .i64 (13 - 2 * (k : Int)) ∧ s = .float .f64 r ∧ val r = angS u k ∧ Dr w wr

end Go.Proofs.Ytfnbohpfcdddgaa

namespace Go.Proofs.Ytfnbohpfcdddgaa
open Go.RowKit

set_option maxHeartbeats 4000000 in
theorem gOf_any (a b c d : Nat) (w : World) :
    Calls Try.prog 21 #[.complex .f64 a b, .complex .f64 c d] w (RetCE w (ofG (cv a b) (cv c d)) (ofE (cv a b) (cv c d))) := by
  obtain ⟨g, hg⟩ : ∃ g, ofG (cv a b) (cv c d) = g := ⟨_, rfl⟩
  obtain ⟨n, hn⟩ : ∃ n, ofE (cv a b) (cv c d) = n := ⟨_, rfl⟩
  rw [hg, hn]
  unfold ofG at hg
  rw [hn] at hg
  unfold ofE at hn
  have Hg := hid hg
  have Hn := hid hn
  clear hg hn
  by_cases h1 : cfin (cv a b) = true <;> try simp only [Bool.not_eq_true] at h1
  all_goals by_cases h2 : cfin (cv c d) = true <;> try simp only [Bool.not_eq_true] at h2
  all_goals by_cases h3 : czero (cv c d) = true <;> try simp only [Bool.not_eq_true] at h3
  all_goals by_cases h4 : cfin (cdiv (cv a b) (cv c d)) = true <;> try simp only [Bool.not_eq_true] at h4
  all_goals
    have hn := Hn.out
    have hg := Hg.out
    simp [h1, h2, h3, h4] at hn
    subst hn
    simp at hg
    clear Hn Hg
    subst hg
    go_enter Try.func21, Try.ntmps21
    go_wp2_with (first | (go_at_call 44; refine (Finite_any _ _ _).mono ?_; rintro e w' ⟨rfl, n, rfl⟩) | (go_at_call 45; refine (Zero_any _ _ _).mono ?_; rintro e w' ⟨rfl, rfl⟩) | (go_at_call 46; refine (Div_any _ _ _ _ _).mono ?_; rintro e w' ⟨x, y, rfl, ⟨n, rfl⟩, hr, hx, hy⟩))
    go_ret2
    exact ⟨_, _, rfl, (by first | with_reducible exact Dr.mk _ _ | with_reducible exact Dr.refl _), by first | rfl | assumption, (by first | with_reducible assumption | with_reducible exact isW_0 | with_reducible exact isW_inf), (by first | with_reducible assumption | with_reducible exact isW_0 | with_reducible exact isW_inf)⟩
set_option maxHeartbeats 4000000 in
theorem grOf_any (a b c d : Nat) (w : World) :
    Calls Try.prog 37 #[.complex .f64 a b, .complex .f64 c d] w (RetCE w (ofG (cv a b) (cv c d)) (ofE (cv a b) (cv c d))) := by
  obtain ⟨g, hg⟩ : ∃ g, ofG (cv a b) (cv c d) = g := ⟨_, rfl⟩
  obtain ⟨n, hn⟩ : ∃ n, ofE (cv a b) (cv c d) = n := ⟨_, rfl⟩
  rw [hg, hn]
  unfold ofG at hg
  rw [hn] at hg
  unfold ofE at hn
  have Hg := hid hg
  have Hn := hid hn
  clear hg hn
  by_cases h1 : cfin (cv a b) = true <;> try simp only [Bool.not_eq_true] at h1
  all_goals by_cases h2 : cfin (cv c d) = true <;> try simp only [Bool.not_eq_true] at h2
  all_goals by_cases h3 : czero (cv c d) = true <;> try simp only [Bool.not_eq_true] at h3
  all_goals by_cases h4 : cfin (cdiv (cv a b) (cv c d)) = true <;> try simp only [Bool.not_eq_true] at h4
  all_goals
    have hn := Hn.out
    have hg := Hg.out
    simp [h1, h2, h3, h4] at hn
    subst hn
    simp at hg
    clear Hn Hg
    subst hg
    go_enter Try.func37, Try.ntmps37
    go_wp2_with (first | (go_at_call 67; refine (rFinite_any _ _ _).mono ?_; rintro e w' ⟨rfl, n, rfl⟩) | (go_at_call 68; refine (rZero_any _ _ _).mono ?_; rintro e w' ⟨rfl, rfl⟩) | (go_at_call 69; refine (rDiv_any _ _ _ _ _).mono ?_; rintro e w' ⟨x, y, rfl, ⟨n, rfl⟩, hr, hx, hy⟩))
    go_ret2
    exact ⟨_, _, rfl, (by first | with_reducible exact Dr.mk _ _ | with_reducible exact Dr.refl _), by first | rfl | assumption, (by first | with_reducible assumption | with_reducible exact isW_0 | with_reducible exact isW_inf), (by first | with_reducible assumption | with_reducible exact isW_0 | with_reducible exact isW_inf)⟩

/-- finite: a real, if it is one. -/
theorem finite_any (x : Nat) (w : World) (hx : IsW x) :
    Calls Try.prog 70 #[.float .f64 x] w (RetFE w (if fin (val x) = true then val x else val 0) (if fin (val x) = true then 0 else 6)) := by
  by_cases h : fin (val x) = true
  · rw [if_pos h, if_pos h]
    unfold fin at h
    go_enter Try.func70, Try.ntmps70
    go_wp2_with (first | ((with_reducible refine upon_fadd ?_); intro r n hr hl) | ((with_reducible refine upon_fsub ?_); intro r n hr hl) | ((with_reducible refine upon_fmul ?_); intro r n hr hl) | ((with_reducible refine upon_fdiv ?_); intro r n hr hl) | ((with_reducible refine upon_fmax (by assumption) (by assumption) ?_); intro r n hr hl) | ((with_reducible refine upon_fmin (by assumption) (by assumption) ?_); intro r n hr hl))
    go_ret2
    exact ⟨_, rfl, (by first | with_reducible exact Dr.mk _ _ | with_reducible exact Dr.refl _), rfl, (by first | with_reducible assumption | with_reducible exact isW_0 | with_reducible exact isW_inf)⟩
  · rw [if_neg h, if_neg h]
    unfold fin at h
    simp only [Bool.not_eq_true] at h
    go_enter Try.func70, Try.ntmps70
    go_wp2_with (first | ((with_reducible refine upon_fadd ?_); intro r n hr hl) | ((with_reducible refine upon_fsub ?_); intro r n hr hl) | ((with_reducible refine upon_fmul ?_); intro r n hr hl) | ((with_reducible refine upon_fdiv ?_); intro r n hr hl) | ((with_reducible refine upon_fmax (by assumption) (by assumption) ?_); intro r n hr hl) | ((with_reducible refine upon_fmin (by assumption) (by assumption) ?_); intro r n hr hl))
    go_ret2
    exact ⟨_, rfl, (by first | with_reducible exact Dr.mk _ _ | with_reducible exact Dr.refl _), rfl, (by first | with_reducible assumption | with_reducible exact isW_0 | with_reducible exact isW_inf)⟩

theorem finite_good (x : Nat) (w : World) (hx : IsW x) (h : fin (val x) = true) : Calls Try.prog 70 #[.float .f64 x] w (RetFE w (val x) 0) := by
  have := finite_any x w hx
  rwa [if_pos h, if_pos h] at this
theorem finite_bad (x : Nat) (w : World) (h : fin (val x) = false) : Calls Try.prog 70 #[.float .f64 x] w (RetFE w (val 0) 6) := by
  unfold fin at h
  go_enter Try.func70, Try.ntmps70
  go_wp2_with (first | ((with_reducible refine upon_fadd ?_); intro r n hr hl) | ((with_reducible refine upon_fsub ?_); intro r n hr hl) | ((with_reducible refine upon_fmul ?_); intro r n hr hl) | ((with_reducible refine upon_fdiv ?_); intro r n hr hl) | ((with_reducible refine upon_fmax (by assumption) (by assumption) ?_); intro r n hr hl) | ((with_reducible refine upon_fmin (by assumption) (by assumption) ?_); intro r n hr hl))
  go_ret2
  exact ⟨_, rfl, (by first | with_reducible exact Dr.mk _ _ | with_reducible exact Dr.refl _), rfl, (by first | with_reducible assumption | with_reducible exact isW_0 | with_reducible exact isW_inf)⟩

theorem Power_any (a b : Nat) (w : World) :
    Calls Try.prog 40 #[.complex .f64 a b] w (RetFE w (szG (cv a b) (size2 (cv a b))) (szE (cv a b) (size2 (cv a b)))) := by
  by_cases h : cfin (cv a b) = true
  · by_cases h2 : fin (size2 (cv a b)) = true
    · rw [show szG (cv a b) (size2 (cv a b)) = size2 (cv a b) from by simp [szG, szE, h, h2], show szE (cv a b) (size2 (cv a b)) = 0 from by simp [szE, h, h2]]
      go_enter Try.func40, Try.ntmps40
      go_wp2_with (first | (go_at_call 44; refine (Finite_any _ _ _).mono ?_; rintro e w' ⟨rfl, n, rfl⟩) | (go_at_call 71; refine (Size2_any _ _ _).mono ?_; rintro e w' ⟨x, rfl, ⟨n, rfl⟩, hr, hx⟩) | (go_at_call 70; refine (finite_good _ _ (by assumption) (by rw [hr]; assumption)).mono ?_; rintro e w' ⟨x, rfl, ⟨n, rfl⟩, hr, hx⟩))
      go_ret2
      exact ⟨_, rfl, (by first | with_reducible exact Dr.mk _ _ | with_reducible exact Dr.refl _), by simp [*], (by first | with_reducible assumption | with_reducible exact isW_0 | with_reducible exact isW_inf)⟩
    · simp only [Bool.not_eq_true] at h2
      rw [show szG (cv a b) (size2 (cv a b)) = val 0 from by simp [szG, szE, h, h2], show szE (cv a b) (size2 (cv a b)) = 6 from by simp [szE, h, h2]]
      go_enter Try.func40, Try.ntmps40
      go_wp2_with (first | (go_at_call 44; refine (Finite_any _ _ _).mono ?_; rintro e w' ⟨rfl, n, rfl⟩) | (go_at_call 71; refine (Size2_any _ _ _).mono ?_; rintro e w' ⟨x, rfl, ⟨n, rfl⟩, hr, hx⟩) | (go_at_call 70; refine (finite_bad _ _ (by rw [hr]; assumption)).mono ?_; rintro e w' ⟨x, rfl, ⟨n, rfl⟩, hr, hx⟩))
      go_ret2
      exact ⟨_, rfl, (by first | with_reducible exact Dr.mk _ _ | with_reducible exact Dr.refl _), by assumption, (by first | with_reducible assumption | with_reducible exact isW_0 | with_reducible exact isW_inf)⟩
  · simp only [Bool.not_eq_true] at h
    rw [show szG (cv a b) (size2 (cv a b)) = val 0 from by simp [szG, szE, h], show szE (cv a b) (size2 (cv a b)) = 5 from by simp [szE, h]]
    go_enter Try.func40, Try.ntmps40
    go_wp2_with (first | (go_at_call 44; refine (Finite_any _ _ _).mono ?_; rintro e w' ⟨rfl, n, rfl⟩))
    go_ret2
    exact ⟨_, rfl, (by first | with_reducible exact Dr.mk _ _ | with_reducible exact Dr.refl _), rfl, (by first | with_reducible assumption | with_reducible exact isW_0 | with_reducible exact isW_inf)⟩

theorem sized_abs (a b : Nat) (w : World) :
    Calls Try.prog 72 #[.complex .f64 a b, .bool false] w (RetFE w (szG (cv a b) (absR (cv a b))) (szE (cv a b) (absR (cv a b)))) := by
  by_cases h : cfin (cv a b) = true
  · by_cases h2 : fin (absR (cv a b)) = true
    · rw [show szG (cv a b) (absR (cv a b)) = absR (cv a b) from by simp [szG, szE, h, h2], show szE (cv a b) (absR (cv a b)) = 0 from by simp [szE, h, h2]]
      go_enter Try.func72, Try.ntmps72
      go_wp2_with (first | (go_at_call 67; refine (rFinite_any _ _ _).mono ?_; rintro e w' ⟨rfl, n, rfl⟩) | (go_at_call 86; refine (rAbs_any _ _ _).mono ?_; rintro e w' ⟨x, rfl, ⟨n, rfl⟩, hr, hx⟩) | (go_at_call 87; refine (rSize2_any _ _ _).mono ?_; rintro e w' ⟨x, rfl, ⟨n, rfl⟩, hr, hx⟩) | (go_at_call 83; refine (FiniteReal_any _ _).mono ?_; rintro e w' ⟨rfl, n, rfl⟩))
      go_ret2
      exact ⟨_, rfl, (by first | with_reducible exact Dr.mk _ _ | with_reducible exact Dr.refl _), by simp [*], (by first | with_reducible assumption | with_reducible exact isW_0 | with_reducible exact isW_inf)⟩
    · simp only [Bool.not_eq_true] at h2
      rw [show szG (cv a b) (absR (cv a b)) = val 0 from by simp [szG, szE, h, h2], show szE (cv a b) (absR (cv a b)) = 6 from by simp [szE, h, h2]]
      go_enter Try.func72, Try.ntmps72
      go_wp2_with (first | (go_at_call 67; refine (rFinite_any _ _ _).mono ?_; rintro e w' ⟨rfl, n, rfl⟩) | (go_at_call 86; refine (rAbs_any _ _ _).mono ?_; rintro e w' ⟨x, rfl, ⟨n, rfl⟩, hr, hx⟩) | (go_at_call 87; refine (rSize2_any _ _ _).mono ?_; rintro e w' ⟨x, rfl, ⟨n, rfl⟩, hr, hx⟩) | (go_at_call 83; refine (FiniteReal_any _ _).mono ?_; rintro e w' ⟨rfl, n, rfl⟩))
      go_ret2
      exact ⟨_, rfl, (by first | with_reducible exact Dr.mk _ _ | with_reducible exact Dr.refl _), rfl, (by first | with_reducible assumption | with_reducible exact isW_0 | with_reducible exact isW_inf)⟩
  · simp only [Bool.not_eq_true] at h
    rw [show szG (cv a b) (absR (cv a b)) = val 0 from by simp [szG, szE, h], show szE (cv a b) (absR (cv a b)) = 5 from by simp [szE, h]]
    go_enter Try.func72, Try.ntmps72
    go_wp2_with (first | (go_at_call 67; refine (rFinite_any _ _ _).mono ?_; rintro e w' ⟨rfl, n, rfl⟩))
    go_ret2
    exact ⟨_, rfl, (by first | with_reducible exact Dr.mk _ _ | with_reducible exact Dr.refl _), rfl, (by first | with_reducible assumption | with_reducible exact isW_0 | with_reducible exact isW_inf)⟩

theorem sized_sq (a b : Nat) (w : World) :
    Calls Try.prog 72 #[.complex .f64 a b, .bool true] w (RetFE w (szG (cv a b) (size2 (cv a b))) (szE (cv a b) (size2 (cv a b)))) := by
  by_cases h : cfin (cv a b) = true
  · by_cases h2 : fin (size2 (cv a b)) = true
    · rw [show szG (cv a b) (size2 (cv a b)) = size2 (cv a b) from by simp [szG, szE, h, h2], show szE (cv a b) (size2 (cv a b)) = 0 from by simp [szE, h, h2]]
      go_enter Try.func72, Try.ntmps72
      go_wp2_with (first | (go_at_call 67; refine (rFinite_any _ _ _).mono ?_; rintro e w' ⟨rfl, n, rfl⟩) | (go_at_call 86; refine (rAbs_any _ _ _).mono ?_; rintro e w' ⟨x, rfl, ⟨n, rfl⟩, hr, hx⟩) | (go_at_call 87; refine (rSize2_any _ _ _).mono ?_; rintro e w' ⟨x, rfl, ⟨n, rfl⟩, hr, hx⟩) | (go_at_call 83; refine (FiniteReal_any _ _).mono ?_; rintro e w' ⟨rfl, n, rfl⟩))
      go_ret2
      exact ⟨_, rfl, (by first | with_reducible exact Dr.mk _ _ | with_reducible exact Dr.refl _), by simp [*], (by first | with_reducible assumption | with_reducible exact isW_0 | with_reducible exact isW_inf)⟩
    · simp only [Bool.not_eq_true] at h2
      rw [show szG (cv a b) (size2 (cv a b)) = val 0 from by simp [szG, szE, h, h2], show szE (cv a b) (size2 (cv a b)) = 6 from by simp [szE, h, h2]]
      go_enter Try.func72, Try.ntmps72
      go_wp2_with (first | (go_at_call 67; refine (rFinite_any _ _ _).mono ?_; rintro e w' ⟨rfl, n, rfl⟩) | (go_at_call 86; refine (rAbs_any _ _ _).mono ?_; rintro e w' ⟨x, rfl, ⟨n, rfl⟩, hr, hx⟩) | (go_at_call 87; refine (rSize2_any _ _ _).mono ?_; rintro e w' ⟨x, rfl, ⟨n, rfl⟩, hr, hx⟩) | (go_at_call 83; refine (FiniteReal_any _ _).mono ?_; rintro e w' ⟨rfl, n, rfl⟩))
      go_ret2
      exact ⟨_, rfl, (by first | with_reducible exact Dr.mk _ _ | with_reducible exact Dr.refl _), rfl, (by first | with_reducible assumption | with_reducible exact isW_0 | with_reducible exact isW_inf)⟩
  · simp only [Bool.not_eq_true] at h
    rw [show szG (cv a b) (size2 (cv a b)) = val 0 from by simp [szG, szE, h], show szE (cv a b) (size2 (cv a b)) = 5 from by simp [szE, h]]
    go_enter Try.func72, Try.ntmps72
    go_wp2_with (first | (go_at_call 67; refine (rFinite_any _ _ _).mono ?_; rintro e w' ⟨rfl, n, rfl⟩))
    go_ret2
    exact ⟨_, rfl, (by first | with_reducible exact Dr.mk _ _ | with_reducible exact Dr.refl _), rfl, (by first | with_reducible assumption | with_reducible exact isW_0 | with_reducible exact isW_inf)⟩

theorem rPower_any (a b : Nat) (w : World) :
    Calls Try.prog 41 #[.complex .f64 a b] w (RetFE w (szG (cv a b) (size2 (cv a b))) (szE (cv a b) (size2 (cv a b)))) := by
  go_enter Try.func41, Try.ntmps41
  go_wp2_with (first | (go_at_call 72; refine (sized_sq _ _ _).mono ?_; rintro e w' ⟨x, rfl, ⟨n, rfl⟩, hr, hx⟩))
  go_ret2
  exact ⟨_, rfl, (by first | with_reducible exact Dr.mk _ _ | with_reducible exact Dr.refl _), by assumption, (by first | with_reducible assumption | with_reducible exact isW_0 | with_reducible exact isW_inf)⟩

end Go.Proofs.Ytfnbohpfcdddgaa

namespace Go.Proofs.Ytfnbohpfcdddgaa
open Go.RowKit

/-- The first fault of a row. -/
def errG {α : Type} (e : α → Int) : Nat → List α → Int × Int
  | _, [] => (0, 0)
  | k, x :: r => if e x = 0 then errG e (k + 1) r else (e x, k)
theorem errG_ok {α : Type} {e : α → Int} {l : List α} {k : Nat} {x : α} (h : l[k]? = some x) (h0 : e x = 0) : errG e k (l.drop k) = errG e (k + 1) (l.drop (k + 1)) := by
  have hk := (List.getElem?_eq_some_iff.1 h).1
  rw [List.drop_eq_getElem_cons hk, (List.getElem?_eq_some_iff.1 h).2, errG, if_pos h0]
theorem errG_bad {α : Type} {e : α → Int} {l : List α} {k : Nat} {x : α} (h : l[k]? = some x) (h0 : e x ≠ 0) : errG e k (l.drop k) = (e x, (k : Int)) := by
  have hk := (List.getElem?_eq_some_iff.1 h).1
  rw [List.drop_eq_getElem_cons hk, (List.getElem?_eq_some_iff.1 h).2, errG, if_neg h0]
theorem errG_end {α : Type} {e : α → Int} {l : List α} : errG e l.length (l.drop l.length) = (0, 0) := by rw [List.drop_length]; rfl
def pwE (z : Z) : Int := szE (zv z) (size2 (zv z))
def pwG (z : Z) : Option Nat := szG (zv z) (size2 (zv z))
def powF (l : List Z) : List (Option Nat) × (Int × Int) := if 4096 < l.length then ([], (3, -1)) else if (errG pwE 0 l).1 = 0 then (l.map pwG, (0, 0)) else ([], errG pwE 0 l)
def RetPw (w : World) (r : List (Option Nat) × (Int × Int)) (E : Ending) (w' : World) : Prop := ∃ (v : Value) (l : List Nat), E = .returned (.tuple #[v, .agg #[.int .i64 r.2.1, .int .i64 r.2.2]]) ∧ w'.ownsRow w.heap.size 40 1 v l.length (l.map F) ∧ l.map val = r.1 ∧ (∀ x ∈ l, IsW x) ∧ Below w.heap.size w w'
def PwLoop (w : World) (l : List Z) (i v : Value) (wr : World) : Prop := ∃ (k : Nat) (r : List Nat), k ≤ l.length ∧ i = .int .i64 k ∧ r.length = k ∧ wr.ownsRow (w.heap.size + 1) 40 1 v k (r.map F) ∧ r.map val = (l.take k).map pwG ∧ (∀ x ∈ r, IsW x) ∧ errG pwE 0 l = errG pwE k (l.drop k) ∧ FltAt wr w.heap.size 0 0 ∧ Below w.heap.size w wr
theorem gownsRow_le {w : World} {base base' size n : Nat} {e : TypeId} {v : Value} {xs : List Value} (h : w.ownsRow base e size v n xs) (hb : base' ≤ base) : w.ownsRow base' e size v n xs :=
  ⟨h.1, h.2.elim Or.inl (fun ⟨g, cap, cur, hv, hg, r⟩ => Or.inr ⟨g, cap, cur, hv, Nat.le_trans hb hg, r⟩)⟩
theorem map_snoc {α β γ : Type} {f : β → γ} {g : α → γ} {l : List α} {r : List β} {k : Nat} {x : α} {y : β} (h : l[k]? = some x) (hr : r.map f = (l.take k).map g) (hy : f y = g x) : (r ++ [y]).map f = (l.take (k + 1)).map g := by
  rw [take_snoc h, List.map_append, List.map_append, hr]
  simp [hy]
theorem own_setBelow {w : World} {base size n : Nat} {e : TypeId} {v : Value} {xs : List Value} (h : w.ownsRow base e size v n xs) {a : Addr} (ha : a.block < base) (u : Value) : (w.setCell a u).ownsRow base e size v n xs := by
  have hg : w.grownBy (w.setCell a u) (some a.block) := ⟨rfl, rfl, rfl, by simp [World.setCell], fun k _ hi => Below.heap_setCell _ _ _ _ (fun e => hi (by rw [e]))⟩
  refine h.kept hg (.inr fun e => ?_)
  have := (h.lt _ e).1
  omega
theorem mem_snoc {r : List Nat} {q : Nat} (h : ∀ x ∈ r, IsW x) (hq : IsW q) : ∀ x ∈ r ++ [q], IsW x := by
  intro x hx
  rcases List.mem_append.1 hx with hx | hx
  · exact h x hx
  · rw [List.mem_singleton.1 hx]; exact hq
theorem powF_bad {l : List Z} {e k : Int} (h : ¬ 4096 < l.length) (he : errG pwE 0 l = (e, k)) (h0 : e ≠ 0) : powF l = ([], (e, k)) := by
  unfold powF
  rw [if_neg h, he, if_neg h0]
theorem powF_ok {l : List Z} (h : ¬ 4096 < l.length) (he : errG pwE 0 l = (0, 0)) : powF l = (l.map pwG, (0, 0)) := by
  unfold powF
  rw [if_neg h, he, if_pos rfl]
set_option maxRecDepth 100000 in
set_option maxHeartbeats 4000000 in
theorem Powers_any (l : List Z) (v0 : Value) (w : World) (hs : Sl w v0 (l.map C)) (hn : l.length ≤ 140737488355328) : Calls Try.prog 14 #[v0] w (RetPw w (powF l)) := by
  obtain ⟨a, cap, rfl, hc⟩ := hs.cz
  have b0 : Below w.heap.size w (w.alloc (.cells #[.int .i64 0, .int .i64 0] 31)) := (Below.refl _ w).alloc (Nat.le_refl _) _
  by_cases hlong : 4096 < l.length
  · have HF := hid (show powF l = ([], (3, -1)) by unfold powF; rw [if_pos hlong])
    have g1 : (4096 : Int) < (l.length : Int) := by omega
    clear hlong hc
    go_enter Try.func14, Try.ntmps14
    go_wp2
    refine bodyPost_ret (results_flt rfl _ _ w.heap.size 3 (-1) rfl (FltAt.new _ _ _)) rfl ?_
    exact ⟨_, [], by rw [HF.out]; rfl, World.ownsRow_nil _ _ _ _, by rw [HF.out]; rfl, (fun x hx => by cases hx), (Below.refl _ w).alloc (Nat.le_refl _) _⟩
  · have g1 : ¬ (4096 : Int) < (l.length : Int) := by omega
    have hl : l.length ≤ 4096 := by omega
    have HL := hid hlong
    clear hlong
    go_enter Try.func14, Try.ntmps14
    go_wp2
    go_loopw [15, 4] (fun i v w' => PwLoop w l i v w') (fun i _ _ => l.length + 1 - (intOf i).toNat)
    case atStart => exact ⟨0, [], Nat.zero_le _, rfl, rfl, World.ownsRow_nil _ _ _ _, rfl, (fun x hx => by cases hx), rfl, FltAt.new _ _ _, b0⟩
    case round =>
      obtain ⟨k, r, hk, rfl, hr, hown, hrm, hrw, herr, hF, hb⟩ := hrel
      have hz := hb.size
      have hlt := hF.lt
      by_cases hkn : k < l.length
      · obtain ⟨⟨x, y⟩, hx⟩ : ∃ z, l[k]? = some z := ⟨l[k]'hkn, List.getElem?_eq_getElem hkn⟩
        obtain ⟨b, off, rfl, c0⟩ := hc _ _ hx
        replace c0 := (hb.cell (World.block_lt_of_cell? _ _ c0)).trans c0
        have g2 : (k : Int) < (l.length : Int) := by omega
        have HX := hid hx
        have HRM := hid hrm
        have HER := hid herr
        have HP := hid fun w => Power_any x y w
        rw [show szG (cv x y) (size2 (cv x y)) = pwG (x, y) from rfl, show szE (cv x y) (size2 (cv x y)) = pwE (x, y) from rfl] at HP
        have f0 := hF.c0
        have f1 := hF.c1
        have f2 := hF.fr 0
        have f3 := hF.fr 1
        clear hc hx hrm herr
        by_cases he : pwE (x, y) = 0
        · have HE := hid he
          rw [he] at HP
          clear he f0 f1 f2 f3
          go_wp2_with (first | (go_at_call 40; (with_reducible refine (HP.out _).mono ?_); rintro E1 w1 ⟨q, rfl, ⟨n1, rfl⟩, hq, hqw⟩; have HQ := hid hq; clear hq) | (at_builtin; go_loud (refine wpList_app1 rfl _ _ 54 rfl (w.heap.size + 1) 40 _ 8 Try.underlying54 info_f64 rfl _ k _ (.float .f64 q) rfl rfl rfl (by exact owns_drewN hown n1) (by omega) (by omega) (by simp; omega) ?_; intro v' w' h1 h2 h3)))
          go_roundw
          case rel =>
            have hF2 : FltAt (wr.drewN n1) w.heap.size 0 0 := hF
            exact ⟨k + 1, r ++ [q], by omega, by go_num, by simp [hr], by rw [List.map_append]; exact h1, map_snoc HX.out HRM.out HQ.out, mem_snoc hrw hqw, HER.out.trans (errG_ok HX.out HE.out), hF2.below h2 (by omega), (below_drewN' hb n1).trans (h2.mono (by omega))⟩
          case measure => simp [intOf] <;> omega
        · obtain ⟨e, hee⟩ : ∃ e, e = pwE (x, y) := ⟨_, rfl⟩
          rw [← hee] at HP he
          have HE := hid hee
          have g3 : (e == 0) = false := by simpa using he
          clear he hee
          go_wp2_with (first | (go_at_call 40; (with_reducible refine (HP.out _).mono ?_); rintro E1 w1 ⟨q, rfl, ⟨n1, rfl⟩, hq, hqw⟩; have HQ := hid hq; clear hq))
          have hF2 : FltAt (wr.drewN n1) w.heap.size 0 0 := hF
          refine bodyPost_ret (results_flt rfl _ _ w.heap.size e k rfl (hF2.set2 _ _)) rfl ?_
          have HF := powF_bad HL.out (HER.out.trans (errG_bad HX.out (by rw [← HE.out]; simpa using g3))) (by rw [← HE.out]; simpa using g3)
          rw [← HE.out] at HF
          exact ⟨_, [], by rw [HF]; rfl, World.ownsRow_nil _ _ _ _, by rw [HF]; rfl, (fun x hx => by cases hx), below_set2 (below_drewN' hb n1) _ _ (Nat.le_refl _)⟩
      · obtain rfl : k = l.length := by omega
        have f0 := hF.c0
        have f1 := hF.c1
        have f2 := hF.fr 0
        have f3 := hF.fr 1
        clear hc
        go_wp2
        refine bodyPost_ret (results_flt rfl _ _ w.heap.size 0 0 rfl (hF.set2 _ _)) rfl ?_
        have HF := powF_ok HL.out (herr.trans errG_end)
        rw [List.take_length] at hrm
        refine ⟨_, r, by rw [HF], ?_, by rw [HF]; exact hrm, hrw, below_set2 hb _ _ (Nat.le_refl _)⟩
        rw [hr]
        exact gownsRow_le (own_setBelow (own_setBelow hown (Nat.lt_succ_self _) _) (Nat.lt_succ_self _) _) (by omega)
set_option maxRecDepth 100000 in
set_option maxHeartbeats 4000000 in
theorem rPowers_any (l : List Z) (v0 : Value) (w : World) (hs : Sl w v0 (l.map C)) (hn : l.length ≤ 140737488355328) : Calls Try.prog 15 #[v0] w (RetPw w (powF l)) := by
  obtain ⟨a, cap, rfl, hc⟩ := hs.cz
  have b0 : Below w.heap.size w (w.alloc (.cells #[.int .i64 0, .int .i64 0] 31)) := (Below.refl _ w).alloc (Nat.le_refl _) _
  by_cases hlong : 4096 < l.length
  · have HF := hid (show powF l = ([], (3, -1)) by unfold powF; rw [if_pos hlong])
    have g1 : (4096 : Int) < (l.length : Int) := by omega
    clear hlong hc
    go_enter Try.func15, Try.ntmps15
    go_wp2
    refine bodyPost_ret (results_flt rfl _ _ w.heap.size 3 (-1) rfl (FltAt.new _ _ _)) rfl ?_
    exact ⟨_, [], by rw [HF.out]; rfl, World.ownsRow_nil _ _ _ _, by rw [HF.out]; rfl, (fun x hx => by cases hx), (Below.refl _ w).alloc (Nat.le_refl _) _⟩
  · have g1 : ¬ (4096 : Int) < (l.length : Int) := by omega
    have hl : l.length ≤ 4096 := by omega
    have HL := hid hlong
    clear hlong
    go_enter Try.func15, Try.ntmps15
    go_wp2
    go_loopw [5, 4] (fun i v w' => PwLoop w l i v w') (fun i _ _ => l.length + 1 - (intOf i).toNat)
    case atStart => exact ⟨0, [], Nat.zero_le _, rfl, rfl, World.ownsRow_nil _ _ _ _, rfl, (fun x hx => by cases hx), rfl, FltAt.new _ _ _, b0⟩
    case round =>
      obtain ⟨k, r, hk, rfl, hr, hown, hrm, hrw, herr, hF, hb⟩ := hrel
      have hz := hb.size
      have hlt := hF.lt
      by_cases hkn : k < l.length
      · obtain ⟨⟨x, y⟩, hx⟩ : ∃ z, l[k]? = some z := ⟨l[k]'hkn, List.getElem?_eq_getElem hkn⟩
        obtain ⟨b, off, rfl, c0⟩ := hc _ _ hx
        replace c0 := (hb.cell (World.block_lt_of_cell? _ _ c0)).trans c0
        have g2 : (k : Int) < (l.length : Int) := by omega
        have HX := hid hx
        have HRM := hid hrm
        have HER := hid herr
        have HP := hid fun w => rPower_any x y w
        rw [show szG (cv x y) (size2 (cv x y)) = pwG (x, y) from rfl, show szE (cv x y) (size2 (cv x y)) = pwE (x, y) from rfl] at HP
        have f0 := hF.c0
        have f1 := hF.c1
        have f2 := hF.fr 0
        have f3 := hF.fr 1
        clear hc hx hrm herr
        by_cases he : pwE (x, y) = 0
        · have HE := hid he
          rw [he] at HP
          clear he f0 f1 f2 f3
          go_wp2_with (first | (go_at_call 41; (with_reducible refine (HP.out _).mono ?_); rintro E1 w1 ⟨q, rfl, ⟨n1, rfl⟩, hq, hqw⟩; have HQ := hid hq; clear hq) | (at_builtin; go_loud (refine wpList_app1 rfl _ _ 54 rfl (w.heap.size + 1) 40 _ 8 Try.underlying54 info_f64 rfl _ k _ (.float .f64 q) rfl rfl rfl (by exact owns_drewN hown n1) (by omega) (by omega) (by simp; omega) ?_; intro v' w' h1 h2 h3)))
          go_roundw
          case rel =>
            have hF2 : FltAt (wr.drewN n1) w.heap.size 0 0 := hF
            exact ⟨k + 1, r ++ [q], by omega, by go_num, by simp [hr], by rw [List.map_append]; exact h1, map_snoc HX.out HRM.out HQ.out, mem_snoc hrw hqw, HER.out.trans (errG_ok HX.out HE.out), hF2.below h2 (by omega), (below_drewN' hb n1).trans (h2.mono (by omega))⟩
          case measure => simp [intOf] <;> omega
        · obtain ⟨e, hee⟩ : ∃ e, e = pwE (x, y) := ⟨_, rfl⟩
          rw [← hee] at HP he
          have HE := hid hee
          have g3 : (e == 0) = false := by simpa using he
          clear he hee
          go_wp2_with (first | (go_at_call 41; (with_reducible refine (HP.out _).mono ?_); rintro E1 w1 ⟨q, rfl, ⟨n1, rfl⟩, hq, hqw⟩; have HQ := hid hq; clear hq))
          have hF2 : FltAt (wr.drewN n1) w.heap.size 0 0 := hF
          refine bodyPost_ret (results_flt rfl _ _ w.heap.size e k rfl (hF2.set2 _ _)) rfl ?_
          have HF := powF_bad HL.out (HER.out.trans (errG_bad HX.out (by rw [← HE.out]; simpa using g3))) (by rw [← HE.out]; simpa using g3)
          rw [← HE.out] at HF
          exact ⟨_, [], by rw [HF]; rfl, World.ownsRow_nil _ _ _ _, by rw [HF]; rfl, (fun x hx => by cases hx), below_set2 (below_drewN' hb n1) _ _ (Nat.le_refl _)⟩
      · obtain rfl : k = l.length := by omega
        have f0 := hF.c0
        have f1 := hF.c1
        have f2 := hF.fr 0
        have f3 := hF.fr 1
        clear hc
        go_wp2
        refine bodyPost_ret (results_flt rfl _ _ w.heap.size 0 0 rfl (hF.set2 _ _)) rfl ?_
        have HF := powF_ok HL.out (herr.trans errG_end)
        rw [List.take_length] at hrm
        refine ⟨_, r, by rw [HF], ?_, by rw [HF]; exact hrm, hrw, below_set2 hb _ _ (Nat.le_refl _)⟩
        rw [hr]
        exact gownsRow_le (own_setBelow (own_setBelow hown (Nat.lt_succ_self _) _) (Nat.lt_succ_self _) _) (by omega)
end Go.Proofs.Ytfnbohpfcdddgaa
