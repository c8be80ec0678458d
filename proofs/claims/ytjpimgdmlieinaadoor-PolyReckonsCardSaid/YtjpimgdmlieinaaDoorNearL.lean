/- Newton's steps: one step more. Sums either way round. No program, no condition. -/
import Derived.Test.YtjpimgdmlieinaaDoorPol5
namespace Go.Proofs.YtjpimgdmlieinaaDoor
open Go.RowKit

theorem sum_comm (x y : Ieee.Datum) : x.sum y = y.sum x := by
  cases x with
  | nan => cases y <;> rfl
  | infinity s =>
    cases y with
    | nan => rfl
    | infinity t => cases s <;> cases t <;> rfl
    | number t n j => rfl
  | number s m i =>
    cases y with
    | nan => rfl
    | infinity t => rfl
    | number t n j =>
      unfold Ieee.Datum.sum
      simp only [Int.min_comm i j, Int.add_comm, Bool.and_comm]
theorem fadd_comm (x y : Option Nat) : fadd x y = fadd y x := by
  cases x with
  | none => cases y <;> rfl
  | some a =>
    cases y with
    | none => rfl
    | some b =>
      show ((Ieee.double.read a).sum (Ieee.double.read b)).map Ieee.double.write = ((Ieee.double.read b).sum (Ieee.double.read a)).map Ieee.double.write
      rw [sum_comm]
theorem cadd_comm (x y : CV) : cadd x y = cadd y x := by
  unfold cadd
  rw [fadd_comm x.1, fadd_comm x.2]
theorem plusV_comm (p q : List Z) (h : p.length = q.length) : plusV p q = plusV q p := by
  unfold plusV
  rw [Nat.max_comm]
  apply List.map_congr_left
  intro i hi
  have hi2 := List.mem_range.1 hi
  unfold plusA
  rw [if_neg (by omega), if_neg (by omega), if_neg (by omega), if_neg (by omega), cadd_comm]
theorem bothE_comm (p q : List Z) : bothE p q = bothE q p := by
  unfold bothE
  by_cases h : 256 < p.length ∨ 256 < q.length
  · have h' : 256 < q.length ∨ 256 < p.length := by omega
    rw [if_pos h, if_pos h']
  · have h' : ¬ (256 < q.length ∨ 256 < p.length) := by omega
    rw [if_neg h, if_neg h']
    cases pf p <;> cases pf q <;> rfl
theorem plusR_comm (p q : List Z) (h : p.length = q.length) : plusR p q = plusR q p := by
  unfold plusR
  rw [bothE_comm p q, plusV_comm p q h]

def nwS (vs ds : List CV) (z : CV) : CV := csub z (cdiv (atV vs z) (atV ds z))
theorem nwt_succ (vs ds : List CV) : ∀ (k : Nat) (z : CV) (n : Nat), nwt vs ds (k + 1) z n = if (nwt vs ds k z n).2 = n + k ∧ nwOk vs ds (nwt vs ds k z n).1 = true then (nwS vs ds (nwt vs ds k z n).1, n + k + 1) else nwt vs ds k z n := by
  intro k
  induction k with
  | zero =>
    intro z n
    rw [nwt, nwt]
    by_cases h : nwOk vs ds z = true
    · rw [if_pos h, if_pos ⟨rfl, h⟩, nwt]; rfl
    · rw [if_neg h, if_neg (fun h2 => h h2.2)]
  | succ k ih =>
    intro z n
    rw [nwt]
    by_cases h : nwOk vs ds z = true
    · rw [if_pos h, ih]
      have e : nwt vs ds (k + 1) z n = nwt vs ds k (nwS vs ds z) (n + 1) := by rw [nwt, if_pos h]; rfl
      rw [e]
      have h3 : n + 1 + k = n + (k + 1) := by omega
      rw [h3]
      rfl
    · rw [if_neg h]
      have e : nwt vs ds (k + 1) z n = (z, n) := by rw [nwt, if_neg h]
      rw [e, if_neg (fun h2 => by have := h2.1; simp at this)]
theorem nwt_le (vs ds : List CV) (z : CV) (n : Nat) : ∀ k, (nwt vs ds k z n).2 ≤ n + k := by
  intro k
  induction k with
  | zero => exact Nat.le_refl _
  | succ k ih =>
    rw [nwt_succ]
    split
    · exact Nat.le_refl _
    · omega
theorem nwOk_parts {vs ds : List CV} {z : CV} (h : nwOk vs ds z = true) : atC vs (nwS vs ds z) = 0 ∧ flt (size1 (atV vs (nwS vs ds z))) (size1 (atV vs z)) = true := by
  unfold nwOk at h
  simp only [Bool.and_eq_true, decide_eq_true_eq] at h
  exact ⟨h.1.2, h.2⟩
theorem nwt_at (vs ds : List CV) (z : CV) (hz : atC vs z = 0) : ∀ k, atC vs (nwt vs ds k z 0).1 = 0 := by
  intro k
  induction k with
  | zero => exact hz
  | succ k ih =>
    rw [nwt_succ]
    split
    · rename_i h
      exact (nwOk_parts h.2).1
    · exact ih
theorem ford_lt_irrefl (x : Option Nat) : flt x x = false := by
  cases h : flt x x with
  | false => rfl
  | true =>
    exfalso
    unfold flt at h
    have h2 := ford_swap x x
    cases ho : ford x x with
    | none => rw [ho] at h; simp at h
    | some o => rw [ho] at h h2; cases o <;> simp [Ordering.swap] at h h2
theorem flt_asymm {x y : Option Nat} (h : flt x y = true) : flt y x = false := by
  unfold flt at *
  have h2 := ford_swap x y
  cases ho : ford x y with
  | none => rw [ho] at h; simp at h
  | some o =>
    rw [ho] at h h2
    cases hp : ford y x with
    | none => rfl
    | some o' => rw [hp] at h2; cases o <;> cases o' <;> simp [Ordering.swap] at h h2 ⊢
/-- With k steps, and with one step more. -/
theorem newC_zero (vs : List CV) (z : CV) (d : List CV × Int) : newC vs z 0 d = (z, 0) := by
  unfold newC
  split <;> rfl
theorem newC_at (vs : List CV) (z : CV) (d : List CV × Int) (hz : atC vs z = 0) (k : Nat) : atC vs (newC vs z (k : Int) d).1 = 0 := by
  unfold newC
  split
  · rw [Int.toNat_natCast]; exact nwt_at _ _ _ hz k
  · exact hz
theorem newC_next (vs : List CV) (z : CV) (d : List CV × Int) (k : Nat) :
    (newC vs z ((k + 1 : Nat) : Int) d).2 ≤ k + 1 ∧
    (((newC vs z ((k + 1 : Nat) : Int) d).2 ≠ k + 1 ∧ (newC vs z ((k + 1 : Nat) : Int) d).1 = (newC vs z (k : Int) d).1) ∨
     (flt (size1 (atV vs (newC vs z ((k + 1 : Nat) : Int) d).1)) (size1 (atV vs (newC vs z (k : Int) d).1)) = true)) := by
  unfold newC
  by_cases h : d.2 = 0
  · rw [if_pos h, if_pos h, Int.toNat_natCast, Int.toNat_natCast]
    have hle := nwt_le vs d.1 z 0 (k + 1)
    rw [Nat.zero_add] at hle
    refine ⟨hle, ?_⟩
    have hle2 := nwt_le vs d.1 z 0 k
    rw [nwt_succ]
    by_cases h2 : (nwt vs d.1 k z 0).2 = 0 + k ∧ nwOk vs d.1 (nwt vs d.1 k z 0).1 = true
    · rw [if_pos h2]
      exact .inr (nwOk_parts h2.2).2
    · rw [if_neg h2]
      exact .inl ⟨by omega, rfl⟩
  · rw [if_neg h, if_neg h]
    exact ⟨Nat.zero_le _, .inl ⟨by simp, rfl⟩⟩
end Go.Proofs.YtjpimgdmlieinaaDoor
