/- Whole numbers as words of 32 bits, the lowest first, plainly. No condition. -/
import Derived.Test.YtfalbdlfopfgcaaGreatDoorMod
namespace Go.Proofs.YtfalbdlfopfgcaaGreatDoor

/-- What words stand for. -/
def wv : List Nat → Nat
  | [] => 0
  | d :: r => d + 4294967296 * wv r
/-- The words of a number: none of 0, no 0 at the end. -/
def wds (n : Nat) : List Nat := if h : n = 0 then [] else (n % 4294967296) :: wds (n / 4294967296)
termination_by n
decreasing_by omega
def Wok (l : List Nat) : Prop := ∀ d ∈ l, d < 4294967296
theorem wds_0 : wds 0 = [] := by rw [wds]; rfl
theorem wds_pos {n : Nat} (h : n ≠ 0) : wds n = (n % 4294967296) :: wds (n / 4294967296) := by rw [wds, dif_neg h]
theorem wv_wds (n : Nat) : wv (wds n) = n := by
  induction n using Nat.strongRecOn with
  | ind n ih =>
    by_cases h : n = 0
    · rw [h, wds_0]; rfl
    · rw [wds_pos h]
      show n % 4294967296 + 4294967296 * wv (wds (n / 4294967296)) = n
      rw [ih _ (by omega)]
      omega
theorem wok_wds (n : Nat) : Wok (wds n) := by
  induction n using Nat.strongRecOn with
  | ind n ih =>
    by_cases h : n = 0
    · rw [h, wds_0]; intro d hd; cases hd
    · rw [wds_pos h]
      intro d hd
      rcases List.mem_cons.1 hd with rfl | hd
      · omega
      · exact ih _ (by omega) d hd
theorem wv_app (a b : List Nat) : wv (a ++ b) = wv a + 4294967296 ^ a.length * wv b := by
  induction a with
  | nil => simp [wv]
  | cons d r ih =>
    show d + 4294967296 * wv (r ++ b) = d + 4294967296 * wv r + 4294967296 ^ (r.length + 1) * wv b
    rw [ih, Nat.mul_add, Nat.pow_succ, Nat.mul_comm (4294967296 ^ r.length) 4294967296, Nat.mul_assoc, Nat.add_assoc]
theorem wv_lt {l : List Nat} (h : Wok l) : wv l < 4294967296 ^ l.length := by
  induction l with
  | nil => simp [wv]
  | cons d r ih =>
    have h1 := ih fun x hx => h x (List.mem_cons_of_mem _ hx)
    have h2 := h d (List.mem_cons_self ..)
    show d + 4294967296 * wv r < 4294967296 ^ (r.length + 1)
    rw [Nat.pow_succ]
    omega
/-- Words whose last is no 0 are the number's own. -/
theorem wds_wv {l : List Nat} (h : Wok l) (hl : l.getLast? ≠ some 0) : wds (wv l) = l := by
  induction l with
  | nil => exact wds_0
  | cons d r ih =>
    have h2 := h d (List.mem_cons_self ..)
    have hr : Wok r := fun x hx => h x (List.mem_cons_of_mem _ hx)
    have hl2 : r.getLast? ≠ some 0 := by
      intro e
      cases r with
      | nil => cases e
      | cons x t => exact hl (by rw [List.getLast?_cons_cons]; exact e)
    have h3 := ih hr hl2
    have hne : wv (d :: r) ≠ 0 := by
      intro e
      have e1 : d + 4294967296 * wv r = 0 := e
      have d0 : d = 0 := by omega
      have r0 : wv r = 0 := by omega
      rw [r0, wds_0] at h3
      subst h3
      exact hl (by rw [d0]; rfl)
    rw [wds_pos hne]
    have e1 : wv (d :: r) % 4294967296 = d := by show (d + 4294967296 * wv r) % _ = d; omega
    have e2 : wv (d :: r) / 4294967296 = wv r := by show (d + 4294967296 * wv r) / _ = _; omega
    rw [e1, e2, h3]
theorem wds_last (n : Nat) : (wds n).getLast? ≠ some 0 := by
  induction n using Nat.strongRecOn with
  | ind n ih =>
    by_cases h : n = 0
    · rw [h, wds_0]; simp
    · rw [wds_pos h]
      by_cases h2 : n / 4294967296 = 0
      · rw [h2, wds_0]
        intro e
        have : n % 4294967296 = 0 := by simpa using e
        omega
      · have := ih (n / 4294967296) (by omega)
        rw [wds_pos h2] at this ⊢
        rw [List.getLast?_cons_cons]
        exact this
/-- How many words at the front count. -/
def trimN (l : List Nat) : Nat → Nat
  | 0 => 0
  | n + 1 => if l.getD n 0 = 0 then trimN l n else n + 1
theorem trimN_le (l : List Nat) : ∀ n, trimN l n ≤ n
  | 0 => Nat.le_refl _
  | n + 1 => by
    unfold trimN
    split
    · exact Nat.le_succ_of_le (trimN_le l n)
    · exact Nat.le_refl _
theorem trimN_take (l : List Nat) (h : Wok l) : ∀ n, n ≤ l.length → l.take (trimN l n) = wds (wv (l.take n))
  | 0, _ => by
    show l.take 0 = _
    rw [List.take_zero]
    exact wds_0.symm
  | n + 1, hn => by
    have hg : l[n]? = some (l[n]'(by omega)) := List.getElem?_eq_getElem (by omega)
    have hs : l.take (n + 1) = l.take n ++ [l[n]'(by omega)] := by rw [List.take_add_one, hg]; rfl
    have hd : l.getD n 0 = l[n]'(by omega) := by rw [List.getD_eq_getElem?_getD, hg]; rfl
    unfold trimN
    rw [hd]
    split
    · rename_i h0
      rw [trimN_take l h n (by omega), hs, wv_app]
      congr 1
      show _ = _ + _ * (l[n] + 4294967296 * 0)
      rw [h0]
      simp
    · rename_i h0
      symm
      apply wds_wv
      · intro d hd
        exact h d (List.mem_of_mem_take hd)
      · rw [hs, List.getLast?_concat]
        intro e
        exact h0 (Option.some.inj e)
theorem trim_all {l : List Nat} (h : Wok l) : l.take (trimN l l.length) = wds (wv l) := by
  rw [trimN_take l h _ (Nat.le_refl _), List.take_length]
theorem wv_set (l : List Nat) : ∀ (j : Nat) (x : Nat), j < l.length → wv (l.set j x) + l.getD j 0 * 4294967296 ^ j = wv l + x * 4294967296 ^ j := by
  induction l with
  | nil => intro j x h; simp at h
  | cons d r ih =>
    intro j x h
    cases j with
    | zero =>
      show x + 4294967296 * wv r + d * 1 = d + 4294967296 * wv r + x * 1
      omega
    | succ j =>
      have h1 := ih j x (by simpa using h)
      show d + 4294967296 * wv (r.set j x) + r.getD j 0 * 4294967296 ^ (j + 1) = d + 4294967296 * wv r + x * 4294967296 ^ (j + 1)
      rw [Nat.pow_succ]
      have e1 : ∀ a b : Nat, a * (b * 4294967296) = 4294967296 * (a * b) := fun a b => by rw [← Nat.mul_assoc, Nat.mul_comm]
      rw [e1, e1]
      omega
theorem wv_replicate (n : Nat) : wv (List.replicate n 0) = 0 := by
  induction n with
  | zero => rfl
  | succ n ih => rw [List.replicate_succ]; show 0 + 4294967296 * wv _ = 0; rw [ih]
theorem wv_take_succ {l : List Nat} {k d : Nat} (h : l[k]? = some d) : wv (l.take (k + 1)) = wv (l.take k) + d * 4294967296 ^ k := by
  have hk := (List.getElem?_eq_some_iff.1 h).1
  rw [List.take_add_one, h, wv_app]
  show _ + _ * (d + 4294967296 * 0) = _
  rw [List.length_take, Nat.min_eq_left (by omega), Nat.mul_zero, Nat.add_zero, Nat.mul_comm]
/-- Lengths and sizes. -/
theorem wds_len_le {m n : Nat} (h : m ≤ n) : (wds m).length ≤ (wds n).length := by
  induction n using Nat.strongRecOn generalizing m with
  | ind n ih =>
    by_cases h0 : m = 0
    · rw [h0, wds_0]; exact Nat.zero_le _
    · rw [wds_pos h0, wds_pos (by omega : n ≠ 0)]
      have := ih (n / 4294967296) (by omega) (show m / 4294967296 ≤ n / 4294967296 by omega)
      simpa using this
theorem wds_len (n k : Nat) (h : n < 4294967296 ^ k) : (wds n).length ≤ k := by
  induction k generalizing n with
  | zero =>
    have : n = 0 := by simpa using h
    rw [this, wds_0]
    exact Nat.le_refl _
  | succ k ih =>
    by_cases h0 : n = 0
    · rw [h0, wds_0]; exact Nat.zero_le _
    · rw [wds_pos h0]
      have := ih (n / 4294967296) (by rw [Nat.pow_succ] at h; omega)
      simp
      omega
end Go.Proofs.YtfalbdlfopfgcaaGreatDoor

