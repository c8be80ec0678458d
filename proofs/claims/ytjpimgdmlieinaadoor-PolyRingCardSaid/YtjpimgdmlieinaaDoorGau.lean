/- Polynomials over numbers of whole parts: sums, products, derived ones, values. No program; no condition but that what lies beyond the end is nought. -/
import Derived.Test.YtjpimgdmlieinaaDoorFl
namespace Go.Proofs.YtjpimgdmlieinaaDoor

abbrev G := Int × Int
def g0 : G := (0, 0)
def gadd (a b : G) : G := (a.1 + b.1, a.2 + b.2)
def gmul (a b : G) : G := (a.1 * b.1 - a.2 * b.2, a.1 * b.2 + a.2 * b.1)
def gsc (n : Nat) (a : G) : G := ((n : Int) * a.1, (n : Int) * a.2)
theorem gadd_z (a : G) : gadd a g0 = a := by simp [gadd, g0]
theorem gz_add (a : G) : gadd g0 a = a := by simp [gadd, g0]
theorem gmul_z (a : G) : gmul a g0 = g0 := by simp [gmul, g0]
theorem gz_mul (a : G) : gmul g0 a = g0 := by simp [gmul, g0]
theorem gsc_z (n : Nat) : gsc n g0 = g0 := by simp [gsc, g0]
theorem gadd_comm (a b : G) : gadd a b = gadd b a := by simp [gadd]; omega
theorem gadd_assoc (a b c : G) : gadd (gadd a b) c = gadd a (gadd b c) := by simp [gadd]; omega
theorem gmul_comm (a b : G) : gmul a b = gmul b a := by
  apply Prod.ext <;> simp only [gmul] <;> grind
theorem gmul_add (a b c : G) : gmul a (gadd b c) = gadd (gmul a b) (gmul a c) := by
  apply Prod.ext <;> simp only [gmul, gadd] <;> grind
theorem gadd_mul (a b c : G) : gmul (gadd a b) c = gadd (gmul a c) (gmul b c) := by
  apply Prod.ext <;> simp only [gmul, gadd] <;> grind
theorem gmul_assoc (a b c : G) : gmul (gmul a b) c = gmul a (gmul b c) := by
  apply Prod.ext <;> simp only [gmul] <;> grind
theorem gmul_left (a b c : G) : gmul a (gmul b c) = gmul b (gmul a c) := by
  apply Prod.ext <;> simp only [gmul] <;> grind
theorem gadd_left (a b c : G) : gadd a (gadd b c) = gadd b (gadd a c) := by simp [gadd]; omega
theorem gsc_add (n : Nat) (a b : G) : gsc n (gadd a b) = gadd (gsc n a) (gsc n b) := by
  apply Prod.ext <;> simp only [gsc, gadd] <;> grind
theorem gsc_mul (n : Nat) (a b : G) : gsc n (gmul a b) = gmul a (gsc n b) := by
  apply Prod.ext <;> simp only [gsc, gmul] <;> grind
theorem gsc_mul' (n : Nat) (a b : G) : gsc n (gmul a b) = gmul (gsc n a) b := by
  apply Prod.ext <;> simp only [gsc, gmul] <;> grind
theorem gsc_succ (n : Nat) (a : G) : gsc (n + 1) a = gadd a (gsc n a) := by
  apply Prod.ext <;> simp only [gsc, gadd] <;> grind
theorem gsc_one (a : G) : gsc 1 a = a := by simp [gsc]

/-! ### Values -/
def ev (z : G) : Nat → (Nat → G) → G
  | 0, _ => g0
  | n + 1, f => gadd (f 0) (gmul z (ev z n fun i => f (i + 1)))
def gpow (z : G) : Nat → G
  | 0 => (1, 0)
  | n + 1 => gmul z (gpow z n)
def hor (z : G) (f : Nat → G) : Nat → G → G
  | 0, x => x
  | k + 1, x => hor z f k (gadd (gmul x z) (f k))
theorem gmul_one (a : G) : gmul a (1, 0) = a := by simp [gmul]
theorem ev_top (z : G) : ∀ (n : Nat) (f : Nat → G), ev z (n + 1) f = gadd (ev z n f) (gmul (f n) (gpow z n))
  | 0, f => by simp [ev, gpow, gmul_one, gmul_z, gadd_z, gz_add]
  | n + 1, f => by
    rw [ev, ev_top z n, ev, gpow, gmul_add, ← gadd_assoc, gmul_left]
theorem hor_ev (z : G) (f : Nat → G) : ∀ (n : Nat) (x : G), hor z f n x = gadd (ev z n f) (gmul x (gpow z n))
  | 0, x => by rw [hor, ev, gpow, gmul_one, gz_add]
  | n + 1, x => by
    rw [hor, hor_ev z f n, ev_top, gpow, gadd_mul, gadd_assoc, gadd_comm (gmul (f n) _), gmul_assoc]
theorem ev_zero (z : G) : ∀ n, ev z n (fun _ => g0) = g0
  | 0 => rfl
  | n + 1 => by rw [ev, ev_zero z n, gmul_z, gadd_z]
theorem ev_stay (z : G) (f : Nat → G) (n : Nat) (h : ∀ i, n ≤ i → f i = g0) : ∀ d, ev z (n + d) f = ev z n f
  | 0 => rfl
  | d + 1 => by rw [← Nat.add_assoc, ev_top, h _ (by omega), gz_mul, gadd_z, ev_stay z f n h d]
theorem ev_stays (z : G) (f : Nat → G) {n m : Nat} (h : ∀ i, n ≤ i → f i = g0) (hm : n ≤ m) : ev z m f = ev z n f := by
  obtain ⟨d, rfl⟩ := Nat.exists_eq_add_of_le hm
  exact ev_stay z f n h d
theorem ev_add (z : G) : ∀ (n : Nat) (f g : Nat → G), ev z n (fun i => gadd (f i) (g i)) = gadd (ev z n f) (ev z n g)
  | 0, f, g => rfl
  | n + 1, f, g => by
    rw [ev, ev, ev, ev_add z n, gmul_add, gadd_assoc, gadd_assoc, gadd_left (g 0)]
theorem ev_mul (z c : G) : ∀ (n : Nat) (f : Nat → G), ev z n (fun i => gmul c (f i)) = gmul c (ev z n f)
  | 0, f => (gmul_z c).symm
  | n + 1, f => by rw [ev, ev, ev_mul z c n, gmul_add, gmul_left]

/-! ### Products -/
/-- The product's number m. -/
def cvl (f g : Nat → G) : Nat → G
  | 0 => gmul (f 0) (g 0)
  | m + 1 => gadd (gmul (f 0) (g (m + 1))) (cvl (fun i => f (i + 1)) g m)
/-- Its part out of the first k of f. -/
def cvk (f g : Nat → G) (m : Nat) : Nat → G
  | 0 => g0
  | k + 1 => if k ≤ m then gadd (cvk f g m k) (gmul (f k) (g (m - k))) else cvk f g m k
theorem cvk_low (f g : Nat → G) (m : Nat) : ∀ k, cvk f g (m + 1) (k + 1) = gadd (gmul (f 0) (g (m + 1))) (cvk (fun i => f (i + 1)) g m k)
  | 0 => by simp [cvk, gz_add, gadd_z]
  | k + 1 => by
    rw [cvk, cvk_low f g m k, cvk]
    by_cases h : k ≤ m
    · rw [if_pos (by omega), if_pos h, gadd_assoc, show m + 1 - (k + 1) = m - k by omega]
    · rw [if_neg (by omega), if_neg h]
theorem cvk_cvl (g : Nat → G) : ∀ (m : Nat) (f : Nat → G), cvk f g m (m + 1) = cvl f g m
  | 0, f => by rw [cvk, if_pos (by omega), cvk, cvl, gz_add]
  | m + 1, f => by rw [cvk_low, cvk_cvl g m, cvl]
theorem cvk_over (f g : Nat → G) (m : Nat) : ∀ d, cvk f g m (m + 1 + d) = cvk f g m (m + 1)
  | 0 => rfl
  | d + 1 => by rw [← Nat.add_assoc, cvk, if_neg (by omega), cvk_over f g m d]
theorem cvk_end (f g : Nat → G) (m k : Nat) (h : ∀ i, k ≤ i → f i = g0) : ∀ d, cvk f g m (k + d) = cvk f g m k
  | 0 => rfl
  | d + 1 => by
    rw [← Nat.add_assoc, cvk, cvk_end f g m k h d]
    split
    · rw [h _ (by omega), gz_mul, gadd_z]
    · rfl
/-- Out of all of f: the product's number. -/
theorem cvk_all (f g : Nat → G) (m k : Nat) (h : ∀ i, k ≤ i → f i = g0) : cvk f g m k = cvl f g m := by
  rw [← cvk_cvl]
  rcases Nat.le_total k (m + 1) with h1 | h1
  · obtain ⟨d, e⟩ := Nat.exists_eq_add_of_le h1
    rw [e, cvk_end f g m k h d]
  · obtain ⟨d, e⟩ := Nat.exists_eq_add_of_le h1
    rw [e, cvk_over]
theorem cvl_high : ∀ (m : Nat) (f g : Nat → G), cvl f g (m + 1) = gadd (cvl f (fun i => g (i + 1)) m) (gmul (f (m + 1)) (g 0))
  | 0, f, g => rfl
  | m + 1, f, g => by
    rw [cvl, cvl_high m, cvl, gadd_assoc]
theorem cvl_comm : ∀ (m : Nat) (f g : Nat → G), cvl f g m = cvl g f m
  | 0, f, g => gmul_comm _ _
  | m + 1, f, g => by
    rw [cvl, cvl_high m g f, cvl_comm m, gadd_comm, gmul_comm (f 0)]
theorem cvl_zero (g : Nat → G) : ∀ (m : Nat), cvl (fun _ => g0) g m = g0
  | 0 => gz_mul _
  | m + 1 => by rw [cvl, cvl_zero g m, gz_mul, gadd_z]
theorem cvl_congr : ∀ (m : Nat) {f f' g g' : Nat → G}, (∀ i, f i = f' i) → (∀ i, g i = g' i) → cvl f g m = cvl f' g' m
  | 0, f, f', g, g', h1, h2 => by rw [cvl, cvl, h1, h2]
  | m + 1, f, f', g, g', h1, h2 => by rw [cvl, cvl, h1, h2, cvl_congr m (fun i => h1 (i + 1)) h2]
theorem cvl_add : ∀ (m : Nat) (f f' g : Nat → G), cvl (fun i => gadd (f i) (f' i)) g m = gadd (cvl f g m) (cvl f' g m)
  | 0, f, f', g => gadd_mul _ _ _
  | m + 1, f, f', g => by rw [cvl, cvl, cvl, cvl_add m, gadd_mul, gadd_assoc, gadd_assoc, gadd_left (gmul (f' 0) _)]
/-- The value of a product. -/
theorem ev_cvl (z : G) (g : Nat → G) (n : Nat) (hg : ∀ i, n ≤ i → g i = g0) : ∀ (k : Nat) (f : Nat → G), (∀ i, k ≤ i → f i = g0) → ev z (k + n) (cvl f g) = gmul (ev z k f) (ev z n g)
  | 0, f, hf => by
    have e : cvl f g = fun _ => g0 := by
      funext m
      rw [cvl_congr m (f' := fun _ => g0) (fun i => hf i (by omega)) (fun i => rfl), cvl_zero]
    rw [e, ev_zero, ev, gz_mul]
  | k + 1, f, hf => by
    have ih := ev_cvl z g n hg k (fun i => f (i + 1)) (fun i hi => hf (i + 1) (by omega))
    have e : cvl f g = fun m => gadd (gmul (f 0) (g m)) (match m with | 0 => g0 | m + 1 => cvl (fun i => f (i + 1)) g m) := by
      funext m
      cases m with
      | zero => rw [cvl, gadd_z]
      | succ m => rfl
    rw [e, ev_add, ev_mul, show k + 1 + n = (k + n) + 1 by omega, ev_stays z g hg (by omega : n ≤ k + n + 1)]
    rw [ev, gz_add, ih, ev, gadd_mul, gmul_assoc]

/-! ### Derived -/
def dv (f : Nat → G) (i : Nat) : G := gsc (i + 1) (f (i + 1))
theorem dv_cvl : ∀ (m : Nat) (f g : Nat → G), dv (cvl f g) m = gadd (cvl (dv f) g m) (cvl f (dv g) m)
  | 0, f, g => by
    simp only [dv, cvl]
    simp only [gsc_one, Nat.zero_add]
    rw [gadd_comm]
  | m + 1, f, g => by
    have ih := dv_cvl m (fun i => f (i + 1)) g
    have e : cvl (dv f) g (m + 1) = gadd (cvl (fun i => f (i + 1)) g (m + 1)) (cvl (dv fun i => f (i + 1)) g m) := by
      have e1 : ∀ i, dv f i = gadd (f (i + 1)) (gsc i (f (i + 1))) := fun i => gsc_succ i _
      rw [cvl_congr (m + 1) e1 (fun i => rfl), cvl_add]
      congr 1
      rw [cvl]
      have e2 : gsc 0 (f (0 + 1)) = g0 := by simp [gsc, g0]
      rw [e2, gz_mul, gz_add]
      rfl
    have e3 : dv (cvl f g) (m + 1) = gadd (gmul (f 0) (dv g (m + 1))) (gadd (cvl (fun i => f (i + 1)) g (m + 1)) (dv (cvl (fun i => f (i + 1)) g) m)) := by
      rw [dv, show cvl f g (m + 1 + 1) = gadd (gmul (f 0) (g (m + 1 + 1))) (cvl (fun i => f (i + 1)) g (m + 1)) from rfl, gsc_add, gsc_mul]
      congr 1
      rw [gsc_succ]
      rfl
    rw [e, e3, ih, show cvl f (dv g) (m + 1) = gadd (gmul (f 0) (dv g (m + 1))) (cvl (fun i => f (i + 1)) (dv g) m) from rfl]
    generalize gmul (f 0) (dv g (m + 1)) = a
    generalize cvl (fun i => f (i + 1)) g (m + 1) = x
    generalize cvl (dv fun i => f (i + 1)) g m = y
    generalize cvl (fun i => f (i + 1)) (dv g) m = u
    rw [gadd_left a x, gadd_assoc x y, gadd_left y a]
end Go.Proofs.YtjpimgdmlieinaaDoor
