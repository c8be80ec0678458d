/- Polynomials of reals that are whole numbers: plus, times, derived and values are exact. No program; conditions: the bounds. -/
import Derived.Test.YtjpimgdmlieinaaDoorEx
import Derived.Test.YtjpimgdmlieinaaDoorPol5
namespace Go.Proofs.YtjpimgdmlieinaaDoor

/-- The polynomial's numbers are those of f, noughts beyond its end. -/
def Ep (p : List Z) (f : Nat → G) : Prop := ∀ i, Gz (pz p i) (f i)
def Bp (f : Nat → G) (b : Nat) : Prop := ∀ i, n1 (f i) ≤ b
theorem pz_over {p : List Z} {i : Nat} (h : p.length ≤ i) : pz p i = (val 0, val 0) := by
  unfold pz
  rw [List.getD_eq_getElem?_getD, List.getElem?_eq_none h]
  rfl
theorem Ep.supp {p : List Z} {f : Nat → G} (h : Ep p f) : ∀ i, p.length ≤ i → f i = g0 := fun i hi => by
  have := h i
  rw [pz_over hi] at this
  exact gz_uniq this gz_zero
theorem zv_pz {p : List Z} {k : Nat} {z : Z} (h : p[k]? = some z) : zv z = pz p k := by
  unfold pz
  rw [List.getD_eq_getElem?_getD, h]
  rfl
theorem Ep.pf {p : List Z} {f : Nat → G} (h : Ep p f) : pf p = true := by
  unfold Go.Proofs.YtjpimgdmlieinaaDoor.pf
  rw [List.all_eq_true]
  intro z hz
  obtain ⟨k, hk⟩ := List.mem_iff_getElem?.1 hz
  rw [zv_pz hk]
  exact gz_fin (h k)
/-- Out of what was computed. -/
theorem ep_of {l : List Z} {n : Nat} {F : Nat → CV} {f : Nat → G} (hl : l.map zv = (List.range n).map F) (hF : ∀ i, i < n → Gz (F i) (f i)) (h0 : ∀ i, n ≤ i → f i = g0) : Ep l f := by
  have hn : l.length = n := by rw [← List.length_map (f := zv), hl]; simp
  intro i
  by_cases h : i < n
  · have e : pz l i = F i := by
      have := congrArg (fun x => x[i]?) hl
      simp only [List.getElem?_map, List.getElem?_range h, Option.map_some] at this
      obtain ⟨z, hz⟩ : ∃ z, l[i]? = some z := ⟨l[i]'(by omega), List.getElem?_eq_getElem (by omega)⟩
      rw [hz] at this
      rw [← zv_pz hz]
      exact Option.some.inj this
    rw [e]
    exact hF i h
  · rw [pz_over (by omega), h0 i (by omega)]
    exact gz_zero
theorem all_fin {n : Nat} {F : Nat → CV} {f : Nat → G} (hF : ∀ i, i < n → Gz (F i) (f i)) : ((List.range n).map F).all cfin = true := by
  rw [List.all_eq_true]
  intro c hc
  obtain ⟨i, hi, rfl⟩ := List.mem_map.1 hc
  exact gz_fin (hF i (List.mem_range.1 hi))
theorem both_ok {p q : List Z} {f g : Nat → G} (hp : Ep p f) (hq : Ep q g) (h1 : p.length ≤ 256) (h2 : q.length ≤ 256) : bothE p q = 0 := by
  unfold bothE
  rw [if_neg (by omega), hp.pf, hq.pf]
  rfl

theorem plus_ex {p q l : List Z} {f g : Nat → G} {a b : Nat} (hp : Ep p f) (hq : Ep q g) (ha : Bp f a) (hb : Bp g b) (hab : a + b ≤ 9007199254740992) (h1 : p.length ≤ 256) (h2 : q.length ≤ 256) :
    (plusR p q).2 = 0 ∧ (l.map zv = (plusR p q).1 → Ep l (fun i => gadd (f i) (g i)) ∧ l.length = max p.length q.length) := by
  have hF : ∀ i, i < max p.length q.length → Gz (plusA p q i) (gadd (f i) (g i)) := by
    intro i hi
    unfold plusA
    split
    · rename_i h
      rw [hq.supp i h, gadd_z]
      exact hp i
    · split
      · rename_i h
        rw [hp.supp i h, gz_add]
        exact hq i
      · exact gzv_add (hp i) (hq i) (by have := ha i; have := hb i; omega)
  have e : plusR p q = (plusV p q, 0) := by
    unfold plusR tol
    rw [if_pos (both_ok hp hq h1 h2), if_pos (show (plusV p q).all cfin = true from all_fin hF)]
  rw [e]
  refine ⟨rfl, fun hl => ⟨ep_of hl hF fun i hi => ?_, ?_⟩⟩
  · rw [hp.supp i (by omega), hq.supp i (by omega)]
    rfl
  · rw [← List.length_map (f := zv), hl]
    simp [plusV]

theorem timA_ex {p q : List Z} {f g : Nat → G} {a b : Nat} (hp : Ep p f) (hq : Ep q g) (ha : Bp f a) (hb : Bp g b) (m n : Nat) (hab : n * (a * b) ≤ 9007199254740992) :
    ∀ k, k ≤ n → Gz (timA p q m k) (cvk f g m k) ∧ n1 (cvk f g m k) ≤ k * (a * b)
  | 0, _ => ⟨gz_zero, by simp [cvk, n1, g0]⟩
  | k + 1, hk => by
    obtain ⟨ih, ib⟩ := timA_ex hp hq ha hb m n hab k (by omega)
    have hm : n1 (f k) * n1 (g (m - k)) ≤ a * b := Nat.mul_le_mul (ha k) (hb _)
    have hn : (k + 1) * (a * b) ≤ n * (a * b) := Nat.mul_le_mul_right _ hk
    have hs : (k + 1) * (a * b) = k * (a * b) + a * b := by rw [Nat.add_mul, Nat.one_mul]
    have hmm := n1_mul (f k) (g (m - k))
    rw [timA, cvk]
    by_cases h1 : k ≤ m
    · rw [if_pos h1]
      have hadd := n1_add (cvk f g m k) (gmul (f k) (g (m - k)))
      refine ⟨?_, by omega⟩
      by_cases h2 : m - k < q.length
      · rw [if_pos ⟨h1, h2⟩]
        exact gzv_add ih (gzv_mul (hp k) (hq _) (by omega)) (by omega)
      · rw [if_neg (fun h => h2 h.2), hq.supp _ (by omega), gmul_z, gadd_z]
        exact ih
    · rw [if_neg h1, if_neg (fun h => h1 h.1)]
      exact ⟨ih, by omega⟩
theorem cvk_none {f g : Nat → G} {m n : Nat} (k : Nat) (hg : ∀ i, n ≤ i → g i = g0) (h : k + n ≤ m + 1) : cvk f g m k = g0 := by
  induction k with
  | zero => rfl
  | succ k ih =>
    rw [cvk, ih (by omega)]
    split
    · rw [hg _ (by omega), gmul_z, gadd_z]
    · rfl
theorem times_ex {p q l : List Z} {f g : Nat → G} {a b : Nat} (hp : Ep p f) (hq : Ep q g) (ha : Bp f a) (hb : Bp g b) (hab : p.length * (a * b) ≤ 9007199254740992) (h1 : p.length + q.length ≤ 256) :
    (timR p q).2 = 0 ∧ (l.map zv = (timR p q).1 → Ep l (cvl f g) ∧ l.length ≤ p.length + q.length - 1) ∧ Bp (cvl f g) (p.length * (a * b)) := by
  have hB := both_ok hp hq (by omega) (by omega)
  have hc : ∀ m, cvl f g m = cvk f g m p.length := fun m => (cvk_all f g m p.length hp.supp).symm
  have hbp : Bp (cvl f g) (p.length * (a * b)) := fun m => by
    rw [hc]
    exact (timA_ex hp hq ha hb m p.length hab p.length (Nat.le_refl _)).2
  by_cases h0 : p.length = 0 ∨ q.length = 0
  · have e : timR p q = ([], 0) := by
      unfold timR
      rw [if_pos hB, if_pos h0]
    rw [e]
    refine ⟨rfl, fun hl => ?_, hbp⟩
    have hn : l = [] := by cases l with | nil => rfl | cons x t => simp at hl
    subst hn
    refine ⟨fun m => ?_, by simp⟩
    rw [pz_over (by simp), hc]
    rcases h0 with h0 | h0
    · rw [h0]
      exact gz_zero
    · have : cvk f g m p.length = g0 := by
        generalize p.length = k
        induction k with
        | zero => rfl
        | succ k ih =>
          rw [cvk, ih]
          split
          · rw [hq.supp _ (by omega), gmul_z, gadd_z]
          · rfl
      rw [this]
      exact gz_zero
  · have hF : ∀ m, m < p.length + q.length - 1 → Gz (timA p q m p.length) (cvl f g m) := fun m _ => by
      rw [hc]
      exact (timA_ex hp hq ha hb m p.length hab p.length (Nat.le_refl _)).1
    have e : timR p q = (timV p q, 0) := by
      unfold timR tol
      rw [if_pos hB, if_neg h0, if_neg (by omega), if_pos (show (timV p q).all cfin = true from all_fin hF)]
    rw [e]
    refine ⟨rfl, fun hl => ⟨ep_of hl hF fun m hm => ?_, ?_⟩, hbp⟩
    · rw [hc]
      exact cvk_none _ hq.supp (by omega)
    · rw [← List.length_map (f := zv), hl]
      simp [timV]

theorem der_ex {p l : List Z} {f : Nat → G} {a : Nat} (hp : Ep p f) (ha : Bp f a) (hn : p.length ≤ 19) (hab : 20 * a ≤ 9007199254740992) :
    (derR p).2 = 0 ∧ (l.map zv = (derR p).1 → Ep l (dv f) ∧ l.length = p.length - 1) ∧ Bp (dv f) (p.length * a) := by
  have hF : ∀ i, i < p.length - 1 → Gz (derA p i) (dv f i) := by
    intro i hi
    unfold derA dv
    have := gzv_sc (n := i + 1) (by omega) (hp (i + 1)) (Nat.le_trans (Nat.mul_le_mul (by omega : i + 1 ≤ 20) (ha (i + 1))) hab)
    rw [show ((i + 1 : Nat) : Int) = (i : Int) + 1 by omega] at this
    exact this
  have h0 : ∀ i, p.length - 1 ≤ i → dv f i = g0 := fun i hi => by
    unfold dv
    rw [hp.supp _ (by omega), gsc_z]
  have hr : refE p = 0 := by
    unfold refE
    rw [if_neg (by omega), if_pos hp.pf]
  have e : derR p = (derV p, 0) := by
    unfold derR tol
    rw [if_pos hr, if_pos (show (derV p).all cfin = true from all_fin hF)]
  rw [e]
  refine ⟨rfl, fun hl => ⟨ep_of hl hF h0, ?_⟩, fun i => ?_⟩
  · rw [← List.length_map (f := zv), hl]
    simp [derV]
  · by_cases hi : i < p.length
    · have e1 : n1 (dv f i) = (i + 1) * n1 (f (i + 1)) := by
        unfold n1 dv gsc
        simp only [Int.natAbs_mul, Int.natAbs_natCast, Nat.mul_add]
      rw [e1]
      exact Nat.mul_le_mul (by omega) (ha _)
    · rw [h0 i (by omega)]
      simp [n1, g0]

theorem hor_ex {p : List Z} {f : Nat → G} {z : CV} {c : G} {a : Nat} (hp : Ep p f) (ha : Bp f a) (hz : Gz z c) (hc : n1 c ≤ 8) (n : Nat) (hn : 9 ^ (n + 1) * a ≤ 9007199254740992) :
    ∀ (k j : Nat) (x : CV) (y : G), k + j = n → Gz x y → n1 y ≤ 9 ^ j * a → Gz (horN p z k x) (hor c f k y) ∧ n1 (hor c f k y) ≤ 9 ^ n * a
  | 0, j, x, y, h, hx, hy => by
    obtain rfl : j = n := by omega
    exact ⟨hx, hy⟩
  | k + 1, j, x, y, h, hx, hy => by
    have hj : 9 ^ (j + 1) * a ≤ 9 ^ (n + 1) * a := Nat.mul_le_mul_right _ (Nat.pow_le_pow_right (by omega) (by omega))
    have hs : 9 ^ (j + 1) * a = 9 * (9 ^ j * a) := by rw [Nat.pow_succ]; simp only [Nat.mul_left_comm, Nat.mul_comm]
    have hp1 : a ≤ 9 ^ j * a := Nat.le_mul_of_pos_left _ (Nat.pow_pos (by omega))
    have m1 : n1 y * n1 c ≤ 9 ^ j * a * 8 := Nat.mul_le_mul hy hc
    have m2 := n1_mul y c
    have m3 := n1_add (gmul y c) (f k)
    have m4 := ha k
    exact hor_ex hp ha hz hc n hn k (j + 1) _ _ (by omega) (gzv_add (gzv_mul hx hz (by omega)) (hp k) (by omega)) (by omega)
theorem at_ex {p : List Z} {f : Nat → G} {z : CV} {c : G} {a : Nat} (hp : Ep p f) (ha : Bp f a) (hz : Gz z c) (hc : n1 c ≤ 8) (n : Nat) (hl : p.length ≤ n) (hn : 9 ^ (n + 1) * a ≤ 9007199254740992) (h256 : n ≤ 256) :
    atE p z = 0 ∧ Gz (atG p z) (ev c n f) ∧ n1 (ev c n f) ≤ 9 ^ n * a := by
  have hh : Gz (horner p z) (ev c n f) ∧ n1 (ev c n f) ≤ 9 ^ n * a := by
    rw [ev_stays c f hp.supp hl]
    unfold horner
    by_cases h0 : p.length = 0
    · rw [if_pos h0, h0]
      exact ⟨gz_zero, by simp [ev, n1, g0]⟩
    · rw [if_neg h0]
      obtain ⟨k, hk⟩ : ∃ k, p.length = k + 1 := ⟨p.length - 1, by omega⟩
      have hs := hp k
      have hkk : 9 ^ (k + 1) * a ≤ 9 ^ (n + 1) * a := Nat.mul_le_mul_right _ (Nat.pow_le_pow_right (by omega) (by omega))
      have hk2 : 9 ^ k * a ≤ 9 ^ n * a := Nat.mul_le_mul_right _ (Nat.pow_le_pow_right (by omega) (by omega))
      obtain ⟨h1, h2⟩ := hor_ex hp ha hz hc k (by omega) k 0 (zv (p.getD k (0, 0))) (f k) (by omega) hs (by rw [Nat.pow_zero, Nat.one_mul]; exact ha k)
      have e : hor c f k (f k) = ev c (k + 1) f := by rw [hor_ev, ev_top]
      rw [e] at h1 h2
      rw [hk, Nat.add_sub_cancel]
      exact ⟨h1, by omega⟩
  have he : atE p z = 0 := by
    have hr : refE p = 0 := by
      unfold refE
      rw [if_neg (by omega), if_pos hp.pf]
    unfold atE
    rw [if_pos hr, if_pos (gz_fin hz), if_pos (gz_fin hh.1)]
  refine ⟨he, ?_, hh.2⟩
  unfold atG
  rw [if_pos he]
  exact hh.1
end Go.Proofs.YtjpimgdmlieinaaDoor
