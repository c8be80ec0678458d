/- Whole numbers as words of 32 bits, the lowest first, plainly. No condition. The real nearest to a fraction, as gridworkwide.Near finds it, plainly. No condition. Words of 32 bits: what comparing, subtracting, halving, shifting and multiplying them does, plainly. No condition. Words of 32 bits in memory; gridworkwide.trimmed, Of, compare, Bits. Conditions: words are below 2^32, rows not too long. -/
import Derived.Test.YtfalbdlfopfgcaaGreatDoorFlM
namespace Go.Proofs.YtfalbdlfopfgcaaGreatDoor

/-- What words stand for. -/
def wv : List Nat → Nat
  | [] => 0
  | d :: r => d + 4294967296 * wv r
/-- The words of a number: none of 0, no 0 at the end. -/
def wds (n : Nat) : List Nat := if h : n = 0 then [] else (n % 4294967296) :: wds (n / 4294967296)
termination_by n
decreasing_by omega
def Wok (l : List Nat) : Prop := ∀ d ∈ l, d < 4294967296
theorem wds_0 : wds 0 = [] := by rw [wds]; rfl
theorem wds_pos {n : Nat} (h : n ≠ 0) : wds n = (n % 4294967296) :: wds (n / 4294967296) := by rw [wds, dif_neg h]
theorem wv_wds (n : Nat) : wv (wds n) = n := by
  induction n using Nat.strongRecOn with
  | ind n ih =>
    by_cases h : n = 0
    · rw [h, wds_0]; rfl
    · rw [wds_pos h]
      show n % 4294967296 + 4294967296 * wv (wds (n / 4294967296)) = n
      rw [ih _ (by omega)]
      omega
theorem wok_wds (n : Nat) : Wok (wds n) := by
  induction n using Nat.strongRecOn with
  | ind n ih =>
    by_cases h : n = 0
    · rw [h, wds_0]; intro d hd; cases hd
    · rw [wds_pos h]
      intro d hd
      rcases List.mem_cons.1 hd with rfl | hd
      · omega
      · exact ih _ (by omega) d hd
theorem wv_app (a b : List Nat) : wv (a ++ b) = wv a + 4294967296 ^ a.length * wv b := by
  induction a with
  | nil => simp [wv]
  | cons d r ih =>
    show d + 4294967296 * wv (r ++ b) = d + 4294967296 * wv r + 4294967296 ^ (r.length + 1) * wv b
    rw [ih, Nat.mul_add, Nat.pow_succ, Nat.mul_comm (4294967296 ^ r.length) 4294967296, Nat.mul_assoc, Nat.add_assoc]
theorem wv_lt {l : List Nat} (h : Wok l) : wv l < 4294967296 ^ l.length := by
  induction l with
  | nil => simp [wv]
  | cons d r ih =>
    have h1 := ih fun x hx => h x (List.mem_cons_of_mem _ hx)
    have h2 := h d (List.mem_cons_self ..)
    show d + 4294967296 * wv r < 4294967296 ^ (r.length + 1)
    rw [Nat.pow_succ]
    omega
/-- Words whose last is no 0 are the number's own. -/
theorem wds_wv {l : List Nat} (h : Wok l) (hl : l.getLast? ≠ some 0) : wds (wv l) = l := by
  induction l with
  | nil => exact wds_0
  | cons d r ih =>
    have h2 := h d (List.mem_cons_self ..)
    have hr : Wok r := fun x hx => h x (List.mem_cons_of_mem _ hx)
    have hl2 : r.getLast? ≠ some 0 := by
      intro e
      cases r with
      | nil => cases e
      | cons x t => exact hl (by rw [List.getLast?_cons_cons]; exact e)
    have h3 := ih hr hl2
    have hne : wv (d :: r) ≠ 0 := by
      intro e
      have e1 : d + 4294967296 * wv r = 0 := e
      have d0 : d = 0 := by omega
      have r0 : wv r = 0 := by omega
      rw [r0, wds_0] at h3
      subst h3
      exact hl (by rw [d0]; rfl)
    rw [wds_pos hne]
    have e1 : wv (d :: r) % 4294967296 = d := by show (d + 4294967296 * wv r) % _ = d; omega
    have e2 : wv (d :: r) / 4294967296 = wv r := by show (d + 4294967296 * wv r) / _ = _; omega
    rw [e1, e2, h3]
theorem wds_last (n : Nat) : (wds n).getLast? ≠ some 0 := by
  induction n using Nat.strongRecOn with
  | ind n ih =>
    by_cases h : n = 0
    · rw [h, wds_0]; simp
    · rw [wds_pos h]
      by_cases h2 : n / 4294967296 = 0
      · rw [h2, wds_0]
        intro e
        have : n % 4294967296 = 0 := by simpa using e
        omega
      · have := ih (n / 4294967296) (by omega)
        rw [wds_pos h2] at this ⊢
        rw [List.getLast?_cons_cons]
        exact this
/-- How many words at the front count. -/
def trimN (l : List Nat) : Nat → Nat
  | 0 => 0
  | n + 1 => if l.getD n 0 = 0 then trimN l n else n + 1
theorem trimN_le (l : List Nat) : ∀ n, trimN l n ≤ n
  | 0 => Nat.le_refl _
  | n + 1 => by
    unfold trimN
    split
    · exact Nat.le_succ_of_le (trimN_le l n)
    · exact Nat.le_refl _
theorem trimN_take (l : List Nat) (h : Wok l) : ∀ n, n ≤ l.length → l.take (trimN l n) = wds (wv (l.take n))
  | 0, _ => by
    show l.take 0 = _
    rw [List.take_zero]
    exact wds_0.symm
  | n + 1, hn => by
    have hg : l[n]? = some (l[n]'(by omega)) := List.getElem?_eq_getElem (by omega)
    have hs : l.take (n + 1) = l.take n ++ [l[n]'(by omega)] := by rw [List.take_add_one, hg]; rfl
    have hd : l.getD n 0 = l[n]'(by omega) := by rw [List.getD_eq_getElem?_getD, hg]; rfl
    unfold trimN
    rw [hd]
    split
    · rename_i h0
      rw [trimN_take l h n (by omega), hs, wv_app]
      congr 1
      show _ = _ + _ * (l[n] + 4294967296 * 0)
      rw [h0]
      simp
    · rename_i h0
      symm
      apply wds_wv
      · intro d hd
        exact h d (List.mem_of_mem_take hd)
      · rw [hs, List.getLast?_concat]
        intro e
        exact h0 (Option.some.inj e)
theorem trim_all {l : List Nat} (h : Wok l) : l.take (trimN l l.length) = wds (wv l) := by
  rw [trimN_take l h _ (Nat.le_refl _), List.take_length]
theorem wv_set (l : List Nat) : ∀ (j : Nat) (x : Nat), j < l.length → wv (l.set j x) + l.getD j 0 * 4294967296 ^ j = wv l + x * 4294967296 ^ j := by
  induction l with
  | nil => intro j x h; simp at h
  | cons d r ih =>
    intro j x h
    cases j with
    | zero =>
      show x + 4294967296 * wv r + d * 1 = d + 4294967296 * wv r + x * 1
      omega
    | succ j =>
      have h1 := ih j x (by simpa using h)
      show d + 4294967296 * wv (r.set j x) + r.getD j 0 * 4294967296 ^ (j + 1) = d + 4294967296 * wv r + x * 4294967296 ^ (j + 1)
      rw [Nat.pow_succ]
      have e1 : ∀ a b : Nat, a * (b * 4294967296) = 4294967296 * (a * b) := fun a b => by rw [← Nat.mul_assoc, Nat.mul_comm]
      rw [e1, e1]
      omega
theorem wv_replicate (n : Nat) : wv (List.replicate n 0) = 0 := by
  induction n with
  | zero => rfl
  | succ n ih => rw [List.replicate_succ]; show 0 + 4294967296 * wv _ = 0; rw [ih]
theorem wv_take_succ {l : List Nat} {k d : Nat} (h : l[k]? = some d) : wv (l.take (k + 1)) = wv (l.take k) + d * 4294967296 ^ k := by
  have hk := (List.getElem?_eq_some_iff.1 h).1
  rw [List.take_add_one, h, wv_app]
  show _ + _ * (d + 4294967296 * 0) = _
  rw [List.length_take, Nat.min_eq_left (by omega), Nat.mul_zero, Nat.add_zero, Nat.mul_comm]
/-- Lengths and sizes. -/
theorem wds_len_le {m n : Nat} (h : m ≤ n) : (wds m).length ≤ (wds n).length := by
  induction n using Nat.strongRecOn generalizing m with
  | ind n ih =>
    by_cases h0 : m = 0
    · rw [h0, wds_0]; exact Nat.zero_le _
    · rw [wds_pos h0, wds_pos (by omega : n ≠ 0)]
      have := ih (n / 4294967296) (by omega) (show m / 4294967296 ≤ n / 4294967296 by omega)
      simpa using this
theorem wds_len (n k : Nat) (h : n < 4294967296 ^ k) : (wds n).length ≤ k := by
  induction k generalizing n with
  | zero =>
    have : n = 0 := by simpa using h
    rw [this, wds_0]
    exact Nat.le_refl _
  | succ k ih =>
    by_cases h0 : n = 0
    · rw [h0, wds_0]; exact Nat.zero_le _
    · rw [wds_pos h0]
      have := ih (n / 4294967296) (by rw [Nat.pow_succ] at h; omega)
      simp
      omega
end Go.Proofs.YtfalbdlfopfgcaaGreatDoor

namespace Go.Proofs.YtfalbdlfopfgcaaGreatDoor

/-- How many bits a number needs. -/
def bitsN (n : Nat) : Nat := if n = 0 then 0 else Nat.log2 n + 1
theorem bits_lt (n : Nat) : n < 2 ^ bitsN n := by
  unfold bitsN
  split
  · rename_i h; rw [h]; exact Nat.one_pos
  · exact Nat.lt_log2_self
theorem bits_le {n : Nat} (h : n ≠ 0) : 2 ^ (bitsN n - 1) ≤ n := by
  unfold bitsN
  rw [if_neg h, Nat.add_sub_cancel]
  exact Nat.log2_self_le h
theorem bits_pos {n : Nat} (h : n ≠ 0) : 1 ≤ bitsN n := by
  unfold bitsN
  rw [if_neg h]
  omega
/-- The fraction in units of 2^u. -/
def nearT (p : Nat) (u : Int) : Nat := if u < 0 then p * 2 ^ (-u).toNat else p
def nearQ (q : Nat) (u : Int) : Nat := if u < 0 then q else q * 2 ^ u.toNat
def nearU (p q : Nat) : Int := max ((bitsN p : Int) - (bitsN q : Int) - 53) (-1074)
def nearK (p q : Nat) : Int := if nearT p (nearU p q) / nearQ q (nearU p q) < 9007199254740992 then nearU p q else nearU p q + 1
def nearN (p q : Nat) : Nat := nearT p (nearK p q) / nearQ q (nearK p q) + (if nearQ q (nearK p q) < 2 * (nearT p (nearK p q) % nearQ q (nearK p q)) ∨ (2 * (nearT p (nearK p q) % nearQ q (nearK p q)) = nearQ q (nearK p q) ∧ nearT p (nearK p q) / nearQ q (nearK p q) % 2 = 1) then 1 else 0)
theorem nearQ_pos {q : Nat} (h : q ≠ 0) (u : Int) : 0 < nearQ q u := by
  unfold nearQ
  split
  · omega
  · exact Nat.mul_pos (by omega) (Nat.two_pow_pos _)
/-- One unit up halves. -/
theorem near_half {p q : Nat} (u : Int) : nearT p (u + 1) / nearQ q (u + 1) = nearT p u / nearQ q u / 2 := by
  unfold nearT nearQ
  by_cases h : u + 1 < 0
  · rw [if_pos h, if_pos h, if_pos (by omega), if_pos (by omega)]
    obtain ⟨k, hk⟩ : ∃ k : Nat, (-(u + 1)).toNat = k := ⟨_, rfl⟩
    rw [hk, show (-u).toNat = k + 1 by omega, Nat.pow_succ, Nat.div_div_eq_div_mul, ← Nat.mul_assoc, Nat.mul_div_mul_right _ _ (by decide)]
  · by_cases h2 : u < 0
    · obtain rfl : u = -1 := by omega
      rw [if_neg h, if_neg h, if_pos h2, if_pos h2, Nat.div_div_eq_div_mul]
      show p / (q * 2 ^ 0) = p * 2 ^ 1 / (q * 2)
      rw [Nat.pow_zero, Nat.mul_one, Nat.pow_one, Nat.mul_div_mul_right _ _ (by decide)]
    · rw [if_neg h, if_neg h, if_neg h2, if_neg h2, Nat.div_div_eq_div_mul, show (u + 1).toNat = u.toNat + 1 by omega, Nat.pow_succ, ← Nat.mul_assoc]
theorem near_54 {p q : Nat} (hp : p ≠ 0) (hq : q ≠ 0) : nearT p (nearU p q) / nearQ q (nearU p q) < 18014398509481984 := by
  have h1 := bits_lt p
  have h2 := bits_le hq
  have h3 := bits_pos hq
  have h4 := bits_pos hp
  have hu : (bitsN p : Int) - (bitsN q : Int) - 53 ≤ nearU p q := by unfold nearU; omega
  generalize nearU p q = u at *
  rw [Nat.div_lt_iff_lt_mul (nearQ_pos hq u)]
  unfold nearT nearQ
  by_cases h : u < 0
  · rw [if_pos h, if_pos h]
    calc p * 2 ^ (-u).toNat < 2 ^ bitsN p * 2 ^ (-u).toNat := Nat.mul_lt_mul_of_pos_right h1 (Nat.two_pow_pos _)
      _ = 2 ^ (bitsN p + (-u).toNat) := (Nat.pow_add ..).symm
      _ ≤ 2 ^ (54 + (bitsN q - 1)) := Nat.pow_le_pow_right (by decide) (by omega)
      _ = 2 ^ 54 * 2 ^ (bitsN q - 1) := Nat.pow_add ..
      _ ≤ 2 ^ 54 * q := Nat.mul_le_mul_left _ h2
      _ = 18014398509481984 * q := rfl
  · rw [if_neg h, if_neg h]
    calc p < 2 ^ bitsN p := h1
      _ ≤ 2 ^ (54 + (bitsN q - 1) + u.toNat) := Nat.pow_le_pow_right (by decide) (by omega)
      _ = 2 ^ 54 * 2 ^ (bitsN q - 1) * 2 ^ u.toNat := by rw [Nat.pow_add, Nat.pow_add]
      _ ≤ 2 ^ 54 * q * 2 ^ u.toNat := Nat.mul_le_mul_right _ (Nat.mul_le_mul_left _ h2)
      _ = 18014398509481984 * (q * 2 ^ u.toNat) := Nat.mul_assoc ..
theorem near_53 {p q : Nat} (hp : p ≠ 0) (hq : q ≠ 0) : nearT p (nearK p q) / nearQ q (nearK p q) < 9007199254740992 := by
  unfold nearK
  split
  · assumption
  · rw [near_half]
    have := near_54 hp hq
    omega
end Go.Proofs.YtfalbdlfopfgcaaGreatDoor

namespace Go.Proofs.YtfalbdlfopfgcaaGreatDoor

theorem wds_lt {a b : Nat} (h : (wds a).length < (wds b).length) : a < b := by
  by_cases hab : a < b
  · exact hab
  · have := wds_len_le (Nat.le_of_not_lt hab)
    omega
theorem wv_td (l : List Nat) (k : Nat) (hk : k ≤ l.length) : wv l = wv (l.take k) + 4294967296 ^ k * wv (l.drop k) := by
  conv => lhs; rw [← List.take_append_drop k l]
  rw [wv_app, List.length_take, Nat.min_eq_left hk]
theorem wok_take {l : List Nat} (h : Wok l) (k : Nat) : Wok (l.take k) := fun d hd => h d (List.mem_of_mem_take hd)
theorem wok_get {l : List Nat} (h : Wok l) {k d : Nat} (hd : l[k]? = some d) : d < 4294967296 := h d (List.mem_of_getElem? hd)
theorem wok_app {a b : List Nat} (ha : Wok a) (hb : Wok b) : Wok (a ++ b) := fun d hd => by
  rcases List.mem_append.1 hd with h | h
  · exact ha d h
  · exact hb d h
theorem wok_one {d : Nat} (h : d < 4294967296) : Wok [d] := fun x hx => by rw [List.mem_singleton.1 hx]; exact h
theorem wok_set {l : List Nat} (h : Wok l) (j : Nat) {x : Nat} (hx : x < 4294967296) : Wok (l.set j x) := fun d hd => by
  rcases List.mem_or_eq_of_mem_set hd with h1 | h1
  · exact h d h1
  · rw [h1]; exact hx
theorem wok_rep (n : Nat) : Wok (List.replicate n 0) := fun d hd => by rw [(List.mem_replicate.1 hd).2]; decide
theorem wv_take_lt {l : List Nat} (h : Wok l) {k : Nat} (hk : k ≤ l.length) : wv (l.take k) < 4294967296 ^ k := by
  have h3 := wv_lt (wok_take h k)
  rwa [List.length_take, Nat.min_eq_left hk] at h3
/-- One more word behind. -/
theorem wv_snoc (l : List Nat) (d : Nat) : wv (l ++ [d]) = wv l + d * 4294967296 ^ l.length := by
  rw [wv_app]
  show _ + _ * (d + 4294967296 * 0) = _
  rw [Nat.mul_zero, Nat.add_zero, Nat.mul_comm]
theorem wv_take_more {l : List Nat} {k : Nat} (h : l.length ≤ k) : wv (l.take k) = wv l := by rw [List.take_of_length_le h]
theorem cmp_lt {la lb : List Nat} {j x y : Nat} (ha : Wok la) (hx : la[j]? = some x) (hy : lb[j]? = some y) (hxy : x < y) (hd : la.drop (j + 1) = lb.drop (j + 1)) : wv la < wv lb := by
  have h1 := (List.getElem?_eq_some_iff.1 hx).1
  have h2 := (List.getElem?_eq_some_iff.1 hy).1
  rw [wv_td la (j + 1) (by omega), wv_td lb (j + 1) (by omega), hd, wv_take_succ hx, wv_take_succ hy]
  have h3 := wv_take_lt ha (k := j) (by omega)
  have h4 : (x + 1) * 4294967296 ^ j ≤ y * 4294967296 ^ j := Nat.mul_le_mul_right _ hxy
  rw [Nat.succ_mul] at h4
  omega
theorem drop_step {la lb : List Nat} {j x : Nat} (hx : la[j]? = some x) (hy : lb[j]? = some x) (hd : la.drop (j + 1) = lb.drop (j + 1)) : la.drop j = lb.drop j := by
  have h1 := (List.getElem?_eq_some_iff.1 hx)
  have h2 := (List.getElem?_eq_some_iff.1 hy)
  obtain ⟨h1, e1⟩ := h1
  obtain ⟨h2, e2⟩ := h2
  rw [List.drop_eq_getElem_cons h1, List.drop_eq_getElem_cons h2, e1, e2, hd]
/-- How two numbers compare. -/
def cmpN (a b : Nat) : Int := if a < b then -1 else if b < a then 1 else 0
/-- One word subtracted: the word, what is borrowed. -/
def lsX (x d : Nat) : Nat := if x < d then x + 4294967296 - d else x - d
def lsC (x d : Nat) : Nat := if x < d then 1 else 0
theorem ls_eq {x d : Nat} (hx : x < 4294967296) (hd : d ≤ 4294967296) : lsX x d + d = x + lsC x d * 4294967296 ∧ lsX x d < 4294967296 ∧ lsC x d ≤ 1 := by
  unfold lsX lsC
  split <;> omega
theorem ls_step {la lb done : List Nat} {k c x y : Nat} (ha : Wok la) (hb : Wok lb) (hlen : done.length = k) (hc : c ≤ 1) (h : wv done + wv (lb.take k) = wv (la.take k) + c * 4294967296 ^ k) (hx : la[k]? = some x) (hy : y = lb.getD k 0) :
    wv (done ++ [lsX x (c + y)]) + wv (lb.take (k + 1)) = wv (la.take (k + 1)) + lsC x (c + y) * 4294967296 ^ (k + 1) ∧ lsX x (c + y) < 4294967296 ∧ lsC x (c + y) ≤ 1 := by
  have hyl : y < 4294967296 := by
    rw [hy, List.getD_eq_getElem?_getD]
    cases hq : lb[k]? with
    | none => decide
    | some q => exact wok_get hb hq
  obtain ⟨e1, e2, e3⟩ := ls_eq (wok_get ha hx) (show c + y ≤ 4294967296 by omega)
  refine ⟨?_, e2, e3⟩
  rw [wv_snoc, hlen, wv_take_succ hx]
  have hbt : wv (lb.take (k + 1)) = wv (lb.take k) + y * 4294967296 ^ k := by
    rw [hy, List.getD_eq_getElem?_getD]
    cases hq : lb[k]? with
    | none =>
      have := List.getElem?_eq_none_iff.1 hq
      rw [wv_take_more (by omega), wv_take_more (by omega)]
      simp
    | some q => exact wv_take_succ hq
  rw [hbt]
  generalize lsX x (c + y) = n at *
  generalize lsC x (c + y) = c' at *
  rw [Nat.pow_succ]
  have h1 : (n + (c + y)) * 4294967296 ^ k = (x + c' * 4294967296) * 4294967296 ^ k := by rw [e1]
  rw [Nat.add_mul, Nat.add_mul, Nat.add_mul, Nat.mul_assoc] at h1
  rw [Nat.mul_comm (4294967296 ^ k) 4294967296]
  omega
theorem ls_end {la lb done : List Nat} {c : Nat} (hlen : done.length = la.length) (hd : Wok done) (hle : wv lb ≤ wv la) (hbl : lb.length ≤ la.length) (h : wv done + wv (lb.take la.length) = wv (la.take la.length) + c * 4294967296 ^ la.length) : wv done = wv la - wv lb := by
  rw [List.take_length, wv_take_more hbl] at h
  have h1 := wv_lt hd
  rw [hlen] at h1
  have hc : c = 0 := by
    rcases Nat.eq_zero_or_pos c with hc | hc
    · exact hc
    · have := Nat.mul_le_mul_right (4294967296 ^ la.length) hc
      omega
  subst hc
  omega
theorem hf_step {l done : List Nat} {k x y : Nat} (hlen : done.length = k) (h : 2 * wv done + l.getD 0 0 % 2 = wv (l.take k) + x % 2 * 4294967296 ^ k) (hx : l[k]? = some x) (_hy : y = l.getD (k + 1) 0) :
    2 * wv (done ++ [x / 2 + y % 2 * 2147483648]) + l.getD 0 0 % 2 = wv (l.take (k + 1)) + y % 2 * 4294967296 ^ (k + 1) := by
  rw [wv_snoc, hlen, wv_take_succ hx, Nat.pow_succ]
  have e : 2 * (x / 2 + y % 2 * 2147483648) + x % 2 = x + y % 2 * 4294967296 := by omega
  have h1 : (2 * (x / 2 + y % 2 * 2147483648) + x % 2) * 4294967296 ^ k = (x + y % 2 * 4294967296) * 4294967296 ^ k := by rw [e]
  generalize x / 2 + y % 2 * 2147483648 = q at *
  rw [Nat.add_mul, Nat.add_mul, Nat.mul_assoc, Nat.mul_assoc] at h1
  rw [Nat.mul_comm (4294967296 ^ k) 4294967296]
  omega
theorem hf_end {l done : List Nat} (h : 2 * wv done + l.getD 0 0 % 2 = wv (l.take l.length) + 0 * 4294967296 ^ l.length) : wv done = wv l / 2 := by
  rw [List.take_length] at h
  omega
theorem up_step {l done : List Nat} {k s c x : Nat} (hlen : done.length = k) (hc : c < 2 ^ s) (h : wv done + c * 4294967296 ^ k = 2 ^ s * wv (l.take k)) (hl : Wok l) (hx : l[k]? = some x) :
    wv (done ++ [(c + x * 2 ^ s) % 4294967296]) + (c + x * 2 ^ s) / 4294967296 * 4294967296 ^ (k + 1) = 2 ^ s * wv (l.take (k + 1)) ∧ (c + x * 2 ^ s) / 4294967296 < 2 ^ s := by
  refine ⟨?_, ?_⟩
  · rw [wv_snoc, hlen, wv_take_succ hx, Nat.pow_succ, Nat.mul_add, ← h]
    have e := Nat.div_add_mod (c + x * 2 ^ s) 4294967296
    generalize (c + x * 2 ^ s) / 4294967296 = q at *
    generalize (c + x * 2 ^ s) % 4294967296 = r at *
    have h1 : (4294967296 * q + r) * 4294967296 ^ k = (c + x * 2 ^ s) * 4294967296 ^ k := by rw [e]
    rw [Nat.add_mul, Nat.add_mul] at h1
    rw [show q * (4294967296 ^ k * 4294967296) = 4294967296 * q * 4294967296 ^ k by rw [Nat.mul_comm (4294967296 ^ k), ← Nat.mul_assoc, Nat.mul_comm q]]
    rw [show 2 ^ s * (x * 4294967296 ^ k) = x * 2 ^ s * 4294967296 ^ k by rw [← Nat.mul_assoc, Nat.mul_comm (2 ^ s)]]
    omega
  · rw [Nat.div_lt_iff_lt_mul (by decide)]
    have h1 := wok_get hl hx
    have h2 : (x + 1) * 2 ^ s ≤ 4294967296 * 2 ^ s := Nat.mul_le_mul_right _ h1
    rw [Nat.add_mul] at h2
    rw [Nat.mul_comm (2 ^ s)]
    omega
theorem up_end {l done : List Nat} {q s c n : Nat} (hlen : done.length = l.length) (h : wv done + c * 4294967296 ^ l.length = 2 ^ s * wv (l.take l.length)) (hn : n = 32 * q + s) : wv (List.replicate q 0 ++ done ++ [c]) = wv l * 2 ^ n := by
  rw [List.take_length] at h
  rw [List.append_assoc, wv_app, wv_replicate, wv_snoc, hlen, h, List.length_replicate, Nat.zero_add, hn, Nat.pow_add, Nat.pow_mul]
  show (2 ^ 32) ^ q * _ = _
  rw [← Nat.mul_assoc, Nat.mul_comm]
theorem wv_set' {l : List Nat} {j x y : Nat} (hy : l[j]? = some y) : wv (l.set j x) + y * 4294967296 ^ j = wv l + x * 4294967296 ^ j := by
  have h := wv_set l j x (List.getElem?_eq_some_iff.1 hy).1
  rwa [List.getD_eq_getElem?_getD, hy] at h
theorem ml_step {O O0 B : List Nat} {i k c x y z : Nat} (hc : c < 4294967296) (hx : x < 4294967296) (hz : O[i + k]? = some z) (hzl : z < 4294967296) (hB : Wok B) (hy : B[k]? = some y)
    (h : wv O + c * 4294967296 ^ (i + k) = wv O0 + x * wv (B.take k) * 4294967296 ^ i) :
    wv (O.set (i + k) ((c + x * y + z) % 4294967296)) + (c + x * y + z) / 4294967296 * 4294967296 ^ (i + (k + 1)) = wv O0 + x * wv (B.take (k + 1)) * 4294967296 ^ i ∧ (c + x * y + z) / 4294967296 < 4294967296 ∧ c + x * y + z < 18446744073709551616 ∧ x * y < 18446744073709551616 := by
  have hyl := wok_get hB hy
  have hxy : x * y ≤ 4294967295 * 4294967295 := Nat.mul_le_mul (by omega) (by omega)
  refine ⟨?_, by omega, by omega, by omega⟩
  have h1 := wv_set' (x := (c + x * y + z) % 4294967296) hz
  rw [wv_take_succ hy, show i + (k + 1) = i + k + 1 from rfl, Nat.pow_succ]
  have e := Nat.div_add_mod (c + x * y + z) 4294967296
  generalize (c + x * y + z) / 4294967296 = q at *
  generalize (c + x * y + z) % 4294967296 = r at *
  have h2 : (4294967296 * q + r) * 4294967296 ^ (i + k) = (c + x * y + z) * 4294967296 ^ (i + k) := by rw [e]
  rw [Nat.add_mul, Nat.add_mul, Nat.add_mul] at h2
  rw [Nat.mul_add, Nat.add_mul]
  rw [show q * (4294967296 ^ (i + k) * 4294967296) = 4294967296 * q * 4294967296 ^ (i + k) by rw [Nat.mul_comm (4294967296 ^ (i + k)), ← Nat.mul_assoc, Nat.mul_comm q]]
  rw [show x * (y * 4294967296 ^ k) * 4294967296 ^ i = x * y * 4294967296 ^ (i + k) by rw [Nat.pow_add, ← Nat.mul_assoc, Nat.mul_assoc (x * y), Nat.mul_comm (4294967296 ^ k)]]
  omega
theorem ml_end {O O0 A B : List Nat} {i c x : Nat} (hx : A[i]? = some x) (h0 : wv O0 = wv (A.take i) * wv B) (hz : O[i + B.length]? = some 0) (h : wv O + c * 4294967296 ^ (i + B.length) = wv O0 + x * wv (B.take B.length) * 4294967296 ^ i) :
    wv (O.set (i + B.length) c) = wv (A.take (i + 1)) * wv B := by
  have h1 := wv_set' (x := c) hz
  rw [List.take_length] at h
  rw [wv_take_succ hx, Nat.add_mul, ← h0]
  rw [show x * 4294967296 ^ i * wv B = x * wv B * 4294967296 ^ i by rw [Nat.mul_assoc, Nat.mul_comm (4294967296 ^ i), ← Nat.mul_assoc]]
  omega
theorem bits_half {x : Nat} (h : 0 < x) : bitsN x = bitsN (x / 2) + 1 := by
  unfold bitsN
  rw [if_neg (by omega), Nat.log2_def]
  by_cases h2 : 2 ≤ x
  · rw [if_pos h2, if_neg (by omega)]
  · rw [if_neg h2, if_pos (by omega)]
theorem bits_shift (k : Nat) : ∀ {n : Nat}, 2 ^ k ≤ n → bitsN n = k + bitsN (n / 2 ^ k) := by
  induction k with
  | zero => intro n _; simp
  | succ k ih =>
    intro n h
    rw [Nat.pow_succ] at h
    have h0 : 0 < n := by have := Nat.two_pow_pos k; omega
    rw [bits_half h0, ih (show 2 ^ k ≤ n / 2 by omega), Nat.div_div_eq_div_mul, Nat.pow_succ, Nat.mul_comm 2]
    omega
/-- The bits of a number by its last word. -/
theorem bits_wds : ∀ (n : Nat), n ≠ 0 → ∃ t, (wds n)[(wds n).length - 1]? = some t ∧ t < 4294967296 ∧ 0 < t ∧ bitsN n = 32 * ((wds n).length - 1) + bitsN t := by
  intro n
  induction n using Nat.strongRecOn with
  | ind n ih =>
    intro h
    by_cases h2 : n / 4294967296 = 0
    · refine ⟨n, ?_, by omega, by omega, ?_⟩
      · rw [wds_pos h, h2, wds_0]
        show [n % 4294967296][0]? = _
        rw [show n % 4294967296 = n by omega]
        rfl
      · rw [wds_pos h, h2, wds_0]
        simp
    · obtain ⟨t, e1, e2, e3, e4⟩ := ih (n / 4294967296) (by omega) h2
      have hl : 1 ≤ (wds (n / 4294967296)).length := by rw [wds_pos h2]; simp
      refine ⟨t, ?_, e2, e3, ?_⟩
      · rw [wds_pos h, List.length_cons, Nat.add_sub_cancel]
        obtain ⟨m, hm⟩ : ∃ m, (wds (n / 4294967296)).length = m + 1 := ⟨_, (Nat.sub_add_cancel hl).symm⟩
        rw [hm] at e1 ⊢
        rw [List.getElem?_cons_succ]
        exact e1
      · rw [wds_pos h, List.length_cons, Nat.add_sub_cancel, bits_shift 32 (show 2 ^ 32 ≤ n by omega)]
        show 32 + bitsN (n / 4294967296) = _
        rw [e4]
        omega
theorem bitsN_le_wds (n : Nat) : bitsN n ≤ 32 * (wds n).length := by
  by_cases h : n = 0
  · subst h; exact Nat.zero_le _
  · obtain ⟨t, _, h2, h3, h4⟩ := bits_wds n h
    have hl : 1 ≤ (wds n).length := by rw [wds_pos h]; simp
    have : bitsN t ≤ 32 := by
      have h5 := bits_le (Nat.ne_of_gt h3)
      rcases Nat.lt_or_ge 32 (bitsN t) with h6 | h6
      · have := Nat.pow_le_pow_right (show 0 < 2 by decide) (show 32 ≤ bitsN t - 1 by omega)
        omega
      · exact h6
    omega
end Go.Proofs.YtfalbdlfopfgcaaGreatDoor

namespace Go.Proofs.YtfalbdlfopfgcaaGreatDoor
open Go.RowKit

@[go_sem high] theorem shr1_u32 (x : Int) : Op.shift .shr .u32 x .u64 1 = pure (.int .u32 (x / 2)) := shift_shr .u32 .u64 x 1 (by decide) (by decide)
@[go_sem high] theorem shl31_u32 (x : Int) : Op.shift .shl .u32 x .u64 31 = pure (.int .u32 (IntKind.u32.wrap (x * 2147483648))) := shift_shl .u32 .u64 x 31 (by decide) (by decide)
theorem Dr.more {a b : World} (h : Dr a b) (n : Nat) : Dr a (b.drewN n) := h.trans (Dr.mk _ _)
/-- A word as a value. -/
def wrd (d : Nat) : Value := .int .u32 (d : Int)
/-- The words of a number lie there. -/
def Wn (w : World) (v : Value) (n : Nat) : Prop := Sl w v ((wds n).map wrd)
theorem Wn.below {w w' : World} {v : Value} {n : Nat} (h : Wn w v n) (hb : Below w.heap.size w w') : Wn w' v n := Sl.below h hb
theorem Wn.drewN {w : World} {v : Value} {n : Nat} (h : Wn w v n) (k : Nat) : Wn (w.drewN k) v n := h
theorem Wn.drew {w : World} {v : Value} {n : Nat} (h : Wn w v n) : Wn w.drew v n := h
theorem Wn.alloc {w : World} {v : Value} {n : Nat} (h : Wn w v n) (o : Obj) : Wn (w.alloc o) v n := h.below ((Below.refl _ w).alloc (Nat.le_refl _) o)
theorem Wn.sl {w : World} {v : Value} {n : Nat} (h : Wn w v n) : ∃ a c, v = .slice a (wds n).length c := by
  obtain ⟨a, c, rfl, -⟩ := h
  exact ⟨a, c, by simp⟩
/-- What a row of words says of its cells. -/
theorem Sl.cw {w : World} {v : Value} {l : List Nat} (h : Sl w v (l.map wrd)) : ∃ a cap, v = .slice a l.length cap ∧ l.length ≤ cap ∧ (a = none → cap = 0) ∧ ∀ (i x : Nat), l[i]? = some x → ∃ b off, a = some ⟨b, off, none⟩ ∧ ∀ (j y : Nat), l[j]? = some y → w.cell? ⟨b, off + j, none⟩ = some (.int .u32 (y : Int)) := by
  obtain ⟨a, cap, rfl, hr, hc, hl⟩ := h
  refine ⟨a, cap, by simp, by simpa using hl, hc, fun i x hx => ?_⟩
  obtain ⟨b, off, rfl, hcell⟩ := hr.at (k := i) (x := wrd x) (by rw [List.getElem?_map, hx]; rfl)
  exact ⟨b, off, rfl, fun j y hy => hcell j (wrd y) (by rw [List.getElem?_map, hy]; rfl)⟩
theorem Sl.takeW {w : World} {a : Option Addr} {n cap : Nat} {l : List Nat} (h : Sl w (.slice a n cap) (l.map wrd)) {k : Nat} (hk : k ≤ n) : Sl w (.slice a k cap) ((l.take k).map wrd) := by
  rw [List.map_take]
  exact h.take hk
theorem Wn.trim {w : World} {a : Option Addr} {cap : Nat} {l : List Nat} (hk : Wok l) (h : Sl w (.slice a l.length cap) (l.map wrd)) : Wn w (.slice a (trimN l l.length) cap) (wv l) := by
  unfold Wn
  rw [← trim_all hk]
  exact Sl.takeW h (trimN_le _ _)
def TrLoop (w : World) (l : List Nat) (n : Value) (w' : World) : Prop := ∃ k : Nat, k ≤ l.length ∧ n = .int .i64 (k : Int) ∧ trimN l k = trimN l l.length ∧ w' = w
set_option maxRecDepth 100000 in
set_option maxHeartbeats 4000000 in
theorem wtrimmed_any (w : World) (a : Option Addr) (cap : Nat) (l : List Nat) (hl : l.length ≤ 1000000) (hs : Sl w (.slice a l.length cap) (l.map wrd)) : Calls Tryz.prog 80 #[.slice a l.length cap] w fun E w' => E = .returned (.slice a (trimN l l.length) cap) ∧ w' = w := by
  obtain ⟨a', cap', e, hcap, -, hc⟩ := hs.cw
  cases e
  have hci : (l.length : Int) ≤ (cap : Int) := by omega
  clear hs
  go_enter Tryz.func80, Tryz.ntmps80
  go_wp2
  go_loopw [3] (fun n w' => TrLoop w l n w') (fun n _ => (intOf n).toNat)
  case atStart => exact ⟨l.length, Nat.le_refl _, rfl, rfl, rfl⟩
  case round =>
    obtain ⟨k, hk, rfl, ht, rfl⟩ := hrel
    have HT := hid ht
    clear ht
    by_cases hk0 : 0 < k
    · obtain ⟨j, rfl⟩ : ∃ j, k = j + 1 := ⟨k - 1, by omega⟩
      obtain ⟨x, hx⟩ : ∃ x, l[j]? = some x := ⟨l[j]'(by omega), List.getElem?_eq_getElem (by omega)⟩
      obtain ⟨b, off, rfl, hcell⟩ := hc j x hx
      have h1 := hcell j x hx
      have g1 : ((j + 1 : Nat) : Int) - 1 = (j : Int) := by omega
      have hd : l.getD j 0 = x := by rw [List.getD_eq_getElem?_getD, hx]; rfl
      have HD := hid hd
      clear hd hx hcell hc
      by_cases hx0 : x = 0
      · have h2 : ((x : Int) == 0) = true := by simp [hx0]
        have HX := hid hx0
        clear hx0
        go_wp2
        go_roundw
        case rel => exact ⟨j, by omega, by go_num, by rw [← HT.out, trimN, if_pos (by rw [HD.out, HX.out])], rfl⟩
        case measure => simp [intOf]
      · have h2 : ((x : Int) == 0) = false := by simp; omega
        have HX := hid hx0
        clear hx0
        go_wp2
        go_ret
        refine ⟨?_, rfl⟩
        rw [← HT.out, trimN, if_neg (by rw [HD.out]; exact HX.out)]
        rfl
    · obtain rfl : k = 0 := by omega
      go_wp2
      go_ret
      refine ⟨?_, rfl⟩
      rw [← HT.out]
      rfl
theorem results_int {fn : Func} {p : Tmp} (h : fn.results = #[.cell p 85]) (tmps : Array Value) (w : World) (b : Nat) (x y : Value) (hp : tmps.getD p undef = .pointer (some ⟨b, 0, none⟩)) (c0 : w.cell? ⟨b, 0, none⟩ = some x) (c1 : w.cell? ⟨b, 1, none⟩ = some y) : (results fn tmps).run Tryz.prog w = .ok (.agg #[x, y]) w := by
  simp only [Array.getD_eq_getD_getElem?] at hp ⊢
  simp [results, h, hp, go_sem, c0, c1, Sem.run_bind, Result.andThen]
/-- A number told: its sign, its words; what was there stays. -/
def RetI (w : World) (s : Bool) (n : Nat) (E : Ending) (w' : World) : Prop := ∃ v, E = .returned (.agg #[.bool s, v]) ∧ Wn w' v n ∧ Below w.heap.size w w'
set_option maxRecDepth 100000 in
set_option maxHeartbeats 4000000 in
theorem wOf_any (w : World) (n : Nat) (hn : IsW n) : Calls Tryz.prog 50 #[.int .u64 n] w (RetI w false n) := by
  obtain ⟨a, ha⟩ : ∃ a, a = n % 4294967296 := ⟨_, rfl⟩
  obtain ⟨q, hq⟩ : ∃ q, q = n / 4294967296 := ⟨_, rfl⟩
  have hql : q < 4294967296 := by unfold IsW at hn; omega
  have hal : a < 4294967296 := by omega
  have g1 : IntKind.u32.wrap (n : Int) = (a : Int) := by rw [IntKind.wrap_u32]; omega
  have g2 : (n : Int) / 4294967296 = (q : Int) := by omega
  have hv := hid (show wv [a, q] = n by show a + 4294967296 * (q + 4294967296 * 0) = n; omega)
  have hk : Wok [a, q] := fun d hd => by
    rcases List.mem_cons.1 hd with rfl | hd
    · exact hal
    · rw [List.mem_singleton.1 hd]; exact hql
  clear ha hq hn
  have hs2 : ∀ o : Obj, Sl ((w.alloc o).alloc (.cells #[.int .u32 a, .int .u32 q] 90)) (.slice (some ⟨w.heap.size + 1, 0, none⟩) 2 2) ([a, q].map wrd) := by
    intro o
    refine ⟨_, _, rfl, fun _ => ⟨w.heap.size + 1, 0, rfl, fun i x hx => ?_⟩, by simp, by simp⟩
    have e : (w.alloc o).heap.size = w.heap.size + 1 := by simp
    rw [← e, World.cell?_alloc_new]
    match i, hx with
    | 0, hx => simp at hx; subst hx; rfl
    | 1, hx => simp at hx; subst hx; rfl
    | i + 2, hx => simp at hx
  have HT := hid (wtrimmed_any _ (some ⟨w.heap.size + 1, 0, none⟩) 2 [a, q] (by simp) (hs2 (.cells #[.bool false, .slice none 0 0] 85)))
  rw [show ([a, q] : List Nat).length = 2 from rfl] at HT
  have HW := hid fun o => Wn.trim hk (hs2 o)
  rw [hv.out] at HW
  clear hs2 hk
  go_enter Tryz.func50, Tryz.ntmps50
  go_wp2_with (go_at_call 80; (with_reducible refine HT.out.mono ?_); rintro E3 w3 ⟨rfl, rfl⟩)
  refine bodyPost_ret (results_int rfl _ _ w.heap.size (.bool false) (.slice (some ⟨w.heap.size + 1, 0, none⟩) (trimN [a, q] 2) 2) rfl (by rw [World.cell?_alloc_lt _ _ _ (by simp), World.cell?_alloc_new]; rfl) (by rw [World.cell?_alloc_lt _ _ _ (by simp), World.cell?_alloc_new]; rfl)) rfl ?_
  exact ⟨_, rfl, HW.out _, ((Below.refl _ w).alloc (Nat.le_refl _) _).alloc (by simp) _⟩
def CmpLoop (w : World) (la lb : List Nat) (n : Nat) (i : Value) (w' : World) : Prop := ∃ j : Nat, j ≤ n ∧ i = .int .i64 ((j : Int) - 1) ∧ la.drop j = lb.drop j ∧ Dr w w'
set_option maxRecDepth 100000 in
set_option maxHeartbeats 4000000 in
theorem wcompare_any (w : World) (va vb : Value) (a b : Nat) (ha : Wn w va a) (hb : Wn w vb b) (hal : (wds a).length ≤ 1000000) (_hbl : (wds b).length ≤ 1000000) : Calls Tryz.prog 76 #[va, vb] w fun E w' => E = .returned (.int .i64 (cmpN a b)) ∧ Dr w w' := by
  obtain ⟨aa, ca, rfl, -, -, hca⟩ := Sl.cw ha
  obtain ⟨ab, cb, rfl, -, -, hcb⟩ := Sl.cw hb
  clear ha hb
  by_cases hlen : (wds a).length = (wds b).length
  · obtain ⟨la, hla⟩ : ∃ la, la = wds a := ⟨_, rfl⟩
    obtain ⟨lb, hlb⟩ : ∃ lb, lb = wds b := ⟨_, rfl⟩
    have HA := hid (show wv la = a by rw [hla, wv_wds])
    have HB := hid (show wv lb = b by rw [hlb, wv_wds])
    have HKa := hid (show Wok la by rw [hla]; exact wok_wds a)
    have HKb := hid (show Wok lb by rw [hlb]; exact wok_wds b)
    rw [← hla] at hlen hal hca ⊢
    rw [← hlb] at hlen _hbl hcb ⊢
    clear hla hlb
    obtain ⟨n, hn⟩ : ∃ n, n = la.length := ⟨_, rfl⟩
    have hn2 : n = lb.length := by omega
    rw [← hn] at hal ⊢
    rw [← hn2]
    replace hn := hid hn
    replace hn2 := hid hn2
    clear _hbl hlen
    go_enter Tryz.func76, Tryz.ntmps76
    go_wp2
    go_loopw [5] (fun i w' => CmpLoop w la lb n i w') (fun i _ => (intOf i + 1).toNat)
    case atStart => exact ⟨n, Nat.le_refl _, rfl, by rw [List.drop_of_length_le (Nat.le_of_eq hn.out.symm), List.drop_of_length_le (Nat.le_of_eq hn2.out.symm)], Dr.refl _⟩
    case round =>
      obtain ⟨j, hj, rfl, hd, nd, rfl⟩ := hrel
      have HD := hid hd
      clear hd
      match j, hj, HD with
      | 0, hj, HD =>
        have hR := hid (show cmpN a b = 0 by
          have h := HD.out
          rw [List.drop_zero, List.drop_zero] at h
          rw [← HA.out, ← HB.out, h]
          unfold cmpN
          rw [if_neg (Nat.lt_irrefl _), if_neg (Nat.lt_irrefl _)])
        go_wp2
        go_ret
        exact ⟨by rw [hR.out]; rfl, (by repeat (first | with_reducible exact Dr.refl _ | with_reducible refine Dr.more ?_ _))⟩
      | j + 1, hj, HD =>
        have e1 : (((j + 1 : Nat) : Int) - 1) = (j : Int) := by omega
        rw [e1]
        obtain ⟨x, hx⟩ : ∃ x, la[j]? = some x := ⟨la[j]'(by have := hn.out; omega), List.getElem?_eq_getElem _⟩
        obtain ⟨y, hy⟩ : ∃ y, lb[j]? = some y := ⟨lb[j]'(by have := hn2.out; omega), List.getElem?_eq_getElem _⟩
        obtain ⟨b1, o1, rfl, h1⟩ := hca j x hx
        obtain ⟨b2, o2, rfl, h2⟩ := hcb j y hy
        have k1 : w.cell? ⟨b1, o1 + j, none⟩ = some (.int .u32 (x : Int)) := h1 j x hx
        have k2 : w.cell? ⟨b2, o2 + j, none⟩ = some (.int .u32 (y : Int)) := h2 j y hy
        have HX := hid hx
        have HY := hid hy
        clear hx hy h1 h2 hca hcb
        rcases Nat.lt_trichotomy x y with hxy | hxy | hxy
        · have g1 : (x : Int) < (y : Int) := by omega
          have hR := hid (show cmpN a b = -1 by
            have := cmp_lt HKa.out HX.out HY.out hxy HD.out
            rw [← HA.out, ← HB.out]
            unfold cmpN
            rw [if_pos this])
          go_wp2
          go_quiet (fail)
          go_wp2
          go_ret
          exact ⟨by rw [hR.out]; rfl, (by repeat (first | with_reducible exact Dr.refl _ | with_reducible refine Dr.more ?_ _))⟩
        · subst hxy
          have HD2 := hid (drop_step HX.out HY.out HD.out)
          go_wp2
          go_quiet (fail)
          go_wp2
          go_quiet (fail)
          go_wp2
          go_roundw
          case rel => exact ⟨j, by omega, by go_num, HD2.out, (by repeat (first | with_reducible exact Dr.refl _ | with_reducible refine Dr.more ?_ _))⟩
          case measure => simp [intOf]
        · have g1 : ¬ (x : Int) < (y : Int) := by omega
          have g2 : (y : Int) < (x : Int) := by omega
          have hR := hid (show cmpN a b = 1 by
            have := cmp_lt HKb.out HY.out HX.out hxy HD.out.symm
            rw [← HA.out, ← HB.out]
            unfold cmpN
            rw [if_neg (by omega), if_pos this])
          go_wp2
          go_quiet (fail)
          go_wp2
          go_quiet (fail)
          go_wp2
          go_ret
          exact ⟨by rw [hR.out]; rfl, (by repeat (first | with_reducible exact Dr.refl _ | with_reducible refine Dr.more ?_ _))⟩
  · by_cases hlt : (wds a).length < (wds b).length
    · have hR := hid (show cmpN a b = -1 by unfold cmpN; rw [if_pos (wds_lt hlt)])
      obtain ⟨m, hm⟩ : ∃ m, m = (wds a).length := ⟨_, rfl⟩
      obtain ⟨n, hn⟩ : ∃ n, n = (wds b).length := ⟨_, rfl⟩
      rw [← hm, ← hn] at hlt ⊢
      rw [← hm] at hal hlen
      rw [← hn] at _hbl hlen
      clear hm hn hca hcb
      have g0 : ((m : Int) != (n : Int)) = true := by simp; omega
      go_enter Tryz.func76, Tryz.ntmps76
      go_wp2
      go_ret
      exact ⟨by rw [hR.out]; rfl, (by repeat (first | with_reducible exact Dr.refl _ | with_reducible refine Dr.more ?_ _))⟩
    · have hR := hid (show cmpN a b = 1 by
        have := wds_lt (a := b) (b := a) (by omega)
        unfold cmpN
        rw [if_neg (by omega), if_pos this])
      obtain ⟨m, hm⟩ : ∃ m, m = (wds a).length := ⟨_, rfl⟩
      obtain ⟨n, hn⟩ : ∃ n, n = (wds b).length := ⟨_, rfl⟩
      rw [← hm, ← hn] at hlt ⊢
      rw [← hm] at hal hlen
      rw [← hn] at _hbl hlen
      clear hm hn hca hcb
      have g0 : ((m : Int) != (n : Int)) = true := by simp; omega
      go_enter Tryz.func76, Tryz.ntmps76
      go_wp2
      go_ret
      exact ⟨by rw [hR.out]; rfl, (by repeat (first | with_reducible exact Dr.refl _ | with_reducible refine Dr.more ?_ _))⟩
theorem bits32 {y : Nat} (hy : y < 4294967296) : bitsN y ≤ 32 := by
  by_cases h0 : y = 0
  · rw [h0]; decide
  · have h5 := bits_le h0
    rcases Nat.lt_or_ge 32 (bitsN y) with h6 | h6
    · have := Nat.pow_le_pow_right (show 0 < 2 by decide) (show 32 ≤ bitsN y - 1 by omega)
      omega
    · exact h6
def BtLoop (w : World) (t : Nat) (n x : Value) (w' : World) : Prop := ∃ j y : Nat, n = .int .i64 (j : Int) ∧ x = .int .u32 (y : Int) ∧ y < 4294967296 ∧ j + bitsN y = t ∧ w' = w
set_option maxRecDepth 100000 in
set_option maxHeartbeats 4000000 in
theorem wBits_any (w : World) (s : Bool) (v : Value) (a : Nat) (ha : Wn w v a) (hal : (wds a).length ≤ 1000000) : Calls Tryz.prog 45 #[.agg #[.bool s, v]] w fun E w' => E = .returned (.int .i64 (bitsN a : Nat)) ∧ Below w.heap.size w w' := by
  have hsl := Wn.alloc ha (.cells #[.bool s, v] 85)
  obtain ⟨aa, ca, rfl, -, -, hca⟩ := Sl.cw hsl
  have b1 : Below w.heap.size w (w.alloc (.cells #[.bool s, .slice aa (wds a).length ca] 85)) := (Below.refl _ w).alloc (Nat.le_refl _) _
  clear ha hsl
  by_cases h0 : a = 0
  · subst h0
    rw [wds_0]
    go_enter Tryz.func45, Tryz.ntmps45
    go_wp2
    go_ret
    exact ⟨rfl, (Below.refl _ w).alloc (Nat.le_refl _) _⟩
  · obtain ⟨t, ht, htl, ht0, hbt⟩ := bits_wds a h0
    obtain ⟨m, hm⟩ : ∃ m, (wds a).length = m + 1 := ⟨(wds a).length - 1, by have := (List.getElem?_eq_some_iff.1 ht).1; omega⟩
    rw [hm, Nat.add_sub_cancel] at ht hbt
    obtain ⟨b, o, rfl, hcell⟩ := hca m t ht
    have k1 := hcell m t ht
    rw [hm] at k1 b1 hal ⊢
    have g1 : (((m + 1 : Nat) : Int) == 0) = false := by simp; omega
    have g2 : ((m + 1 : Nat) : Int) - 1 = (m : Int) := by omega
    have ht32 : bitsN t ≤ 32 := bits32 htl
    replace hbt := hid hbt
    clear hca hcell ht hm h0
    go_enter Tryz.func45, Tryz.ntmps45
    go_wp2
    obtain ⟨w1, hw1⟩ : ∃ w1, w1 = w.alloc (.cells #[.bool s, .slice (some ⟨b, o, none⟩) (m + 1) ca] 85) := ⟨_, rfl⟩
    rw [← hw1] at b1 ⊢
    clear hw1 k1 g1 g2
    go_loopw [3, 4] (fun n x w' => BtLoop w1 (bitsN a) n x w') (fun _ x _ => (intOf x).toNat)
    case atStart => exact ⟨32 * m, t, by go_num, rfl, htl, hbt.out.symm, rfl⟩
    case round =>
      obtain ⟨j, y, rfl, rfl, hy, he, rfl⟩ := hrel
      have HE := hid he
      have hj : j ≤ 32 * m + 32 := by have := hbt.out; have := HE.out; omega
      clear he
      by_cases hy0 : 0 < y
      · have HH := hid (bits_half hy0)
        obtain ⟨z, hz⟩ : ∃ z, z = y / 2 := ⟨_, rfl⟩
        have g1 : (y : Int) / 2 = (z : Int) := by omega
        rw [← hz] at HH
        replace hz := hid hz
        go_wp2
        go_roundw
        case rel => exact ⟨j + 1, z, by go_num, rfl, by have := hz.out; omega, by rw [← HE.out, HH.out]; omega, rfl⟩
        case measure => have := hz.out; simp [intOf]; omega
      · obtain rfl : y = 0 := by omega
        go_wp2
        go_ret
        exact ⟨by rw [← HE.out]; rfl, b1⟩
end Go.Proofs.YtfalbdlfopfgcaaGreatDoor
