/- Words of 32 bits: what comparing, subtracting, halving, shifting and multiplying them does, plainly. No condition. -/
import Derived.Test.YtfalbdlfopfgcaaGreatDoorWb
namespace Go.Proofs.YtfalbdlfopfgcaaGreatDoor

theorem wds_lt {a b : Nat} (h : (wds a).length < (wds b).length) : a < b := by
  by_cases hab : a < b
  · exact hab
  · have := wds_len_le (Nat.le_of_not_lt hab)
    omega
theorem wv_td (l : List Nat) (k : Nat) (hk : k ≤ l.length) : wv l = wv (l.take k) + 4294967296 ^ k * wv (l.drop k) := by
  conv => lhs; rw [← List.take_append_drop k l]
  rw [wv_app, List.length_take, Nat.min_eq_left hk]
theorem wok_take {l : List Nat} (h : Wok l) (k : Nat) : Wok (l.take k) := fun d hd => h d (List.mem_of_mem_take hd)
theorem wok_get {l : List Nat} (h : Wok l) {k d : Nat} (hd : l[k]? = some d) : d < 4294967296 := h d (List.mem_of_getElem? hd)
theorem wok_app {a b : List Nat} (ha : Wok a) (hb : Wok b) : Wok (a ++ b) := fun d hd => by
  rcases List.mem_append.1 hd with h | h
  · exact ha d h
  · exact hb d h
theorem wok_one {d : Nat} (h : d < 4294967296) : Wok [d] := fun x hx => by rw [List.mem_singleton.1 hx]; exact h
theorem wok_set {l : List Nat} (h : Wok l) (j : Nat) {x : Nat} (hx : x < 4294967296) : Wok (l.set j x) := fun d hd => by
  rcases List.mem_or_eq_of_mem_set hd with h1 | h1
  · exact h d h1
  · rw [h1]; exact hx
theorem wok_rep (n : Nat) : Wok (List.replicate n 0) := fun d hd => by rw [(List.mem_replicate.1 hd).2]; decide
theorem wv_take_lt {l : List Nat} (h : Wok l) {k : Nat} (hk : k ≤ l.length) : wv (l.take k) < 4294967296 ^ k := by
  have h3 := wv_lt (wok_take h k)
  rwa [List.length_take, Nat.min_eq_left hk] at h3
/-- One more word behind. -/
theorem wv_snoc (l : List Nat) (d : Nat) : wv (l ++ [d]) = wv l + d * 4294967296 ^ l.length := by
  rw [wv_app]
  show _ + _ * (d + 4294967296 * 0) = _
  rw [Nat.mul_zero, Nat.add_zero, Nat.mul_comm]
theorem wv_take_more {l : List Nat} {k : Nat} (h : l.length ≤ k) : wv (l.take k) = wv l := by rw [List.take_of_length_le h]
theorem cmp_lt {la lb : List Nat} {j x y : Nat} (ha : Wok la) (hx : la[j]? = some x) (hy : lb[j]? = some y) (hxy : x < y) (hd : la.drop (j + 1) = lb.drop (j + 1)) : wv la < wv lb := by
  have h1 := (List.getElem?_eq_some_iff.1 hx).1
  have h2 := (List.getElem?_eq_some_iff.1 hy).1
  rw [wv_td la (j + 1) (by omega), wv_td lb (j + 1) (by omega), hd, wv_take_succ hx, wv_take_succ hy]
  have h3 := wv_take_lt ha (k := j) (by omega)
  have h4 : (x + 1) * 4294967296 ^ j ≤ y * 4294967296 ^ j := Nat.mul_le_mul_right _ hxy
  rw [Nat.succ_mul] at h4
  omega
theorem drop_step {la lb : List Nat} {j x : Nat} (hx : la[j]? = some x) (hy : lb[j]? = some x) (hd : la.drop (j + 1) = lb.drop (j + 1)) : la.drop j = lb.drop j := by
  have h1 := (List.getElem?_eq_some_iff.1 hx)
  have h2 := (List.getElem?_eq_some_iff.1 hy)
  obtain ⟨h1, e1⟩ := h1
  obtain ⟨h2, e2⟩ := h2
  rw [List.drop_eq_getElem_cons h1, List.drop_eq_getElem_cons h2, e1, e2, hd]
/-- How two numbers compare. -/
def cmpN (a b : Nat) : Int := if a < b then -1 else if b < a then 1 else 0
/-- One word subtracted: the word, what is borrowed. -/
def lsX (x d : Nat) : Nat := if x < d then x + 4294967296 - d else x - d
def lsC (x d : Nat) : Nat := if x < d then 1 else 0
theorem ls_eq {x d : Nat} (hx : x < 4294967296) (hd : d ≤ 4294967296) : lsX x d + d = x + lsC x d * 4294967296 ∧ lsX x d < 4294967296 ∧ lsC x d ≤ 1 := by
  unfold lsX lsC
  split <;> omega
theorem ls_step {la lb done : List Nat} {k c x y : Nat} (ha : Wok la) (hb : Wok lb) (hlen : done.length = k) (hc : c ≤ 1) (h : wv done + wv (lb.take k) = wv (la.take k) + c * 4294967296 ^ k) (hx : la[k]? = some x) (hy : y = lb.getD k 0) :
    wv (done ++ [lsX x (c + y)]) + wv (lb.take (k + 1)) = wv (la.take (k + 1)) + lsC x (c + y) * 4294967296 ^ (k + 1) ∧ lsX x (c + y) < 4294967296 ∧ lsC x (c + y) ≤ 1 := by
  have hyl : y < 4294967296 := by
    rw [hy, List.getD_eq_getElem?_getD]
    cases hq : lb[k]? with
    | none => decide
    | some q => exact wok_get hb hq
  obtain ⟨e1, e2, e3⟩ := ls_eq (wok_get ha hx) (show c + y ≤ 4294967296 by omega)
  refine ⟨?_, e2, e3⟩
  rw [wv_snoc, hlen, wv_take_succ hx]
  have hbt : wv (lb.take (k + 1)) = wv (lb.take k) + y * 4294967296 ^ k := by
    rw [hy, List.getD_eq_getElem?_getD]
    cases hq : lb[k]? with
    | none =>
      have := List.getElem?_eq_none_iff.1 hq
      rw [wv_take_more (by omega), wv_take_more (by omega)]
      simp
    | some q => exact wv_take_succ hq
  rw [hbt]
  generalize lsX x (c + y) = n at *
  generalize lsC x (c + y) = c' at *
  rw [Nat.pow_succ]
  have h1 : (n + (c + y)) * 4294967296 ^ k = (x + c' * 4294967296) * 4294967296 ^ k := by rw [e1]
  rw [Nat.add_mul, Nat.add_mul, Nat.add_mul, Nat.mul_assoc] at h1
  rw [Nat.mul_comm (4294967296 ^ k) 4294967296]
  omega
theorem ls_end {la lb done : List Nat} {c : Nat} (hlen : done.length = la.length) (hd : Wok done) (hle : wv lb ≤ wv la) (hbl : lb.length ≤ la.length) (h : wv done + wv (lb.take la.length) = wv (la.take la.length) + c * 4294967296 ^ la.length) : wv done = wv la - wv lb := by
  rw [List.take_length, wv_take_more hbl] at h
  have h1 := wv_lt hd
  rw [hlen] at h1
  have hc : c = 0 := by
    rcases Nat.eq_zero_or_pos c with hc | hc
    · exact hc
    · have := Nat.mul_le_mul_right (4294967296 ^ la.length) hc
      omega
  subst hc
  omega
theorem hf_step {l done : List Nat} {k x y : Nat} (hlen : done.length = k) (h : 2 * wv done + l.getD 0 0 % 2 = wv (l.take k) + x % 2 * 4294967296 ^ k) (hx : l[k]? = some x) (_hy : y = l.getD (k + 1) 0) :
    2 * wv (done ++ [x / 2 + y % 2 * 2147483648]) + l.getD 0 0 % 2 = wv (l.take (k + 1)) + y % 2 * 4294967296 ^ (k + 1) := by
  rw [wv_snoc, hlen, wv_take_succ hx, Nat.pow_succ]
  have e : 2 * (x / 2 + y % 2 * 2147483648) + x % 2 = x + y % 2 * 4294967296 := by omega
  have h1 : (2 * (x / 2 + y % 2 * 2147483648) + x % 2) * 4294967296 ^ k = (x + y % 2 * 4294967296) * 4294967296 ^ k := by rw [e]
  generalize x / 2 + y % 2 * 2147483648 = q at *
  rw [Nat.add_mul, Nat.add_mul, Nat.mul_assoc, Nat.mul_assoc] at h1
  rw [Nat.mul_comm (4294967296 ^ k) 4294967296]
  omega
theorem hf_end {l done : List Nat} (h : 2 * wv done + l.getD 0 0 % 2 = wv (l.take l.length) + 0 * 4294967296 ^ l.length) : wv done = wv l / 2 := by
  rw [List.take_length] at h
  omega
theorem up_step {l done : List Nat} {k s c x : Nat} (hlen : done.length = k) (hc : c < 2 ^ s) (h : wv done + c * 4294967296 ^ k = 2 ^ s * wv (l.take k)) (hl : Wok l) (hx : l[k]? = some x) :
    wv (done ++ [(c + x * 2 ^ s) % 4294967296]) + (c + x * 2 ^ s) / 4294967296 * 4294967296 ^ (k + 1) = 2 ^ s * wv (l.take (k + 1)) ∧ (c + x * 2 ^ s) / 4294967296 < 2 ^ s := by
  refine ⟨?_, ?_⟩
  · rw [wv_snoc, hlen, wv_take_succ hx, Nat.pow_succ, Nat.mul_add, ← h]
    have e := Nat.div_add_mod (c + x * 2 ^ s) 4294967296
    generalize (c + x * 2 ^ s) / 4294967296 = q at *
    generalize (c + x * 2 ^ s) % 4294967296 = r at *
    have h1 : (4294967296 * q + r) * 4294967296 ^ k = (c + x * 2 ^ s) * 4294967296 ^ k := by rw [e]
    rw [Nat.add_mul, Nat.add_mul] at h1
    rw [show q * (4294967296 ^ k * 4294967296) = 4294967296 * q * 4294967296 ^ k by rw [Nat.mul_comm (4294967296 ^ k), ← Nat.mul_assoc, Nat.mul_comm q]]
    rw [show 2 ^ s * (x * 4294967296 ^ k) = x * 2 ^ s * 4294967296 ^ k by rw [← Nat.mul_assoc, Nat.mul_comm (2 ^ s)]]
    omega
  · rw [Nat.div_lt_iff_lt_mul (by decide)]
    have h1 := wok_get hl hx
    have h2 : (x + 1) * 2 ^ s ≤ 4294967296 * 2 ^ s := Nat.mul_le_mul_right _ h1
    rw [Nat.add_mul] at h2
    rw [Nat.mul_comm (2 ^ s)]
    omega
theorem up_end {l done : List Nat} {q s c n : Nat} (hlen : done.length = l.length) (h : wv done + c * 4294967296 ^ l.length = 2 ^ s * wv (l.take l.length)) (hn : n = 32 * q + s) : wv (List.replicate q 0 ++ done ++ [c]) = wv l * 2 ^ n := by
  rw [List.take_length] at h
  rw [List.append_assoc, wv_app, wv_replicate, wv_snoc, hlen, h, List.length_replicate, Nat.zero_add, hn, Nat.pow_add, Nat.pow_mul]
  show (2 ^ 32) ^ q * _ = _
  rw [← Nat.mul_assoc, Nat.mul_comm]
theorem wv_set' {l : List Nat} {j x y : Nat} (hy : l[j]? = some y) : wv (l.set j x) + y * 4294967296 ^ j = wv l + x * 4294967296 ^ j := by
  have h := wv_set l j x (List.getElem?_eq_some_iff.1 hy).1
  rwa [List.getD_eq_getElem?_getD, hy] at h
theorem ml_step {O O0 B : List Nat} {i k c x y z : Nat} (hc : c < 4294967296) (hx : x < 4294967296) (hz : O[i + k]? = some z) (hzl : z < 4294967296) (hB : Wok B) (hy : B[k]? = some y)
    (h : wv O + c * 4294967296 ^ (i + k) = wv O0 + x * wv (B.take k) * 4294967296 ^ i) :
    wv (O.set (i + k) ((c + x * y + z) % 4294967296)) + (c + x * y + z) / 4294967296 * 4294967296 ^ (i + (k + 1)) = wv O0 + x * wv (B.take (k + 1)) * 4294967296 ^ i ∧ (c + x * y + z) / 4294967296 < 4294967296 ∧ c + x * y + z < 18446744073709551616 ∧ x * y < 18446744073709551616 := by
  have hyl := wok_get hB hy
  have hxy : x * y ≤ 4294967295 * 4294967295 := Nat.mul_le_mul (by omega) (by omega)
  refine ⟨?_, by omega, by omega, by omega⟩
  have h1 := wv_set' (x := (c + x * y + z) % 4294967296) hz
  rw [wv_take_succ hy, show i + (k + 1) = i + k + 1 from rfl, Nat.pow_succ]
  have e := Nat.div_add_mod (c + x * y + z) 4294967296
  generalize (c + x * y + z) / 4294967296 = q at *
  generalize (c + x * y + z) % 4294967296 = r at *
  have h2 : (4294967296 * q + r) * 4294967296 ^ (i + k) = (c + x * y + z) * 4294967296 ^ (i + k) := by rw [e]
  rw [Nat.add_mul, Nat.add_mul, Nat.add_mul] at h2
  rw [Nat.mul_add, Nat.add_mul]
  rw [show q * (4294967296 ^ (i + k) * 4294967296) = 4294967296 * q * 4294967296 ^ (i + k) by rw [Nat.mul_comm (4294967296 ^ (i + k)), ← Nat.mul_assoc, Nat.mul_comm q]]
  rw [show x * (y * 4294967296 ^ k) * 4294967296 ^ i = x * y * 4294967296 ^ (i + k) by rw [Nat.pow_add, ← Nat.mul_assoc, Nat.mul_assoc (x * y), Nat.mul_comm (4294967296 ^ k)]]
  omega
theorem ml_end {O O0 A B : List Nat} {i c x : Nat} (hx : A[i]? = some x) (h0 : wv O0 = wv (A.take i) * wv B) (hz : O[i + B.length]? = some 0) (h : wv O + c * 4294967296 ^ (i + B.length) = wv O0 + x * wv (B.take B.length) * 4294967296 ^ i) :
    wv (O.set (i + B.length) c) = wv (A.take (i + 1)) * wv B := by
  have h1 := wv_set' (x := c) hz
  rw [List.take_length] at h
  rw [wv_take_succ hx, Nat.add_mul, ← h0]
  rw [show x * 4294967296 ^ i * wv B = x * wv B * 4294967296 ^ i by rw [Nat.mul_assoc, Nat.mul_comm (4294967296 ^ i), ← Nat.mul_assoc]]
  omega
theorem bits_half {x : Nat} (h : 0 < x) : bitsN x = bitsN (x / 2) + 1 := by
  unfold bitsN
  rw [if_neg (by omega), Nat.log2_def]
  by_cases h2 : 2 ≤ x
  · rw [if_pos h2, if_neg (by omega)]
  · rw [if_neg h2, if_pos (by omega)]
theorem bits_shift (k : Nat) : ∀ {n : Nat}, 2 ^ k ≤ n → bitsN n = k + bitsN (n / 2 ^ k) := by
  induction k with
  | zero => intro n _; simp
  | succ k ih =>
    intro n h
    rw [Nat.pow_succ] at h
    have h0 : 0 < n := by have := Nat.two_pow_pos k; omega
    rw [bits_half h0, ih (show 2 ^ k ≤ n / 2 by omega), Nat.div_div_eq_div_mul, Nat.pow_succ, Nat.mul_comm 2]
    omega
/-- The bits of a number by its last word. -/
theorem bits_wds : ∀ (n : Nat), n ≠ 0 → ∃ t, (wds n)[(wds n).length - 1]? = some t ∧ t < 4294967296 ∧ 0 < t ∧ bitsN n = 32 * ((wds n).length - 1) + bitsN t := by
  intro n
  induction n using Nat.strongRecOn with
  | ind n ih =>
    intro h
    by_cases h2 : n / 4294967296 = 0
    · refine ⟨n, ?_, by omega, by omega, ?_⟩
      · rw [wds_pos h, h2, wds_0]
        show [n % 4294967296][0]? = _
        rw [show n % 4294967296 = n by omega]
        rfl
      · rw [wds_pos h, h2, wds_0]
        simp
    · obtain ⟨t, e1, e2, e3, e4⟩ := ih (n / 4294967296) (by omega) h2
      have hl : 1 ≤ (wds (n / 4294967296)).length := by rw [wds_pos h2]; simp
      refine ⟨t, ?_, e2, e3, ?_⟩
      · rw [wds_pos h, List.length_cons, Nat.add_sub_cancel]
        obtain ⟨m, hm⟩ : ∃ m, (wds (n / 4294967296)).length = m + 1 := ⟨_, (Nat.sub_add_cancel hl).symm⟩
        rw [hm] at e1 ⊢
        rw [List.getElem?_cons_succ]
        exact e1
      · rw [wds_pos h, List.length_cons, Nat.add_sub_cancel, bits_shift 32 (show 2 ^ 32 ≤ n by omega)]
        show 32 + bitsN (n / 4294967296) = _
        rw [e4]
        omega
theorem bitsN_le_wds (n : Nat) : bitsN n ≤ 32 * (wds n).length := by
  by_cases h : n = 0
  · subst h; exact Nat.zero_le _
  · obtain ⟨t, _, h2, h3, h4⟩ := bits_wds n h
    have hl : 1 ≤ (wds n).length := by rw [wds_pos h]; simp
    have : bitsN t ≤ 32 := by
      have h5 := bits_le (Nat.ne_of_gt h3)
      rcases Nat.lt_or_ge 32 (bitsN t) with h6 | h6
      · have := Nat.pow_le_pow_right (show 0 < 2 by decide) (show 32 ≤ bitsN t - 1 by omega)
        omega
      · exact h6
    omega
end Go.Proofs.YtfalbdlfopfgcaaGreatDoor

