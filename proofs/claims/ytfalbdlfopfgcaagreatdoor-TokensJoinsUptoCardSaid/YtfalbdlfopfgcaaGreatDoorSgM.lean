/- The slow way of reading a real (internal/strconv.floatBits), plainly: its two loops keep the number, and its last step gives the nearest word. No program; conditions: at most 64 digits, the point between -330 and 309. What readFloat reads, as digits and a power of ten; more than 19 digits. No program; no condition. quantity.cut and gridworkref05.Exact, plainly: one text, one reading. No program; no condition. -/
import Derived.Test.YtfalbdlfopfgcaaGreatDoorSdTM
import Derived.Test.YtfalbdlfopfgcaaGreatDoorUsRM
import Derived.Test.YtfalbdlfopfgcaaGreatDoorPd
namespace Go.Proofs.YtfalbdlfopfgcaaGreatDoor

theorem Eqv.le {m m' g h x y p q : Nat} {e e' : Int} (H : Eqv m e m' e') (hx : g * 10 ^ x ≤ m) (hy : m' ≤ h * 10 ^ y) (hpq : (p : Int) + (y + e') = x + e + q) : g * 10 ^ p ≤ h * 10 ^ q := by
  obtain ⟨a, b, hab⟩ : ∃ a b : Nat, (a : Int) + e' = e + b := ⟨(e + e.natAbs + e'.natAbs).toNat, (e' + e.natAbs + e'.natAbs).toNat, by omega⟩
  have h1 := H a b hab
  have h2 : g * 10 ^ (x + a) ≤ h * 10 ^ (y + b) := by
    rw [Nat.pow_add, Nat.pow_add, ← Nat.mul_assoc, ← Nat.mul_assoc]
    calc g * 10 ^ x * 10 ^ a ≤ m * 10 ^ a := Nat.mul_le_mul_right _ hx
      _ = m' * 10 ^ b := h1
      _ ≤ h * 10 ^ y * 10 ^ b := Nat.mul_le_mul_right _ hy
  have e1 : x + a + q = p + (y + b) := by omega
  apply Nat.le_of_mul_le_mul_right (c := 10 ^ (y + b)) ?_ (pw10 _)
  calc g * 10 ^ p * 10 ^ (y + b) = g * 10 ^ (x + a) * 10 ^ q := by rw [Nat.mul_assoc, Nat.mul_assoc, ← Nat.pow_add, ← Nat.pow_add, e1]
    _ ≤ h * 10 ^ (y + b) * 10 ^ q := Nat.mul_le_mul_right _ h2
    _ = h * 10 ^ q * 10 ^ (y + b) := Nat.mul_right_comm _ _ _
theorem lo1 {t : List Nat} (h : Nrm t) : 1 * 10 ^ (t.length - 1) ≤ dv t := by rw [Nat.one_mul]; exact h.lo
theorem hi1 {t : List Nat} (h : Nrm t) : dv t < 1 * 10 ^ t.length := by rw [Nat.one_mul]; exact h.hi
/-- The number that is read: at most 64 digits, the point where it may stand. -/
structure D0 (t0 : List Nat) (dp0 : Int) : Prop where
  n : Nrm t0
  l : t0.length ≤ 64
  a : -330 ≤ dp0
  b : dp0 ≤ 309
/-- The first loop: the number is told, times 2^i. -/
structure P1 (t0 : List Nat) (dp0 : Int) (t : List Nat) (dp : Int) (i : Nat) : Prop where
  n : Nrm t
  q : Eqv (dv t * 2 ^ i) (dp - t.length) (dv t0) (dp0 - t0.length)
  fr : (t.length : Int) - dp ≤ t0.length - dp0 + i
  lo : 0 ≤ dp ∨ (i = 0 ∧ dp = dp0)
  z : dp0 ≤ 0 → i = 0
theorem P1.start {t0 : List Nat} {dp0 : Int} (h : D0 t0 dp0) : P1 t0 dp0 t0 dp0 0 :=
  ⟨h.n, by rw [Nat.pow_zero, Nat.mul_one]; exact Eqv.refl _ _, by omega, .inr ⟨rfl, rfl⟩, fun _ => rfl⟩
theorem P1.top {t0 t : List Nat} {dp0 dp : Int} {i : Nat} (H : P1 t0 dp0 t dp i) (h0 : D0 t0 dp0) (hdp : 0 ≤ dp) : i ≤ 1030 ∧ (i : Int) ≤ dp0 + 1 - dp + 719 ∧ dp ≤ dp0 + 1 := by
  have h1 := H.n.pos
  have h2 : dp ≤ dp0 + 1 := by
    apply Int.not_lt.1
    intro hlt
    have := H.q.lt (g := 1) (h := 1) (x := t.length - 1) (y := t0.length) (p := (dp - 1 - dp0).toNat) (q := 0) (Nat.le_trans (lo1 H.n) (Nat.le_mul_of_pos_right _ (Nat.two_pow_pos _))) (hi1 h0.n) (by omega)
    have := pw10 (dp - 1 - dp0).toNat
    omega
  have h3 := H.q.lt (g := 2 ^ i) (h := 1) (x := t.length - 1) (y := t0.length) (p := 0) (q := (dp0 + 1 - dp).toNat) (by rw [Nat.mul_comm]; exact Nat.mul_le_mul_right _ H.n.lo) (hi1 h0.n) (by omega)
  rw [Nat.pow_zero, Nat.mul_one, Nat.one_mul] at h3
  have h4 := h0.b
  have := two_ten h3 (by omega)
  omega
theorem P1.room {t0 t : List Nat} {dp0 dp : Int} {i k : Nat} (H : P1 t0 dp0 t dp i) (h0 : D0 t0 dp0) (hdp : 1 ≤ dp) (hk : 2 ^ k ≤ 10 ^ dp.toNat) (r : Nat) (hr : 2 ^ k * 10 ^ t.length ≤ dv t * 10 ^ r) (hm : r = 0 ∨ dv t * 10 ^ (r - 1) < 2 ^ k * 10 ^ t.length) : t.length + k + 1 ≤ 800 + r := by
  have h1 := H.n.pos
  have h2 : (r : Int) ≤ dp + 1 := by
    rcases hm with rfl | hm
    · omega
    · apply Int.not_lt.1
      intro hlt
      have a1 := Nat.mul_le_mul_right (10 ^ (r - 1)) H.n.lo
      rw [← Nat.pow_add] at a1
      have a2 := Nat.mul_le_mul_right (10 ^ t.length) hk
      rw [← Nat.pow_add] at a2
      have a3 := Nat.lt_of_le_of_lt a1 (Nat.lt_of_lt_of_le hm a2)
      have := (Nat.pow_lt_pow_iff_right (a := 10) (by decide)).1 a3
      omega
  have e1 : Eqv (dv t * 2 ^ i * 10 ^ r) (dp - t.length - r) (dv t0) (dp0 - t0.length) := by
    have := Eqv.up (dv t * 2 ^ i) (dp - t.length - r) r
    rw [show dp - (t.length : Int) - r + r = dp - t.length by omega] at this
    exact this.trans H.q
  have h4 := h0.b
  have h5 := h0.l
  have h6 := H.fr
  have h7 : dp ≤ dp0 + 1 := (H.top h0 (by omega)).2.2
  have h3 := e1.lt (g := 2 ^ (i + k)) (h := 1) (x := t.length) (y := t0.length) (p := (dp + 1 - r).toNat) (q := (dp0 + 1).toNat) (by
    rw [Nat.pow_add, Nat.mul_assoc, Nat.mul_right_comm, Nat.mul_comm]
    exact Nat.mul_le_mul_right _ hr) (hi1 h0.n) (by omega)
  rw [Nat.one_mul] at h3
  obtain ⟨D, hD⟩ : ∃ D : Nat, (D : Int) = dp0 - dp + r := by
    refine ⟨(dp0 - dp + r).toNat, ?_⟩
    have : ¬ (dp0 - dp + r) < 0 := fun hlt => by
      have a1 : 10 ^ (dp0 + 1).toNat ≤ 2 ^ (i + k) * 10 ^ (dp + 1 - r).toNat :=
        Nat.le_trans (Nat.pow_le_pow_right (by decide) (by omega)) (Nat.le_mul_of_pos_left _ (Nat.two_pow_pos _))
      omega
    omega
  have h8 : 2 ^ (i + k) < 10 ^ D := by
    apply Nat.lt_of_mul_lt_mul_right (a := 10 ^ (dp + 1 - r).toNat)
    rw [← Nat.pow_add, show D + (dp + 1 - r).toNat = (dp0 + 1).toNat by omega]
    exact h3
  have := two_ten h8 (by omega)
  omega
theorem P1.step {t0 t t' : List Nat} {dp0 dp dp' : Int} {i k : Nat} (H : P1 t0 dp0 t dp i) (h0 : D0 t0 dp0) (hdp : 1 ≤ dp) (hk : 2 ^ k ≤ 10 ^ dp.toNat) (hn : Nrm t') (he : Eqv (dv t) (dp - t.length) (dv t' * 2 ^ k) (dp' - t'.length)) (hf : (t'.length : Int) - dp' ≤ t.length - dp + k) : P1 t0 dp0 t' dp' (i + k) := by
  have h7 : dp ≤ dp0 + 1 := (H.top h0 (by omega)).2.2
  refine ⟨hn, ?_, ?_, ?_, ?_⟩
  · have h1 := (he.mul (2 ^ i)).symm.trans H.q
    rwa [Nat.mul_assoc, ← Nat.pow_add, Nat.add_comm k] at h1
  · have := H.fr
    omega
  · left
    apply Int.not_lt.1
    intro hlt
    have h1 := H.n.pos
    have h2 := he.lt (g := 1) (h := 2 ^ k) (x := t.length - 1) (y := t'.length) (p := (dp - 1 - dp').toNat) (q := 0) (lo1 H.n) (by rw [Nat.mul_comm]; exact Nat.mul_lt_mul_of_pos_left hn.hi (Nat.two_pow_pos _)) (by omega)
    rw [Nat.one_mul, Nat.pow_zero, Nat.mul_one] at h2
    have h3 : 10 ^ dp.toNat ≤ 10 ^ (dp - 1 - dp').toNat := Nat.pow_le_pow_right (by decide) (by omega)
    omega
  · intro hz
    have := H.z hz
    rcases H.lo with h | h
    · have := (H.top h0 h).2.2
      exfalso
      have h5 := H.q.lt (g := 1) (h := 1) (x := t.length - 1) (y := t0.length) (p := (dp - 1).toNat) (q := (dp0 - 0).toNat) (Nat.le_trans (lo1 H.n) (Nat.le_mul_of_pos_right _ (Nat.two_pow_pos _))) (hi1 h0.n) (by have := H.n.pos; omega)
      have h6 : 10 ^ (dp0 - 0).toNat ≤ 10 ^ (dp - 1).toNat := Nat.pow_le_pow_right (by decide) (by omega)
      omega
    · omega
/-- The second loop: the number is told, times 2^i, by 2^j. -/
structure P2 (t0 : List Nat) (dp0 : Int) (t : List Nat) (dp : Int) (i j : Nat) : Prop where
  n : Nrm t
  q : Eqv (dv t * 2 ^ i) (dp - t.length) (dv t0 * 2 ^ j) (dp0 - t0.length)
  up : dp ≤ 0
  F : (t.length : Int) - dp ≤ 784
  G : (t.length : Int) - dp ≤ 394 ∨ 0 < dp0
  I : i ≤ 1030
theorem P1.next {t0 t : List Nat} {dp0 dp : Int} {i : Nat} (H : P1 t0 dp0 t dp i) (h0 : D0 t0 dp0) (hdp : dp ≤ 0) : P2 t0 dp0 t dp i 0 := by
  have h1 := H.fr
  have h2 := h0.l
  have h3 := h0.a
  refine ⟨H.n, by rw [Nat.pow_zero, Nat.mul_one]; exact H.q, hdp, ?_, ?_, ?_⟩
  · rcases H.lo with h | h
    · have := H.top h0 h
      omega
    · omega
  · by_cases hz : 0 < dp0
    · exact .inr hz
    · have := H.z (by omega)
      omega
  · rcases H.lo with h | h
    · exact (H.top h0 h).1
    · omega
theorem ten331 {z v : Nat} (hz : z = 331) (hv : v = 1101) : 10 ^ z ≤ big v := by subst hz hv; decide +kernel
theorem P2.bot {t0 t : List Nat} {dp0 dp : Int} {i j : Nat} (H : P2 t0 dp0 t dp i j) (h0 : D0 t0 dp0) : j ≤ i + 1100 := by
  have h1 := H.n.pos
  have h2 := h0.n.pos
  have h3 := h0.a
  have h4 := H.up
  obtain ⟨y, hy⟩ : ∃ y, y = 2000 := ⟨_, rfl⟩
  obtain ⟨z, hz⟩ : ∃ z, z = 331 := ⟨_, rfl⟩
  obtain ⟨v, hv⟩ : ∃ v, v = 1101 := ⟨_, rfl⟩
  have h5 := H.q.symm.lt (g := 2 ^ j) (h := 2 ^ i) (x := t0.length - 1) (y := t.length) (p := y) (q := (y + dp - dp0 + 1).toNat) (by rw [Nat.mul_comm]; exact Nat.mul_le_mul_right _ h0.n.lo) (by rw [Nat.mul_comm]; exact Nat.mul_lt_mul_of_pos_left H.n.hi (Nat.two_pow_pos _)) (by have := H.F; have := h0.b; omega)
  have h6 : 10 ^ (y + dp - dp0 + 1).toNat ≤ 10 ^ (z + y) := ten_le (by omega)
  have h7 : 2 ^ j * 10 ^ y < 2 ^ (i + v) * 10 ^ y := by
    refine Nat.lt_of_lt_of_le h5 (Nat.le_trans (Nat.mul_le_mul_left _ h6) ?_)
    rw [Nat.pow_add, Nat.pow_add, Nat.mul_assoc]
    exact Nat.mul_le_mul_left _ (Nat.mul_le_mul_right _ (by rw [← big_eq v]; exact ten331 hz hv))
  have h8 := (Nat.pow_lt_pow_iff_right (a := 2) (by decide)).1 (Nat.lt_of_mul_lt_mul_right h7)
  omega
theorem P2.step {t0 t t' : List Nat} {dp0 dp dp' : Int} {i j k : Nat} (H : P2 t0 dp0 t dp i j) (hk : dp < 0 ∧ 2 ^ k ≤ 10 ^ (-dp).toNat ∨ dp = 0 ∧ dv t * 2 ^ k < 10 ^ t.length) (hn : Nrm t') (he : Eqv (dv t * 2 ^ k) (dp - t.length) (dv t') (dp' - t'.length)) (hf : (t'.length : Int) - dp' ≤ t.length - dp) : P2 t0 dp0 t' dp' i (j + k) := by
  have h1 := H.n.pos
  have h2 := hn.pos
  have hup : dp' ≤ 0 := by
    apply Int.not_lt.1
    intro hlt
    rcases hk with ⟨hk0, hk⟩ | ⟨rfl, hk⟩
    · have h3 := he.symm.lt (g := 1) (h := 2 ^ k) (x := t'.length - 1) (y := t.length) (p := (dp' - 1 - dp).toNat) (q := 0) (lo1 hn) (by rw [Nat.mul_comm]; exact Nat.mul_lt_mul_of_pos_left H.n.hi (Nat.two_pow_pos _)) (by omega)
      rw [Nat.one_mul, Nat.pow_zero, Nat.mul_one] at h3
      have h4 : 10 ^ (-dp).toNat ≤ 10 ^ (dp' - 1 - dp).toNat := Nat.pow_le_pow_right (by decide) (by omega)
      omega
    · have h3 := he.symm.lt (g := 1) (h := 1) (x := t'.length - 1) (y := t.length) (p := (dp' - 1).toNat) (q := 0) (lo1 hn) (by rw [Nat.one_mul]; exact hk) (by omega)
      have := pw10 (dp' - 1).toNat
      omega
  refine ⟨hn, ?_, hup, ?_, ?_, H.I⟩
  · have h3 := (he.mul (2 ^ i)).symm.trans ((show Eqv (dv t * 2 ^ k * 2 ^ i) (dp - t.length) (dv t0 * 2 ^ (j + k)) (dp0 - t0.length) by
      rw [Nat.mul_right_comm, Nat.pow_add, ← Nat.mul_assoc]
      exact H.q.mul (2 ^ k)))
    exact h3
  · have := H.F
    omega
  · have := H.G
    omega
theorem head_up {t : List Nat} (h : Nrm t) (m : Nat) (hm : m ≤ t.getD 0 0) : m * 10 ^ (t.length - 1) ≤ dv t := by
  obtain ⟨h1, -, -, -⟩ := h
  cases t with
  | nil => exact absurd rfl h1
  | cons c t =>
    have hm' : m ≤ c := hm
    simp only [List.length_cons, Nat.add_sub_cancel, dv]
    have := Nat.mul_le_mul_right (10 ^ t.length) hm'
    omega
theorem head_dn {t : List Nat} (h : Nrm t) (m : Nat) (hm : t.getD 0 0 < m) : dv t < m * 10 ^ (t.length - 1) := by
  obtain ⟨h1, h2, -, -⟩ := h
  cases t with
  | nil => exact absurd rfl h1
  | cons c t =>
    have hm' : c + 1 ≤ m := hm
    have := dv_lt t fun x hx => h2 x (List.mem_cons_of_mem _ hx)
    simp only [List.length_cons, Nat.add_sub_cancel, dv]
    have := Nat.mul_le_mul_right (10 ^ t.length) hm'
    rw [Nat.succ_mul] at this
    omega
theorem small_dbl {t : List Nat} (h : Nrm t) (hm : t.getD 0 0 < 5) : dv t * 2 ^ 1 < 10 ^ t.length := by
  have h1 := head_dn h 5 hm
  have h2 := h.pos
  obtain ⟨m, hm⟩ : ∃ m, t.length = m + 1 := ⟨t.length - 1, by omega⟩
  rw [hm, Nat.add_sub_cancel] at h1
  rw [hm, Nat.pow_succ]
  omega
theorem big_dbl {t : List Nat} (h : Nrm t) (hm : 5 ≤ t.getD 0 0) : 10 ^ t.length ≤ dv t * 2 := by
  have h1 := head_up h 5 hm
  have h2 := h.pos
  obtain ⟨m, hm⟩ : ∃ m, t.length = m + 1 := ⟨t.length - 1, by omega⟩
  rw [hm, Nat.add_sub_cancel] at h1
  rw [hm, Nat.pow_succ]
  omega
/-- Rounded, the point may stand ahead of all digits. -/
def rintZ (t : List Nat) (dp : Int) : Nat := if dp < 0 then 0 else rint t dp.toNat
theorem rintZ_law {t : List Nat} (h : Nrm t) (hl : t.getLast? ≠ some 0) (dp : Int) : rintZ t dp = rnd (dv t * 10 ^ (dp - t.length).toNat) (10 ^ (t.length - dp).toNat) := by
  unfold rintZ
  split
  · rename_i hd
    have h1 := h.hi
    rw [show (dp - (t.length : Int)).toNat = 0 by omega, Nat.pow_zero, Nat.mul_one]
    have h2 : 10 ^ (t.length + 1) ≤ 10 ^ ((t.length : Int) - dp).toNat := Nat.pow_le_pow_right (by decide) (by omega)
    rw [Nat.pow_succ] at h2
    unfold rnd
    rw [Nat.div_eq_of_lt (by omega), Nat.mod_eq_of_lt (by omega), if_neg (by omega)]
  · rw [rint_law h hl, show dp.toNat - t.length = (dp - (t.length : Int)).toNat by omega, show t.length - dp.toNat = ((t.length : Int) - dp).toNat by omega]
/-- The last step: what is rounded there is the number in units of 2^(q - 1074). -/
theorem last_rnd {t0 t : List Nat} {dp0 dp : Int} {a b q : Nat} (he : Eqv (dv t * 2 ^ a) (dp - t.length) (dv t0 * 2 ^ b) (dp0 - t0.length)) (hab : a + 1074 = b + q) :
    (dv t * 10 ^ (dp - t.length).toNat) * (tenD (dp0 - t0.length) * 2 ^ q) = tenV (dv t0) (dp0 - t0.length) * 10 ^ (t.length - dp).toNat := by
  have h1 := he ((dp - t.length).toNat + (-(dp0 - t0.length)).toNat) ((dp0 - t0.length).toNat + (t.length - dp).toNat) (by omega)
  unfold tenV tenD
  obtain ⟨z, hz⟩ : ∃ z, z = 1074 := ⟨_, rfl⟩
  rw [← hz] at hab ⊢
  clear hz
  apply Nat.eq_of_mul_eq_mul_right (Nat.two_pow_pos a)
  rw [Nat.pow_add, Nat.pow_add] at h1
  have h2 : 2 ^ a * 2 ^ z = 2 ^ b * 2 ^ q := by rw [← Nat.pow_add, ← Nat.pow_add, hab]
  generalize 10 ^ (dp - (t.length : Int)).toNat = A at *
  generalize 10 ^ (-(dp0 - (t0.length : Int))).toNat = B at *
  generalize 10 ^ (dp0 - (t0.length : Int)).toNat = C at *
  generalize 10 ^ ((t.length : Int) - dp).toNat = E at *
  generalize dv t = x at *
  generalize dv t0 = y at *
  generalize 2 ^ a = p at *
  generalize 2 ^ b = r at *
  generalize 2 ^ q = s at *
  generalize 2 ^ z = u at *
  calc x * A * (B * s) * p = x * p * (A * B) * s := by grind
    _ = y * r * (C * E) * s := by rw [h1]
    _ = y * (C * E) * (r * s) := by grind
    _ = y * (C * E) * (p * u) := by rw [h2]
    _ = y * C * u * E * p := by grind
/-- The nearest word, out of the rounded number. -/
theorem last_near {t0 t : List Nat} {dp0 dp : Int} {a b q : Nat} (hn : Nrm t) (hl : t.getLast? ≠ some 0) (he : Eqv (dv t * 2 ^ a) (dp - t.length) (dv t0 * 2 ^ b) (dp0 - t0.length)) (hab : a + 1074 = b + q)
    (hlt : dv t * 10 ^ (dp - t.length).toNat < 9007199254740992 * 10 ^ (t.length - dp).toNat) (hge : q = 0 ∨ 4503599627370496 * 10 ^ (t.length - dp).toNat ≤ dv t * 10 ^ (dp - t.length).toNat) :
    rintZ t dp ≤ 9007199254740992 ∧ (q = 0 ∨ 4503599627370496 ≤ rintZ t dp) ∧ NearM (tenV (dv t0) (dp0 - t0.length)) (tenD (dp0 - t0.length)) (min (q * 4503599627370496 + rintZ t dp) 9218868437227405312) := by
  have h1 := last_rnd he hab
  rw [rintZ_law hn hl]
  have hQ : 0 < tenD (dp0 - t0.length) := tenD_pos _
  have hB := pw10 ((t.length : Int) - dp).toNat
  generalize hA : dv t * 10 ^ (dp - (t.length : Int)).toNat = A at *
  generalize 10 ^ ((t.length : Int) - dp).toNat = B at *
  generalize tenV (dv t0) (dp0 - t0.length) = V at *
  generalize tenD (dp0 - t0.length) = Q at *
  have hQ2 : 0 < Q * 2 ^ q := Nat.mul_pos hQ (Nat.two_pow_pos q)
  have h2 : rnd A B = rnd V (Q * 2 ^ q) := rnd_eq hB hQ2 h1
  have h3 : A / B = V / (Q * 2 ^ q) := (ratio_div hB hQ2 h1).1
  have h4 := rnd_lt hlt
  have h5 : q = 0 ∨ 4503599627370496 ≤ A / B := hge.imp id fun h => (Nat.le_div_iff_mul_le hB).2 h
  have hF := near_frac (A := V) (Q := Q) (q := q) (n := rnd A B) hQ (by rw [h2]; rfl) (by rw [← h3]; exact h4.2) (by rw [← h3]; exact h5)
  refine ⟨h4.1, h5.imp id fun h => Nat.le_trans h (Nat.le_add_right _ _), Nat.min_le_right _ _, fun s hs => ?_⟩
  rw [← hF s]
  exact ⟨fun h => Nat.le_trans h (Nat.min_le_left _ _), fun h => Nat.le_min.2 ⟨h, Nat.le_of_lt_succ (by omega)⟩⟩
theorem big_up (z j : Nat) : big z * 2 ^ j = 2 ^ (z + j) := by unfold big; rw [← Nat.pow_add]
theorem mgn_inf : mgn 9218868437227405312 = big 1024 * big 1074 := by decide +kernel
theorem nearM_infD {V D : Nat} (hD : 0 < D) (h : mgn 9218868437227405312 * D ≤ V) : NearM V D 9218868437227405312 := by
  refine ⟨Nat.le_refl _, fun s hs => ⟨fun _ => .inl ?_, fun _ => hs⟩⟩
  have h1 : mgn s < mgn 9218868437227405312 := mgn_lt hs
  have h2 : mgn (s + 1) ≤ mgn 9218868437227405312 := mgn_le (by omega)
  have h3 : mid s < 2 * mgn 9218868437227405312 := by
    unfold mid
    generalize mgn 9218868437227405312 = u at *
    omega
  have h4 := Nat.mul_lt_mul_of_pos_right h3 hD
  rw [Nat.mul_assoc] at h4
  generalize mgn 9218868437227405312 * D = u at *
  omega
/-- A number of 2^1024 or more is beyond all finite ones. -/
theorem last_inf {t0 t : List Nat} {dp0 : Int} {i j : Nat} (hn : Nrm t) (hm : 5 ≤ t.getD 0 0) (he : Eqv (dv t * 2 ^ i) (0 - t.length) (dv t0 * 2 ^ j) (dp0 - t0.length)) (hij : j + 1025 ≤ i) : NearM (tenV (dv t0) (dp0 - t0.length)) (tenD (dp0 - t0.length)) 9218868437227405312 := by
  apply nearM_infD (tenD_pos _)
  obtain ⟨i', rfl⟩ : ∃ i', i = i' + 1 := ⟨i - 1, by omega⟩
  have h1 := he.le (g := 2 ^ i') (h := dv t0 * 2 ^ j) (x := t.length) (y := 0) (p := (-(dp0 - t0.length)).toNat) (q := (dp0 - t0.length).toNat) (by
    rw [Nat.pow_succ, Nat.mul_comm (2 ^ i') 2, ← Nat.mul_assoc, Nat.mul_comm (2 ^ i')]
    exact Nat.mul_le_mul_right _ (big_dbl hn hm)) (by rw [Nat.pow_zero, Nat.mul_one]; exact Nat.le_refl _) (by omega)
  have h2 : big 1024 * 2 ^ j ≤ 2 ^ i' := by
    rw [big_up]
    exact Nat.pow_le_pow_right (by decide) (by omega)
  have h3 : big 1024 * 10 ^ (-(dp0 - (t0.length : Int))).toNat ≤ dv t0 * 10 ^ (dp0 - (t0.length : Int)).toNat := by
    apply Nat.le_of_mul_le_mul_right (c := 2 ^ j) ?_ (Nat.two_pow_pos j)
    have h4 := Nat.mul_le_mul_right (10 ^ (-(dp0 - (t0.length : Int))).toNat) h2
    rw [Nat.mul_right_comm] at h4
    rw [Nat.mul_right_comm (dv t0)]
    exact Nat.le_trans h4 h1
  rw [mgn_inf, tenV_big _ _ 1074 rfl]
  unfold tenD
  rw [Nat.mul_right_comm]
  exact Nat.mul_le_mul_right _ h3
end Go.Proofs.YtfalbdlfopfgcaaGreatDoor

namespace Go.Proofs.YtfalbdlfopfgcaaGreatDoor

/-- The digits that count: without the noughts ahead. -/
def sgStep (t : List Nat) (c : Nat) : List Nat := if c = 46 then t else if c = 48 ∧ t = [] then t else t ++ [c - 48]
def sgB (b : List Nat) : List Nat := b.foldl sgStep []
theorem sgB_snoc (b : List Nat) (c : Nat) : sgB (b ++ [c]) = sgStep (sgB b) c := by unfold sgB; rw [List.foldl_append]; rfl
/-- What readFloat holds of these digits. -/
structure RdR (s : RdS) (t : List Nat) : Prop where
  nd : s.nd = t.length
  nm : s.nm = min t.length 19
  man : s.man = dv (t.take 19)
  c0 : s.cut = false → ∀ c ∈ t.drop 19, c = 0
  c1 : s.cut = true → 19 < t.length
  lt : ∀ c ∈ t, c < 10
  hd : t.head? ≠ some 0
theorem dig_le {c : Nat} (h : digB c = true) : 48 ≤ c ∧ c ≤ 57 := by
  unfold digB at h
  simpa using h
theorem head_snoc {t : List Nat} {d : Nat} (h : t.head? ≠ some 0) (h2 : t = [] → d ≠ 0) : (t ++ [d]).head? ≠ some 0 := by
  cases t with
  | nil => simpa using h2 rfl
  | cons x t => simpa using h
theorem RdR.step {s : RdS} {t : List Nat} {c : Nat} (h : RdR s t) (hc : digB c = true ∨ c = 46) : RdR (rdStep s c) (sgStep t c) := by
  obtain ⟨h1, h2, h3, h4, h5, h6, h7⟩ := h
  unfold rdStep sgStep
  by_cases e46 : c = 46
  · rw [if_pos e46, if_pos e46]
    exact ⟨h1, h2, h3, h4, h5, h6, h7⟩
  · rw [if_neg e46, if_neg e46]
    have hd := dig_le (hc.resolve_right e46)
    have hnil : s.nd = 0 ↔ t = [] := by rw [h1]; exact List.length_eq_zero_iff
    by_cases e48 : c = 48 ∧ s.nd = 0
    · rw [if_pos e48, if_pos ⟨e48.1, hnil.1 e48.2⟩]
      exact ⟨h1, h2, h3, h4, h5, h6, h7⟩
    · rw [if_neg e48, if_neg (fun hh : c = 48 ∧ t = [] => e48 ⟨hh.1, hnil.2 hh.2⟩)]
      have hlt : ∀ x ∈ t ++ [c - 48], x < 10 := fun x hx => by
        rcases List.mem_append.1 hx with hx | hx
        · exact h6 x hx
        · rw [List.mem_singleton.1 hx]; omega
      have hhd : (t ++ [c - 48]).head? ≠ some 0 := head_snoc h7 fun ht hz => e48 ⟨by omega, hnil.2 ht⟩
      have hl : (t ++ [c - 48]).length = t.length + 1 := by rw [List.length_append, List.length_singleton]
      by_cases e19 : s.nm < 19
      · rw [if_pos e19]
        have hl19 : t.length < 19 := by omega
        refine ⟨by rw [hl]; exact congrArg (· + 1) h1, ?_, ?_, fun _ x hx => ?_, fun hh => ?_, hlt, hhd⟩
        · rw [hl]
          show s.nm + 1 = _
          omega
        · show s.man * 10 + (c - 48) = _
          rw [List.take_of_length_le (by omega), dv_app, h3, List.take_of_length_le (by omega)]
          simp [dv]
        · rw [List.drop_eq_nil_of_le (by omega)] at hx
          exact absurd hx List.not_mem_nil
        · have := h5 hh
          omega
      · rw [if_neg e19]
        have hl19 : 19 ≤ t.length := by omega
        refine ⟨by rw [hl]; exact congrArg (· + 1) h1, ?_, ?_, fun hh x hx => ?_, fun _ => by omega, hlt, hhd⟩
        · rw [hl]
          show s.nm = _
          omega
        · show s.man = _
          rw [List.take_append_of_le_length hl19, h3]
        · have hh' : (s.cut || c != 48) = false := hh
          rw [Bool.or_eq_false_iff] at hh'
          rw [List.drop_append_of_le_length hl19] at hx
          rcases List.mem_append.1 hx with hx | hx
          · exact h4 hh'.1 x hx
          · rw [List.mem_singleton.1 hx]
            have := hh'.2
            simp at this
            omega
theorem RdR.fold : ∀ (b : List Nat) {s : RdS} {t : List Nat}, RdR s t → (∀ c ∈ b, digB c = true ∨ c = 46) → RdR (b.foldl rdStep s) (b.foldl sgStep t) := by
  intro b
  induction b with
  | nil => intro s t h _; exact h
  | cons c b ih =>
    intro s t h hc
    exact ih (h.step (hc c List.mem_cons_self)) fun x hx => hc x (List.mem_cons_of_mem _ hx)
theorem rdR_of {b : List Nat} (hb : ∀ c ∈ b, digB c = true ∨ c = 46) : RdR (rdB b) (sgB b) :=
  RdR.fold b ⟨rfl, rfl, rfl, (fun _ c hc => absurd hc List.not_mem_nil), (fun h => absurd h (by decide)), (fun c hc => absurd hc List.not_mem_nil), by simp⟩ hb
/-- The number of a text's digits. -/
def dgv (ds : List Nat) : Nat := dv (ds.map (· - 48))
theorem dgv_app (a b : List Nat) : dgv (a ++ b) = dgv a * 10 ^ b.length + dgv b := by
  unfold dgv
  rw [List.map_append, dv_app, List.length_map]
theorem rd_digits : ∀ (ds : List Nat) (s : RdS), (∀ c ∈ ds, digB c = true) → (ds.foldl rdStep s).dot = s.dot ∧ ((ds.foldl rdStep s).nd : Int) - (ds.foldl rdStep s).dp = s.nd - s.dp + ds.length ∧ (ds.foldl rdStep s).dig = (s.dig || !ds.isEmpty) := by
  intro ds
  induction ds with
  | nil => intro s _; exact ⟨rfl, by simp, by simp⟩
  | cons c ds ih =>
    intro s hc
    have hd := dig_le (hc c List.mem_cons_self)
    obtain ⟨i1, i2, i3⟩ := ih (rdStep s c) fun x hx => hc x (List.mem_cons_of_mem _ hx)
    rw [List.foldl_cons, i1, i2, i3]
    unfold rdStep
    rw [if_neg (by omega)]
    split
    · refine ⟨rfl, ?_, by simp⟩
      simp only [List.length_cons]
      push_cast
      omega
    · split
      · refine ⟨rfl, ?_, by simp⟩
        simp only [List.length_cons]
        push_cast
        omega
      · refine ⟨rfl, ?_, by simp⟩
        simp only [List.length_cons]
        push_cast
        omega
theorem sg_digits : ∀ (ds : List Nat) (t : List Nat), (∀ c ∈ ds, digB c = true) → dv (ds.foldl sgStep t) = dv t * 10 ^ ds.length + dgv ds := by
  intro ds
  induction ds with
  | nil => intro t _; simp [dgv, dv]
  | cons c ds ih =>
    intro t hc
    have hd := dig_le (hc c List.mem_cons_self)
    rw [List.foldl_cons, ih (sgStep t c) fun x hx => hc x (List.mem_cons_of_mem _ hx)]
    unfold sgStep
    rw [if_neg (by omega)]
    unfold dgv
    simp only [List.map_cons, dv, List.length_cons, List.length_map]
    split
    · rename_i h
      rw [h.2, h.1]
      simp [dv]
    · rw [dv_app]
      simp only [dv, List.length_singleton, List.length_nil, Nat.pow_succ, Nat.pow_zero]
      generalize dv t = x
      generalize 10 ^ ds.length = y
      grind
/-- A text's digits: some ahead of a point, some behind it. -/
def bdy (d1 : List Nat) (pt : Bool) (d2 : List Nat) : List Nat := d1 ++ (if pt then 46 :: d2 else [])
/-- The digits, as a number and a power of ten. -/
theorem rd_num {d1 d2 : List Nat} {pt : Bool} (h1 : ∀ c ∈ d1, digB c = true) (h2 : ∀ c ∈ d2, digB c = true) (hp : pt = false → d2 = []) :
    dv (sgB (bdy d1 pt d2)) = dgv (d1 ++ d2) ∧ (if (rdB (bdy d1 pt d2)).dot = true then (rdB (bdy d1 pt d2)).dp else ((rdB (bdy d1 pt d2)).nd : Int)) = (rdB (bdy d1 pt d2)).nd - d2.length ∧ (rdB (bdy d1 pt d2)).dig = !(d1 ++ d2).isEmpty ∧ (bdy d1 pt d2).count 46 ≤ 1 ∧ (∀ c ∈ bdy d1 pt d2, digB c = true ∨ c = 46) := by
  have n46 : ∀ ds : List Nat, (∀ c ∈ ds, digB c = true) → ds.count 46 = 0 := fun ds h => by
    rw [List.count_eq_zero]
    intro hm
    have := dig_le (h 46 hm)
    omega
  unfold bdy
  cases pt
  · obtain rfl := hp rfl
    simp only [Bool.false_eq_true, if_false, List.append_nil]
    obtain ⟨r1, r2, r3⟩ := rd_digits d1 rd0 h1
    refine ⟨?_, ?_, ?_, by rw [n46 d1 h1]; omega, fun c hc => .inl (h1 c hc)⟩
    · have := sg_digits d1 [] h1
      unfold sgB
      rw [this]
      simp [dv]
    · unfold rdB
      rw [r1, if_neg (by decide)]
      simp
    · unfold rdB
      rw [r3]
      simp [rd0]
  · simp only [if_true]
    obtain ⟨r1, r2, r3⟩ := rd_digits d1 rd0 h1
    obtain ⟨q1, q2, q3⟩ := rd_digits d2 (rdStep (d1.foldl rdStep rd0) 46) h2
    refine ⟨?_, ?_, ?_, by rw [List.count_append, List.count_cons, n46 d1 h1, n46 d2 h2]; simp, fun c hc => ?_⟩
    · unfold sgB
      rw [List.foldl_append, List.foldl_cons, sg_digits d2 _ h2, dgv_app]
      have := sg_digits d1 [] h1
      rw [show sgStep (d1.foldl sgStep []) 46 = d1.foldl sgStep [] from rfl, this]
      simp [dv]
    · unfold rdB
      rw [List.foldl_append, List.foldl_cons, if_pos (by rw [q1]; rfl)]
      have e : ((rdStep (d1.foldl rdStep rd0) 46).nd : Int) - (rdStep (d1.foldl rdStep rd0) 46).dp = 0 := by
        show (((d1.foldl rdStep rd0).nd : Int)) - ((d1.foldl rdStep rd0).nd : Int) = 0
        omega
      omega
    · unfold rdB
      rw [List.foldl_append, List.foldl_cons, q3]
      show ((d1.foldl rdStep rd0).dig || _) = _
      rw [r3]
      cases d1 <;> simp [rd0]
    · rcases List.mem_append.1 hc with hc | hc
      · exact .inl (h1 c hc)
      · rcases List.mem_cons.1 hc with rfl | hc
        · exact .inr rfl
        · exact .inl (h2 c hc)
/-- One number told twice, as a fraction. -/
theorem eqv_frac {m m' : Nat} {e e' : Int} (h : Eqv m e m' e') : tenV m e * tenD e' = tenV m' e' * tenD e := by
  have h1 := h (e.toNat + (-e').toNat) (e'.toNat + (-e).toNat) (by omega)
  unfold tenV tenD
  rw [Nat.pow_add, Nat.pow_add] at h1
  generalize 2 ^ 1074 = z
  generalize 10 ^ e.toNat = A at *
  generalize 10 ^ (-e').toNat = B at *
  generalize 10 ^ e'.toNat = C at *
  generalize 10 ^ (-e).toNat = E at *
  calc m * A * z * B = m * (A * B) * z := by grind
    _ = m' * (C * E) * z := by rw [h1]
    _ = m' * C * z * E := by grind
/-- The digits behind the 19th change the number by less than one of the 19th. -/
theorem cut_lo {t : List Nat} (h : ∀ c ∈ t, c < 10) : dv (t.take 19) * 10 ^ (t.length - 19) ≤ dv t ∧ dv t < (dv (t.take 19) + 1) * 10 ^ (t.length - 19) := by
  have e : dv t = dv (t.take 19) * 10 ^ (t.length - 19) + dv (t.drop 19) := by
    conv => lhs; rw [← List.take_append_drop 19 t]
    rw [dv_app, List.length_drop]
  have h2 := dv_lt (t.drop 19) fun c hc => h c (List.mem_of_mem_drop hc)
  rw [List.length_drop] at h2
  rw [Nat.succ_mul]
  omega
theorem ten_up_le {d v k : Nat} (p : Int) (h : d * 10 ^ k ≤ v) : tenV d p * tenD (p - k) ≤ tenV v (p - k) * tenD p := by
  have e := eqv_frac (Eqv.up d (p - k) k)
  rw [show p - (k : Int) + (k : Int) = p by omega] at e
  have h2 : tenV (d * 10 ^ k) (p - k) ≤ tenV v (p - k) := by
    unfold tenV
    exact Nat.mul_le_mul_right _ (Nat.mul_le_mul_right _ h)
  have := Nat.mul_le_mul_right (tenD p) h2
  rw [e] at this
  exact this
theorem ten_le_up {d v k : Nat} (p : Int) (h : v ≤ d * 10 ^ k) : tenV v (p - k) * tenD p ≤ tenV d p * tenD (p - k) := by
  have e := eqv_frac (Eqv.up d (p - k) k)
  rw [show p - (k : Int) + (k : Int) = p by omega] at e
  have h2 : tenV v (p - k) ≤ tenV (d * 10 ^ k) (p - k) := by
    unfold tenV
    exact Nat.mul_le_mul_right _ (Nat.mul_le_mul_right _ h)
  have := Nat.mul_le_mul_right (tenD p) h2
  rw [e] at this
  exact this
theorem big309 {z : Nat} (hz : z = 309) : mgn 9218868437227405312 ≤ 10 ^ z * big 1074 := by subst hz; decide +kernel
/-- Beyond 10^309 all is infinite. -/
theorem far_inf {d : Nat} {p : Int} {sg : Nat} (hd0 : 10 ^ 18 ≤ d) (hd : d < 18446744073709551616) (h1 : 291 ≤ p) (h2 : p ≤ 310) (hsg : sg = 0 ∨ sg = 9223372036854775808) : pfN d p sg = sg + 9218868437227405312 := by
  obtain ⟨r, hr, h⟩ := pf_near (show 0 < d by omega) hd (show -345 ≤ p by omega) h2
  obtain ⟨y, hy⟩ : ∃ y, y = 291 := ⟨_, rfl⟩
  have hi : NearM (tenV d p) (tenD p) 9218868437227405312 := by
    apply nearM_infD (tenD_pos _)
    have e : tenD p = 1 := by unfold tenD; rw [show (-p).toNat = 0 by omega, Nat.pow_zero]
    rw [e, Nat.mul_one, tenV_big _ _ 1074 rfl]
    refine Nat.le_trans (big309 (z := 18 + y) (by omega)) (Nat.mul_le_mul_right _ ?_)
    have h3 : 10 ^ (18 + y) ≤ 10 ^ 18 * 10 ^ p.toNat := by
      rw [Nat.pow_add]
      exact Nat.mul_le_mul_left _ (ten_le (by omega))
    exact Nat.le_trans h3 (Nat.mul_le_mul_right _ hd0)
  rw [(h sg hsg).1, hr.uniq hi (tenD_pos _) (tenD_pos _) rfl]
end Go.Proofs.YtfalbdlfopfgcaaGreatDoor

namespace Go.Proofs.YtfalbdlfopfgcaaGreatDoor

/-- What a prefix stands for. -/
def pfxK (c : Nat) : Option Int := if c = 102 then some (-15) else if c = 112 then some (-12) else if c = 110 then some (-9) else if c = 117 then some (-6) else if c = 109 then some (-3) else if c = 107 then some 3 else if c = 77 then some 6 else if c = 71 then some 9 else if c = 84 then some 12 else none
/-- The state behind a byte, as step tells it; can it stand there? -/
def stepV (st n c : Nat) : Nat :=
  if st = 0 ∨ st = 1 then (if digB c = true then 2 else if c = 46 then 3 else if c = 45 ∧ st = 0 then 1 else 0)
  else if st = 3 then 5
  else if st = 6 ∨ st = 7 then (if st = 6 ∧ (c = 45 ∨ c = 43) then 7 else 8)
  else if st = 8 then (if digB c = true ∧ n = 3 then 9 else if digB c = true then 8 else 10)
  else if st = 9 then 10
  else if st = 10 then 0
  else if digB c = true ∧ st = 2 then 2 else if digB c = true then 5 else if c = 46 ∧ st = 2 then 4 else if c = 101 ∨ c = 69 then 6 else 10
def stepB (st c : Nat) : Bool :=
  if st = 0 ∨ st = 1 then (digB c || (decide (c = 46) || decide (c = 45 ∧ st = 0)))
  else if st = 3 then digB c
  else if st = 6 ∨ st = 7 then (decide (st = 6 ∧ (c = 45 ∨ c = 43)) || digB c)
  else if st = 8 then (digB c || (pfxK c).isSome)
  else if st = 9 then (pfxK c).isSome
  else if st = 10 then false
  else (digB c || (decide (c = 46 ∧ st = 2) || (decide (c = 101 ∨ c = 69) || (pfxK c).isSome)))
structure ExS where
  st : Nat
  n : Nat
  dg : Nat
  pl : Nat
  ex : Nat
  neg : Bool
  nx : Bool
  pre : Int
def exS0 : ExS := ⟨0, 0, 0, 0, 0, false, false, 0⟩
def exNext (S : ExS) (c v : Nat) : ExS :=
  if v = 1 then { S with neg := true, st := v }
  else if v = 2 ∨ v = 5 then (if digB c = true then { S with dg := S.dg * 10 + (c - 48), pl := S.pl + (if v = 5 then 1 else 0), st := v } else { S with st := v })
  else if v = 7 then { S with nx := decide (c = 45), st := v }
  else if v = 8 ∨ v = 9 then { S with ex := 10 * S.ex + (c - 48), n := S.n + 1, st := v }
  else if v = 10 then { S with pre := (pfxK c).getD 0, st := v }
  else { S with st := v }
def exRun : ExS → Nat → List Nat → Nat ⊕ ExS
  | S, _, [] => .inr S
  | S, i, c :: l => if stepB S.st c = true then exRun (exNext S c (stepV S.st S.n c)) (i + 1) l else .inl i
theorem exRun_app : ∀ (a b : List Nat) (S : ExS) (i : Nat), exRun S i (a ++ b) = match exRun S i a with | .inl j => .inl j | .inr S' => exRun S' (i + a.length) b := by
  intro a
  induction a with
  | nil => intro b S i; simp [exRun]
  | cons c a ih =>
    intro b S i
    simp only [List.cons_append, exRun, List.length_cons]
    split
    · rw [ih, show i + 1 + a.length = i + (a.length + 1) by omega]
    · rfl
theorem exRun_one {S : ExS} {i c : Nat} (l : List Nat) (h : stepB S.st c = true) : exRun S i (c :: l) = exRun (exNext S c (stepV S.st S.n c)) (i + 1) l := by
  simp only [exRun]
  rw [if_pos h]
theorem exRun_bad {S : ExS} {i c : Nat} (l : List Nat) (h : stepB S.st c = false) : exRun S i (c :: l) = .inl i := by
  simp only [exRun]
  rw [if_neg (by rw [h]; decide)]
theorem dgv_cons (c : Nat) (ds : List Nat) : dgv (c :: ds) = (c - 48) * 10 ^ ds.length + dgv ds := by
  unfold dgv
  simp only [List.map_cons, dv, List.length_map]
/-- Digits ahead of the point. -/
theorem run_d1 : ∀ (ds : List Nat) (S : ExS) (i : Nat), (∀ c ∈ ds, digB c = true) → S.st = 0 ∨ S.st = 1 ∨ S.st = 2 → exRun S i ds = .inr { S with dg := S.dg * 10 ^ ds.length + dgv ds, st := if ds = [] then S.st else 2 } := by
  intro ds
  induction ds with
  | nil => intro S i _ _; simp [exRun, dgv, dv]
  | cons c ds ih =>
    intro S i hc hst
    have h0 := hc c List.mem_cons_self
    have hb : stepB S.st c = true := by
      unfold stepB
      rcases hst with h | h | h <;> rw [h] <;> simp [h0]
    have hv : stepV S.st S.n c = 2 := by
      unfold stepV
      rcases hst with h | h | h <;> rw [h] <;> simp [h0]
    rw [exRun_one _ hb, hv, ih _ _ (fun x hx => hc x (List.mem_cons_of_mem _ hx))]
    · unfold exNext
      simp only [h0, if_true, List.length_cons, dgv_cons, Nat.pow_succ]
      simp
      generalize S.dg = x
      generalize 10 ^ ds.length = y
      generalize c - 48 = z
      grind
    · right; right
      unfold exNext
      simp [h0]
/-- Digits behind the point. -/
theorem run_d2 : ∀ (ds : List Nat) (S : ExS) (i : Nat), (∀ c ∈ ds, digB c = true) → S.st = 3 ∨ S.st = 4 ∨ S.st = 5 → exRun S i ds = .inr { S with dg := S.dg * 10 ^ ds.length + dgv ds, pl := S.pl + ds.length, st := if ds = [] then S.st else 5 } := by
  intro ds
  induction ds with
  | nil => intro S i _ _; simp [exRun, dgv, dv]
  | cons c ds ih =>
    intro S i hc hst
    have h0 := hc c List.mem_cons_self
    have hb : stepB S.st c = true := by
      unfold stepB
      rcases hst with h | h | h <;> rw [h] <;> simp [h0]
    have hv : stepV S.st S.n c = 5 := by
      unfold stepV
      rcases hst with h | h | h <;> rw [h] <;> simp [h0]
    rw [exRun_one _ hb, hv, ih _ _ (fun x hx => hc x (List.mem_cons_of_mem _ hx))]
    · unfold exNext
      simp only [h0, if_true, List.length_cons, dgv_cons, Nat.pow_succ]
      simp
      generalize S.dg = x
      generalize 10 ^ ds.length = y
      generalize c - 48 = z
      grind
    · right; right
      unfold exNext
      simp [h0]
/-- Digits of an exponent: at most four. -/
theorem run_ex : ∀ (ds : List Nat) (S : ExS) (i : Nat), (∀ c ∈ ds, digB c = true) → ds ≠ [] → (S.st = 6 ∨ S.st = 7) ∧ S.n = 0 ∨ S.st = 8 ∧ 1 ≤ S.n → S.n + ds.length ≤ 4 → exRun S i ds = .inr { S with ex := S.ex * 10 ^ ds.length + dgv ds, n := S.n + ds.length, st := if S.n + ds.length = 4 then 9 else 8 } := by
  intro ds
  induction ds with
  | nil => intro S i _ h; exact absurd rfl h
  | cons c ds ih =>
    intro S i hc _ hst hlen
    have h0 := hc c List.mem_cons_self
    rw [List.length_cons] at hlen
    have hb : stepB S.st c = true := by
      unfold stepB
      rcases hst with ⟨h | h, -⟩ | ⟨h, -⟩ <;> rw [h] <;> simp [h0]
    have hv : stepV S.st S.n c = if S.n = 3 then 9 else 8 := by
      have h6 := dig_le h0
      unfold stepV
      rcases hst with ⟨h | h, hn⟩ | ⟨h, hn⟩
      · rw [h, hn]
        simp
        omega
      · rw [h, hn]
        simp
      · rw [h]
        simp [h0]
    rw [exRun_one _ hb, hv]
    have hnx : exNext S c (if S.n = 3 then 9 else 8) = { S with ex := 10 * S.ex + (c - 48), n := S.n + 1, st := if S.n = 3 then 9 else 8 } := by
      unfold exNext
      split <;> simp
    rw [hnx]
    by_cases hds : ds = []
    · subst hds
      simp only [exRun, dgv_cons, List.length_cons, List.length_nil, Nat.zero_add, Nat.pow_one, Nat.pow_zero, Nat.mul_one]
      rw [show dgv [] = 0 from rfl, Nat.add_zero, Nat.mul_comm 10]
      by_cases h3 : S.n = 3
      · rw [if_pos h3, if_pos (by omega)]; simp
      · rw [if_neg h3, if_neg (by omega)]; simp
    · have hl : 0 < ds.length := List.length_pos_iff.2 hds
      rw [ih _ _ (fun x hx => hc x (List.mem_cons_of_mem _ hx)) hds (.inr ⟨by simp only; rw [if_neg (by omega)], by simp only; omega⟩) (by simp only; omega)]
      simp only [List.length_cons, dgv_cons, Nat.pow_succ]
      have e1 : (10 * S.ex + (c - 48)) * 10 ^ ds.length + dgv ds = S.ex * (10 ^ ds.length * 10) + ((c - 48) * 10 ^ ds.length + dgv ds) := by
        generalize S.ex = x
        generalize 10 ^ ds.length = y
        generalize c - 48 = z
        grind
      rw [e1, show S.n + 1 + ds.length = S.n + (ds.length + 1) by omega]
end Go.Proofs.YtfalbdlfopfgcaaGreatDoor
