/- The table of the shifts to the left: how many digits a shift by k adds. No program; no condition. Decimal numbers, plainly: m * 10^e; one number told twice; its rounding to a whole number. No program; no condition. The slow decimal's shifts, trimming and rounding, plainly. No program; no condition. -/
import Derived.Test.YtfalbdlfopfgcaaGreatDoorFlM
import Derived.Test.YtfalbdlfopfgcaaGreatDoorPaM
import Derived.Test.YtfalbdlfopfgcaaGreatDoorUsLM
namespace Go.Proofs.YtfalbdlfopfgcaaGreatDoor

def chD (k : Nat) : Nat := ((Go.Pinned.cheatRows.getD k (0, [])).1 : Int).toNat
def chU (k : Nat) : List Nat := (Go.Pinned.cheatRows.getD k (0, [])).2.map fun c => c.toNat - 48
theorem ch_rows : ∀ k : Fin 61, k.val = 0 ∨ (1 ≤ chD k.val ∧ 2 ^ k.val ≤ 10 ^ chD k.val ∧ 10 ^ (chD k.val - 1) ≤ 2 ^ k.val ∧ dv (chU k.val) * 2 ^ k.val = 10 ^ (chD k.val - 1) * 10 ^ (chU k.val).length) := by decide +kernel
theorem dgs_eq {n j : Nat} (h1 : n < 10 ^ j) (h2 : j = 0 ∨ 10 ^ (j - 1) ≤ n) : (dgs n).length = j := by
  apply Nat.le_antisymm ((dgs_len j n).2 h1)
  apply Nat.le_of_not_lt
  intro h
  rcases h2 with h2 | h2
  · omega
  · have := (dgs_len (j - 1) n).1 (by omega)
    omega
/-- How many digits a shift by k adds: the table's count, less one where the digits stand before the table's. -/
theorem ls_new {k : Nat} (hk0 : k ≠ 0) (hk : k < 61) (t : List Nat) (ht : ∀ c ∈ t, c < 10) (h1 : 10 ^ (t.length - 1) ≤ dv t) (hl : t ≠ []) :
    (dgs (lsOut k t).2).length = if dv t * 10 ^ (chU k).length < dv (chU k) * 10 ^ t.length then chD k - 1 else chD k := by
  obtain ⟨c1, c2, c3, c4⟩ := (ch_rows ⟨k, hk⟩).resolve_left hk0
  simp only at c1 c2 c3 c4
  have hL : 0 < t.length := List.length_pos_iff.2 hl
  have hN := dv_lt t ht
  have hpL : 0 < 10 ^ t.length := Nat.pow_pos (by omega)
  have hpU : 0 < 10 ^ (chU k).length := Nat.pow_pos (by omega)
  have hg := Nat.two_pow_pos k
  rw [ls_carry]
  have e1 : dv (chU k) * 10 ^ t.length * 2 ^ k = 10 ^ (chD k - 1) * 10 ^ t.length * 10 ^ (chU k).length := by
    rw [Nat.mul_right_comm, c4, Nat.mul_right_comm]
  have e2 : dv t * 10 ^ (chU k).length * 2 ^ k = dv t * 2 ^ k * 10 ^ (chU k).length := Nat.mul_right_comm _ _ _
  split
  · rename_i hlt
    have a1 := Nat.mul_lt_mul_of_pos_right hlt hg
    rw [e1, e2] at a1
    have a2 := Nat.lt_of_mul_lt_mul_right a1
    apply dgs_eq
    · exact Nat.div_lt_of_lt_mul (by rw [Nat.mul_comm (10 ^ t.length)]; exact a2)
    · by_cases hd : chD k - 1 = 0
      · exact .inl hd
      · right
        rw [Nat.le_div_iff_mul_le hpL]
        have a3 := Nat.mul_le_mul h1 c3
        refine Nat.le_trans (Nat.le_of_eq ?_) a3
        rw [← Nat.pow_add, ← Nat.pow_add]
        congr 1
        omega
  · rename_i hlt
    have a1 := Nat.mul_le_mul_right (2 ^ k) (Nat.le_of_not_lt hlt)
    rw [e1, e2] at a1
    have a2 := Nat.le_of_mul_le_mul_right a1 hpU
    apply dgs_eq
    · apply Nat.div_lt_of_lt_mul
      exact Nat.mul_lt_mul_of_lt_of_le hN c2 (Nat.pow_pos (by omega))
    · right
      rw [Nat.le_div_iff_mul_le hpL]
      exact a2
/-- prefixIsLessThan, plainly. -/
def pless : List Nat → List Nat → Bool
  | _, [] => false
  | [], _ :: _ => true
  | b :: bs, s :: ss => if b = s then pless bs ss else decide (b < s)
theorem dv_pos : ∀ s : List Nat, s ≠ [] → s.getLast? ≠ some 0 → 0 < dv s := by
  intro s
  induction s with
  | nil => intro h; exact absurd rfl h
  | cons c t ih =>
    intro _ h
    simp only [dv]
    cases t with
    | nil =>
      have hc : c ≠ 0 := fun h0 => h (by rw [h0]; rfl)
      simp only [List.length_nil, Nat.pow_zero, dv]
      omega
    | cons x y =>
      have := ih (by simp) (by rw [List.getLast?_cons_cons] at h; exact h)
      omega
theorem top_lt {b s x y B S : Nat} (hx : x < B) (hbs : b < s) (hB : 0 < S) : (b * B + x) * (S * 10) < (s * S + y) * (B * 10) := by
  have h1 : (b * B + x) * (S * 10) < ((b + 1) * B) * (S * 10) := Nat.mul_lt_mul_of_pos_right (by rw [Nat.succ_mul]; omega) (by omega)
  have h2 : ((b + 1) * B) * (S * 10) ≤ (s * B) * (S * 10) := Nat.mul_le_mul_right _ (Nat.mul_le_mul_right _ hbs)
  have h3 : (s * B) * (S * 10) = s * S * (B * 10) := by grind
  have h4 : s * S * (B * 10) ≤ (s * S + y) * (B * 10) := Nat.mul_le_mul_right _ (by omega)
  omega
theorem pless_law : ∀ s b : List Nat, (∀ c ∈ s, c < 10) → (∀ c ∈ b, c < 10) → s.getLast? ≠ some 0 → (pless b s = true ↔ dv b * 10 ^ s.length < dv s * 10 ^ b.length) := by
  intro s
  induction s with
  | nil =>
    intro b _ _ _
    have e : pless b [] = false := by cases b <;> rfl
    rw [e]
    simp [dv]
  | cons c t ih =>
    intro b hs hb hl
    cases b with
    | nil =>
      have := dv_pos (c :: t) (by simp) hl
      simp only [pless, dv, Nat.zero_mul, List.length_nil, Nat.pow_zero, Nat.mul_one] at this ⊢
      exact ⟨fun _ => this, fun _ => trivial⟩
    | cons x u =>
      have h1 := dv_lt u fun y hy => hb y (List.mem_cons_of_mem _ hy)
      have h2 := dv_lt t fun y hy => hs y (List.mem_cons_of_mem _ hy)
      have p1 : 0 < 10 ^ u.length := Nat.pow_pos (by omega)
      have p2 : 0 < 10 ^ t.length := Nat.pow_pos (by omega)
      have hl2 : t.getLast? ≠ some 0 := by
        cases t with
        | nil => simp
        | cons y z => rw [List.getLast?_cons_cons] at hl; exact hl
      have h3 := ih u (fun y hy => hs y (List.mem_cons_of_mem _ hy)) (fun y hy => hb y (List.mem_cons_of_mem _ hy)) hl2
      simp only [pless, dv, List.length_cons, Nat.pow_succ]
      generalize dv u = du at *
      generalize dv t = dt at *
      generalize 10 ^ u.length = U at *
      generalize 10 ^ t.length = T at *
      by_cases hxc : x = c
      · subst hxc
        rw [if_pos rfl, h3]
        have e1 : (x * U + du) * (T * 10) = x * U * T * 10 + du * T * 10 := by grind
        have e2 : (x * T + dt) * (U * 10) = x * U * T * 10 + dt * U * 10 := by grind
        rw [e1, e2]
        omega
      · rw [if_neg hxc, decide_eq_true_iff]
        rcases Nat.lt_or_gt_of_ne hxc with h | h
        · exact ⟨fun _ => top_lt h1 h p2, fun _ => h⟩
        · have := top_lt (y := du) h2 h p1
          exact ⟨fun h' => by omega, fun h' => by omega⟩
theorem chU_ok : ∀ k : Fin 61, (∀ c ∈ chU k.val, c < 10) ∧ (chU k.val).getLast? ≠ some 0 := by decide +kernel
/-- trim, plainly: the first m digits, where the others are noughts. -/
theorem trim_dv (t : List Nat) (m : Nat) (h : ∀ c ∈ t.drop m, c = 0) : dv t = dv (t.take m) * 10 ^ (t.length - m) := by
  have e : t = t.take m ++ List.replicate (t.length - m) 0 := by
    have h2 : t.drop m = List.replicate (t.length - m) 0 := by
      rw [List.eq_replicate_iff]
      exact ⟨by rw [List.length_drop], h⟩
    rw [← h2, List.take_append_drop]
  calc dv t = dv (t.take m ++ List.replicate (t.length - m) 0) := congrArg dv e
    _ = dv (t.take m) * 10 ^ (t.length - m) := dv_zeros _ _
end Go.Proofs.YtfalbdlfopfgcaaGreatDoor

namespace Go.Proofs.YtfalbdlfopfgcaaGreatDoor

/-- m * 10^e is m' * 10^e'. -/
def Eqv (m : Nat) (e : Int) (m' : Nat) (e' : Int) : Prop := ∀ a b : Nat, (a : Int) + e' = e + b → m * 10 ^ a = m' * 10 ^ b
theorem pw10 (k : Nat) : 0 < 10 ^ k := Nat.pow_pos (by decide)
theorem Eqv.of {m m' : Nat} {e e' : Int} (a b : Nat) (h : m * 10 ^ a = m' * 10 ^ b) (hab : (a : Int) + e' = e + b) : Eqv m e m' e' := by
  intro a' b' h'
  have e1 : a' + b = a + b' := by omega
  apply Nat.eq_of_mul_eq_mul_right (pw10 b)
  rw [Nat.mul_assoc, ← Nat.pow_add, e1, Nat.pow_add, ← Nat.mul_assoc, h, Nat.mul_right_comm]
theorem Eqv.refl (m : Nat) (e : Int) : Eqv m e m e := Eqv.of 0 0 rfl (by omega)
theorem Eqv.symm {m m' : Nat} {e e' : Int} (h : Eqv m e m' e') : Eqv m' e' m e := fun a b hab => (h b a (by omega)).symm
theorem Eqv.trans {m m' m'' : Nat} {e e' e'' : Int} (h : Eqv m e m' e') (h2 : Eqv m' e' m'' e'') : Eqv m e m'' e'' := by
  obtain ⟨a, b, d, h1, h3⟩ : ∃ a b d : Nat, (a : Int) + e' = e + b ∧ (b : Int) + e'' = e' + d :=
    ⟨(e + e.natAbs + e'.natAbs + e''.natAbs).toNat, (e' + e.natAbs + e'.natAbs + e''.natAbs).toNat, (e'' + e.natAbs + e'.natAbs + e''.natAbs).toNat, by omega, by omega⟩
  exact Eqv.of a d ((h a b h1).trans (h2 b d h3)) (by omega)
theorem Eqv.mul {m m' : Nat} {e e' : Int} (h : Eqv m e m' e') (c : Nat) : Eqv (m * c) e (m' * c) e' := fun a b hab => by
  rw [Nat.mul_right_comm, h a b hab, Nat.mul_right_comm]
theorem Eqv.up (m : Nat) (e : Int) (k : Nat) : Eqv (m * 10 ^ k) e m (e + k) := Eqv.of 0 k (by simp) (by omega)
/-- What is told of the one number's size is told of the other's. -/
theorem Eqv.lt {m m' g h x y p q : Nat} {e e' : Int} (H : Eqv m e m' e') (hx : g * 10 ^ x ≤ m) (hy : m' < h * 10 ^ y) (hpq : (p : Int) + (y + e') = x + e + q) : g * 10 ^ p < h * 10 ^ q := by
  obtain ⟨a, b, hab⟩ : ∃ a b : Nat, (a : Int) + e' = e + b := ⟨(e + e.natAbs + e'.natAbs).toNat, (e' + e.natAbs + e'.natAbs).toNat, by omega⟩
  have h1 := H a b hab
  have h2 : g * 10 ^ (x + a) < h * 10 ^ (y + b) := by
    rw [Nat.pow_add, Nat.pow_add, ← Nat.mul_assoc, ← Nat.mul_assoc]
    calc g * 10 ^ x * 10 ^ a ≤ m * 10 ^ a := Nat.mul_le_mul_right _ hx
      _ = m' * 10 ^ b := h1
      _ < h * 10 ^ y * 10 ^ b := Nat.mul_lt_mul_of_pos_right hy (pw10 b)
  have e1 : x + a + q = p + (y + b) := by omega
  apply Nat.lt_of_mul_lt_mul_right (a := 10 ^ (y + b))
  calc g * 10 ^ p * 10 ^ (y + b) = g * 10 ^ (x + a) * 10 ^ q := by rw [Nat.mul_assoc, Nat.mul_assoc, ← Nat.pow_add, ← Nat.pow_add, e1]
    _ < h * 10 ^ (y + b) * 10 ^ q := Nat.mul_lt_mul_of_pos_right h2 (pw10 q)
    _ = h * 10 ^ q * 10 ^ (y + b) := Nat.mul_right_comm _ _ _
/-- Digits that stand as a number does: some, no nought ahead, at most 800. -/
structure Nrm (t : List Nat) : Prop where
  ne : t ≠ []
  lt : ∀ c ∈ t, c < 10
  hd : t.head? ≠ some 0
  len : t.length ≤ 800
theorem Nrm.lo {t : List Nat} (h : Nrm t) : 10 ^ (t.length - 1) ≤ dv t := by
  obtain ⟨h1, h2, h3, -⟩ := h
  cases t with
  | nil => exact absurd rfl h1
  | cons c t =>
    have hc : c ≠ 0 := fun e => h3 (by rw [e]; rfl)
    simp only [List.length_cons, Nat.add_sub_cancel, dv]
    have := Nat.mul_le_mul_right (10 ^ t.length) (show 1 ≤ c by omega)
    omega
theorem Nrm.hi {t : List Nat} (h : Nrm t) : dv t < 10 ^ t.length := dv_lt t h.lt
theorem Nrm.pos {t : List Nat} (h : Nrm t) : 0 < t.length := List.length_pos_iff.2 h.ne
/-- A first number of digits, the others noughts. -/
theorem nrm_take {t : List Nat} (h : Nrm t) (m : Nat) (hm : 0 < m) : Nrm (t.take m) := by
  refine ⟨fun e => ?_, fun c hc => h.lt c (List.mem_of_mem_take hc), ?_, by rw [List.length_take]; have := h.len; omega⟩
  · have := congrArg List.length e
    have h2 := h.pos
    rw [List.length_take, List.length_nil] at this
    omega
  · obtain ⟨m', rfl⟩ : ∃ m', m = m' + 1 := ⟨m - 1, by omega⟩
    cases t with
    | nil => exact absurd rfl h.ne
    | cons c t => exact h.hd
/-- A power of two below a power of ten. -/
theorem two_ten {s D : Nat} (h : 2 ^ s < 10 ^ D) (hD : D ≤ 310) : s ≤ D + 719 := by
  have h1 : 2 ^ (s + 3 * (310 - D)) < 2 ^ 1030 := by
    calc 2 ^ (s + 3 * (310 - D)) = 2 ^ s * 8 ^ (310 - D) := by rw [Nat.pow_add, Nat.pow_mul]
      _ ≤ 2 ^ s * 10 ^ (310 - D) := Nat.mul_le_mul_left _ (Nat.pow_le_pow_left (by decide) _)
      _ < 10 ^ D * 10 ^ (310 - D) := Nat.mul_lt_mul_of_pos_right h (pw10 _)
      _ = 10 ^ 310 := by rw [← Nat.pow_add]; congr 1; omega
      _ < 2 ^ 1030 := by decide +kernel
  have := (Nat.pow_lt_pow_iff_right (a := 2) (by decide)).1 h1
  omega
/-- Rounded to the nearest whole number, to the even one in the middle. -/
def rnd (A B : Nat) : Nat := A / B + (if B < 2 * (A % B) ∨ (2 * (A % B) = B ∧ A / B % 2 = 1) then 1 else 0)
theorem rnd_mul {A B g : Nat} (hg : 0 < g) : rnd (A * g) (B * g) = rnd A B := by
  have c1 : B * g < 2 * (A % B * g) ↔ B < 2 * (A % B) := by
    rw [← Nat.mul_assoc]
    exact Nat.mul_lt_mul_right hg
  have c2 : 2 * (A % B * g) = B * g ↔ 2 * (A % B) = B := by
    rw [← Nat.mul_assoc]
    exact ⟨fun h => Nat.eq_of_mul_eq_mul_right hg h, fun h => by rw [h]⟩
  unfold rnd
  rw [Nat.mul_div_mul_right _ _ hg, Nat.mul_mod_mul_right]
  simp only [c1, c2]
theorem rnd_eq {A B C D : Nat} (hB : 0 < B) (hD : 0 < D) (h : A * D = C * B) : rnd A B = rnd C D := by
  rw [← rnd_mul hD, h, Nat.mul_comm B D, rnd_mul hB]
theorem rnd_lt {A B m : Nat} (h : A < m * B) : rnd A B ≤ m ∧ A / B < m := by
  have h1 : A / B < m := Nat.div_lt_of_lt_mul (by rw [Nat.mul_comm]; exact h)
  refine ⟨?_, h1⟩
  unfold rnd
  split <;> omega
end Go.Proofs.YtfalbdlfopfgcaaGreatDoor

namespace Go.Proofs.YtfalbdlfopfgcaaGreatDoor

/-- Trimmed: the noughts at the end are gone. -/
def Trm (l t : List Nat) : Prop := ∃ m, m ≤ l.length ∧ t = l.take m ∧ (∀ c ∈ l.drop m, c = 0) ∧ t.getLast? ≠ some 0
theorem Trm.nrm {l t : List Nat} (h : Trm l t) (hl : Nrm l) : Nrm t := by
  obtain ⟨m, h1, rfl, h3, -⟩ := h
  apply nrm_take hl
  apply Nat.pos_of_ne_zero
  rintro rfl
  obtain ⟨h4, -, h5, -⟩ := hl
  cases l with
  | nil => exact h4 rfl
  | cons c l => exact h5 (by rw [h3 c (by simp)]; rfl)
theorem Trm.eqv {l t : List Nat} (h : Trm l t) (dp : Int) : Eqv (dv l) (dp - l.length) (dv t) (dp - t.length) := by
  obtain ⟨m, h1, rfl, h3, -⟩ := h
  rw [trim_dv l m h3, List.length_take, Nat.min_eq_left h1]
  have := Eqv.up (dv (l.take m)) (dp - l.length) (l.length - m)
  rwa [show dp - (l.length : Int) + ((l.length - m : Nat) : Int) = dp - (m : Int) by omega] at this
theorem Trm.len {l t : List Nat} (h : Trm l t) : t.length ≤ l.length := by
  obtain ⟨m, h1, rfl, -⟩ := h
  rw [List.length_take]
  omega
theorem Trm.last {l t : List Nat} (h : Trm l t) : t.getLast? ≠ some 0 := by
  obtain ⟨m, -, -, -, h⟩ := h
  exact h
theorem hd_of {l : List Nat} (h : ∀ c ∈ l, c < 10) (hl : 0 < l.length) (hv : 10 ^ (l.length - 1) ≤ dv l) : l.head? ≠ some 0 := by
  cases l with
  | nil => simp
  | cons c t =>
    intro he
    have hc : c = 0 := by simpa using he
    subst hc
    have h2 := dv_lt t fun x hx => h x (List.mem_cons_of_mem _ hx)
    simp only [dv, List.length_cons, Nat.add_sub_cancel, Nat.zero_mul, Nat.zero_add] at hv
    omega
/-- The shift to the right, as the walk does it: n0 is what was picked up, out of z noughts more. -/
theorem rs_all {k n0 z r0 j : Nat} {t rest : List Nat} (hc : ∀ c ∈ rest, c < 10) (hz : n0 * 10 ^ rest.length + dv rest = dv t * 10 ^ z) (hr : r0 + rest.length = t.length + z)
    (h1 : 2 ^ k ≤ n0) (h2 : n0 < 10 * 2 ^ k) (h3 : (rsOut k n0 (rest ++ List.replicate j 0)).2 = 0) (hl : rest.length + j ≤ 800) (dp : Int) :
    Nrm (rsOut k n0 (rest ++ List.replicate j 0)).1 ∧ Eqv (dv t) (dp - t.length) (dv (rsOut k n0 (rest ++ List.replicate j 0)).1 * 2 ^ k) (dp - r0 + 1 - (rsOut k n0 (rest ++ List.replicate j 0)).1.length) := by
  have hlen : (rsOut k n0 (rest ++ List.replicate j 0)).1.length = rest.length + j := by rw [rs_len, List.length_append, List.length_replicate]
  have hlaw := rs_law k (rest ++ List.replicate j 0) n0
  have hd := (rs_dig k (rest ++ List.replicate j 0) n0 h2 (fun c hc' => by
    rcases List.mem_append.1 hc' with h | h
    · exact hc c h
    · rw [List.eq_of_mem_replicate h]; decide)).1
  rw [h3, Nat.add_zero, dv_zeros, List.length_append, List.length_replicate, Nat.pow_add, ← Nat.mul_assoc, ← Nat.add_mul, hz] at hlaw
  have hpos : 0 < rest.length + j := by
    apply Nat.pos_of_ne_zero
    intro h0
    have e : rest ++ List.replicate j 0 = [] := by
      apply List.eq_nil_of_length_eq_zero
      rw [List.length_append, List.length_replicate, h0]
    rw [e] at h3
    have : n0 = 0 := h3
    have := Nat.two_pow_pos k
    omega
  constructor
  · refine ⟨fun e => ?_, hd, ?_, by omega⟩
    · rw [e] at hlen
      simp at hlen
      omega
    · have hne : rest ++ List.replicate j 0 ≠ [] := fun e => by
        have := congrArg List.length e
        rw [List.length_append, List.length_replicate, List.length_nil] at this
        omega
      revert hne
      generalize rest ++ List.replicate j 0 = T
      intro hne
      cases T with
      | nil => exact absurd rfl hne
      | cons c T =>
        simp only [rsOut, List.head?_cons]
        intro e
        have e2 : n0 / 2 ^ k = 0 := Option.some.inj e
        have := (Nat.le_div_iff_mul_le (Nat.two_pow_pos k)).2 (show 1 * 2 ^ k ≤ n0 by omega)
        omega
  · refine Eqv.of (z + j) 1 ?_ ?_
    · rw [Nat.pow_add, ← Nat.mul_assoc, hlaw]
      generalize dv (rsOut k n0 (rest ++ List.replicate j 0)).1 = d
      generalize 2 ^ k = g
      rw [Nat.pow_one]
      grind
    · rw [hlen]
      push_cast
      omega
theorem rs_snoc (k : Nat) (c : Nat) : ∀ (t : List Nat) (n : Nat), rsOut k n (t ++ [c]) = ((rsOut k n t).1 ++ [(rsOut k n t).2 / 2 ^ k], (rsOut k n t).2 % 2 ^ k * 10 + c) := by
  intro t
  induction t with
  | nil => intro n; simp [rsOut]
  | cons x t ih => intro n; simp only [List.cons_append, rsOut, ih]
theorem ls_nrm {k : Nat} {t : List Nat} (h : Nrm t) (hl : (lsAll k t).length ≤ 800) : Nrm (lsAll k t) := by
  have hdv := lsAll_dv k t
  have hlt := lsAll_lt k t
  have hle : (lsAll k t).length = (dgs (lsOut k t).2).length + t.length := by unfold lsAll; rw [List.length_append, ls_len]
  have hp := h.pos
  have hg := Nat.two_pow_pos k
  refine ⟨fun e => ?_, hlt, hd_of hlt (by omega) ?_, hl⟩
  · rw [e] at hle
    simp at hle
    omega
  · rw [hdv, hle]
    by_cases h0 : (dgs (lsOut k t).2).length = 0
    · rw [h0, Nat.zero_add]
      have := h.lo
      have := Nat.mul_le_mul this hg
      omega
    · have h1 : ¬ (lsOut k t).2 < 10 ^ ((dgs (lsOut k t).2).length - 1) := fun hh => by
        have := (dgs_len ((dgs (lsOut k t).2).length - 1) _).2 hh
        omega
      rw [ls_law]
      have h2 := Nat.mul_le_mul_right (10 ^ t.length) (Nat.le_of_not_lt h1)
      rw [← Nat.pow_add, show (dgs (lsOut k t).2).length - 1 + t.length = (dgs (lsOut k t).2).length + t.length - 1 by omega] at h2
      omega
/-- How many digits a shift to the left adds, as the program tells it. -/
def lsD (k : Nat) (t : List Nat) : Nat := if pless t (chU k) = true then chD k - 1 else chD k
theorem lsD_law {k : Nat} (hk0 : k ≠ 0) (hk : k < 61) {t : List Nat} (h : Nrm t) : (dgs (lsOut k t).2).length = lsD k t := by
  rw [ls_new hk0 hk t h.lt h.lo h.ne]
  unfold lsD
  have := chU_ok ⟨k, hk⟩
  have := pless_law (chU k) t this.1 h.lt this.2
  by_cases hp : pless t (chU k) = true
  · rw [if_pos hp, if_pos (this.1 hp)]
  · rw [if_neg hp, if_neg (fun hh => hp (this.2 hh))]
theorem lsD_le (k : Nat) (t : List Nat) : lsD k t ≤ chD k := by unfold lsD; split <;> omega
theorem ls_eqv {k : Nat} (hk0 : k ≠ 0) (hk : k < 61) {t : List Nat} (h : Nrm t) (dp : Int) : Eqv (dv t * 2 ^ k) (dp - t.length) (dv (lsAll k t)) (dp + lsD k t - (lsAll k t).length) := by
  rw [lsAll_dv]
  unfold lsAll
  rw [List.length_append, ls_len, lsD_law hk0 hk h]
  rw [show dp + (lsD k t : Int) - ((lsD k t + t.length : Nat) : Int) = dp - t.length by push_cast; omega]
  exact Eqv.refl _ _
/-- Is the number cut behind p digits rounded up? -/
def rup (t : List Nat) (p : Nat) : Bool :=
  if t.length ≤ p then false else if t.getD p 0 = 5 ∧ p + 1 = t.length then decide (0 < p ∧ t.getD (p - 1) 0 % 2 = 1) else decide (5 ≤ t.getD p 0)
def rint (t : List Nat) (p : Nat) : Nat := dv (t.take p) * 10 ^ (p - t.length) + (if rup t p = true then 1 else 0)
theorem dv_odd (t : List Nat) (p : Nat) (hp : p < t.length) : dv (t.take (p + 1)) % 2 = t.getD p 0 % 2 := by
  have e : t.take (p + 1) = t.take p ++ [t.getD p 0] := by
    rw [List.take_add_one, List.getElem?_eq_getElem hp, List.getD_eq_getElem?_getD, List.getElem?_eq_getElem hp]
    rfl
  rw [e, dv_app]
  simp only [List.length_singleton, dv, List.length_nil]
  omega
theorem rint_law {t : List Nat} (h : Nrm t) (hl : t.getLast? ≠ some 0) (p : Nat) : rint t p = rnd (dv t * 10 ^ (p - t.length)) (10 ^ (t.length - p)) := by
  unfold rint rup rnd
  by_cases h1 : t.length ≤ p
  · rw [if_pos h1, List.take_of_length_le h1, show t.length - p = 0 by omega, Nat.pow_zero, Nat.div_one, Nat.mod_one]
    simp
  · rw [if_neg h1, show p - t.length = 0 by omega, Nat.pow_zero, Nat.mul_one, Nat.mul_one]
    have hp : p < t.length := by omega
    have e0 : t = t.take p ++ (t.getD p 0 :: t.drop (p + 1)) := by
      conv => lhs; rw [← List.take_append_drop p t]
      congr 1
      rw [List.drop_eq_getElem_cons hp, List.getD_eq_getElem?_getD, List.getElem?_eq_getElem hp]
      rfl
    have hu : ∀ c ∈ t.drop (p + 1), c < 10 := fun c hc => h.lt c (List.mem_of_mem_drop hc)
    have hc : t.getD p 0 < 10 := by
      rw [List.getD_eq_getElem?_getD, List.getElem?_eq_getElem hp]
      exact h.lt _ (List.getElem_mem hp)
    have e1 : dv t = dv (t.take p) * 10 ^ (t.length - p) + (t.getD p 0 * 10 ^ (t.length - p - 1) + dv (t.drop (p + 1))) := by
      conv => lhs; rw [e0]
      rw [dv_app]
      simp only [dv, List.length_cons, List.length_drop]
      rw [show t.length - (p + 1) + 1 = t.length - p by omega, show t.length - (p + 1) = t.length - p - 1 by omega]
    have hB : 10 ^ (t.length - p) = 10 * 10 ^ (t.length - p - 1) := by rw [← Nat.pow_succ']; congr 1; omega
    have hlu := dv_lt _ hu
    rw [List.length_drop, show t.length - (p + 1) = t.length - p - 1 by omega] at hlu
    have hodd : 0 < p → dv (t.take p) % 2 = t.getD (p - 1) 0 % 2 := fun h0 => by
      have := dv_odd t (p - 1) (by omega)
      rwa [show p - 1 + 1 = p by omega] at this
    have hu0 : p + 1 = t.length → dv (t.drop (p + 1)) = 0 := fun he => by
      rw [List.drop_eq_nil_of_le (by omega)]
      rfl
    have hup : p + 1 ≠ t.length → 0 < dv (t.drop (p + 1)) := fun he => by
      apply dv_pos
      · intro e
        have := congrArg List.length e
        rw [List.length_drop] at this
        simp at this
        omega
      · rw [List.getLast?_drop, if_neg (by omega)]
        exact hl
    have hev : p = 0 → dv (t.take p) = 0 := fun h0 => by rw [h0]; rfl
    have hL : p + 1 = t.length → 10 ^ (t.length - p - 1) = 1 := fun he => by rw [show t.length - p - 1 = 0 by omega]
    have hS := pw10 (t.length - p - 1)
    rw [e1, hB]
    clear e1 hB e0 hu h hl
    generalize dv (t.take p) = F at *
    generalize dv (t.drop (p + 1)) = u at *
    generalize 10 ^ (t.length - p - 1) = S at *
    generalize t.getD p 0 = c at *
    generalize t.getD (p - 1) 0 = c' at *
    have hcs : c * S + u < 10 * S := by
      have := Nat.mul_le_mul_right S (show c + 1 ≤ 10 by omega)
      rw [Nat.succ_mul] at this
      omega
    have hcs2 : ∀ j, j ≤ c → j * S ≤ c * S := fun j hj => Nat.mul_le_mul_right S hj
    have hcs3 : ∀ j, c ≤ j → c * S ≤ j * S := fun j hj => Nat.mul_le_mul_right S hj
    rw [Nat.mul_comm F, Nat.mul_add_div (by omega), Nat.mul_add_mod, Nat.div_eq_of_lt hcs, Nat.mod_eq_of_lt hcs, Nat.add_zero]
    congr 1
    by_cases hm : c = 5 ∧ p + 1 = t.length
    · rw [if_pos hm]
      have a1 := hu0 hm.2
      have a2 := hL hm.2
      obtain ⟨rfl, -⟩ := hm
      subst a1 a2
      by_cases h0 : 0 < p
      · have := hodd h0
        by_cases hc' : c' % 2 = 1
        · rw [if_pos (by simp; omega), if_pos (by omega)]
        · rw [if_neg (by simp; omega), if_neg (by omega)]
      · have := hev (by omega)
        rw [if_neg (by simp; omega), if_neg (by omega)]
    · rw [if_neg hm]
      rcases Nat.lt_trichotomy c 5 with h5 | h5 | h5
      · have := hcs3 4 (by omega)
        rw [if_neg (by simp; omega), if_neg (by omega)]
      · subst h5
        have := hup (fun he => hm ⟨rfl, he⟩)
        rw [if_pos (by simp), if_pos (by omega)]
      · have := hcs2 6 (by omega)
        rw [if_pos (by simp; omega), if_pos (by omega)]
end Go.Proofs.YtfalbdlfopfgcaaGreatDoor
