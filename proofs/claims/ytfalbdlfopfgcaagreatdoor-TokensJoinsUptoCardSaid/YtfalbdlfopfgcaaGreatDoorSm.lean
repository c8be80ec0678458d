/- internal/strconv's floatBits: what it keeps, plainly; a scope with gotos to labels further down; its tables. Conditions: at most 64 digits, the point between -330 and 309. -/
import Derived.Test.YtfalbdlfopfgcaaGreatDoorSl4M
import Derived.Test.YtfalbdlfopfgcaaGreatDoorUsLM
import Derived.WalkMore
namespace Go

/-- As Q; by a goto: on from the label. -/
def Exit.onward (P : Program) (c : Code) (Q : Exit → Act → World → Prop) : Exit → Act → World → Prop
  | .goto l, a, w => ∃ r, findLabel c l = some r ∧ r.wp P (Exit.noGoto Q) a w
  | e, a, w => Q e a w
section
variable {P : Program} {c : Code} {a : Act} {w : World} {Q : Exit → Act → World → Prop}
@[go_sem] theorem Exit.onward_normal : Exit.onward P c Q .normal a w = Q .normal a w := rfl
@[go_sem] theorem Exit.onward_exit (id : Nat) : Exit.onward P c Q (.exit id) a w = Q (.exit id) a w := rfl
@[go_sem] theorem Exit.onward_ret : Exit.onward P c Q .ret a w = Q .ret a w := rfl
@[go_sem] theorem Exit.onward_panic (ch : List PanicEntry) : Exit.onward P c Q (.panic ch) a w = Q (.panic ch) a w := rfl
theorem wp_scope_on (h : c.wp P (Exit.onward P c Q) a w) : (Code.scope c).wp P Q a w := by
  intro b k cs
  obtain ⟨e, a₁, w₁, hq, harr⟩ := h b (.inScope c :: k) cs
  cases e with
  | normal => exact ⟨.normal, a₁, w₁, hq, .head step_scope (Steps.trans harr (.one step_inScope))⟩
  | exit id => exact ⟨.exit id, a₁, w₁, hq, fun k' hk => .head step_scope (harr k' (by simp [exitTo, hk]))⟩
  | goto l =>
    obtain ⟨r, hf, hr⟩ := hq
    have hg : gotoIn l (.inScope c :: k) = some (.code r :: .inScope c :: k) := by simp [gotoIn, hf]
    obtain ⟨e₂, a₂, w₂, hq₂, harr₂⟩ := hr b (.inScope c :: k) cs
    cases e₂ with
    | normal => exact ⟨.normal, a₂, w₂, hq₂, .of_steps (.head step_scope (harr _ hg)) (Steps.trans harr₂ (.one step_inScope))⟩
    | exit id => exact ⟨.exit id, a₂, w₂, hq₂, .of_steps (.head step_scope (harr _ hg)) (fun k' hk => harr₂ k' (by simp [exitTo, hk]))⟩
    | goto l' => exact hq₂.elim
    | ret => exact ⟨_, a₂, w₂, hq₂, .of_steps (.head step_scope (harr _ hg)) harr₂⟩
    | panic ch => exact ⟨_, a₂, w₂, hq₂, .of_steps (.head step_scope (harr _ hg)) harr₂⟩
    | outgrown => exact ⟨_, a₂, w₂, hq₂, .of_steps (.head step_scope (harr _ hg)) harr₂⟩
  | ret => exact ⟨_, a₁, w₁, hq, .of_steps (.one step_scope) harr⟩
  | panic ch => exact ⟨_, a₁, w₁, hq, .of_steps (.one step_scope) harr⟩
  | outgrown => exact ⟨_, a₁, w₁, hq, .of_steps (.one step_scope) harr⟩
end
end Go
namespace Go.Proofs.YtfalbdlfopfgcaaGreatDoor
open Go.RowKit

def powT (i : Nat) : Nat := [1, 3, 6, 9, 13, 16, 19, 23, 26].getD i 0
theorem powT_ok : ∀ i : Fin 9, 1 ≤ powT i.val ∧ powT i.val ≤ 27 ∧ (i.val = 0 ∧ powT i.val = 1 ∨ 2 ^ powT i.val ≤ 10 ^ i.val) := by decide
theorem pow27 {P : Nat} (h : 9 ≤ P) : 2 ^ 27 ≤ 10 ^ P := Nat.le_trans (show 2 ^ 27 ≤ 10 ^ 9 by decide) (Nat.pow_le_pow_right (by decide) h)
/-- The tables of the slow way lie in the world, below block B. -/
structure STab (w : World) (B pb po cb co : Nat) : Prop where
  i0 : w.cell? ⟨6, 0, none⟩ = some (.int .u64 52)
  i1 : w.cell? ⟨6, 1, none⟩ = some (.int .u64 11)
  i2 : w.cell? ⟨6, 2, none⟩ = some (.int .i64 (-1023))
  p : w.cell? ⟨9, 0, none⟩ = some (.slice (some ⟨pb, po, none⟩) 9 9)
  pd : ∀ i, i < 9 → w.cell? ⟨pb, po + i, none⟩ = some (.int .i64 (powT i : Nat))
  c : CTab w cb co
  hp : pb < B
  hc : cb < B
  hB : 14 < B
theorem STab.gr {w w' : World} {B pb po cb co b : Nat} (h : STab w B pb po cb co) (hb : B ≤ b) (hg : w.grownBy w' (some b)) : STab w' B pb po cb co := by
  obtain ⟨h1, h2, h3, h4, h5, h6, h7, h8, h9⟩ := h
  exact ⟨gr_cell hg (by show (6 : Nat) ≠ b; omega) h1, gr_cell hg (by show (6 : Nat) ≠ b; omega) h2, gr_cell hg (by show (6 : Nat) ≠ b; omega) h3, gr_cell hg (by show (9 : Nat) ≠ b; omega) h4, fun i hi => gr_cell hg (by show pb ≠ b; omega) (h5 i hi), h6.gr (by omega) (by omega) hg, h7, h8, h9⟩
theorem STab.drewN {w : World} {B pb po cb co : Nat} (h : STab w B pb po cb co) (n : Nat) : STab (w.drewN n) B pb po cb co :=
  ⟨h.i0, h.i1, h.i2, h.p, h.pd, ⟨h.c.h, h.c.d, h.c.s⟩, h.hp, h.hc, h.hB⟩
theorem DcT.drewN {w : World} {b : Nat} {t : List Nat} {dp : Int} {ng : Bool} (h : DcT w b t dp ng) (n : Nat) : DcT (w.drewN n) b t dp ng := by
  obtain ⟨f, h1, h2⟩ := h
  exact ⟨f, h1.drewN n, h2⟩
/-- Ahead of the last shift: the number is told, times 2^A, by 2^J; e is its power of two. -/
structure P3 (t0 : List Nat) (dp0 : Int) (t : List Nat) (dp : Int) (A J : Nat) (e : Int) : Prop where
  n : Nrm t
  q : Eqv (dv t * 2 ^ A) (dp - t.length) (dv t0 * 2 ^ J) (dp0 - t0.length)
  up : dp ≤ 0
  dn : -1000 ≤ dp
  len : t.length ≤ 784
  ab : (A : Int) - J = e + 1
  lo : -1022 ≤ e
  hi : e ≤ 1030
  big : e = -1022 ∨ (dp = 0 ∧ 5 ≤ t.getD 0 0)
theorem P2.last {t0 t : List Nat} {dp0 dp : Int} {i j : Nat} (H : P2 t0 dp0 t dp i j) (hdp : dp = 0) (hm : 5 ≤ t.getD 0 0) (he : -1022 ≤ (i : Int) - j - 1) : P3 t0 dp0 t dp i j ((i : Int) - j - 1) :=
  ⟨H.n, H.q, H.up, by omega, by have := H.F; omega, by omega, he, by have := H.I; omega, .inr ⟨hdp, hm⟩⟩
theorem P2.low {t0 t : List Nat} {dp0 dp : Int} {i j : Nat} (H : P2 t0 dp0 t dp i j) (h0 : D0 t0 dp0) (hdp : dp = 0) (he : (i : Int) - j - 1 < -1022) : t.length ≤ 394 := by
  rcases H.G with h | h
  · omega
  · exfalso
    have h1 := H.n.pos
    have h2 := h0.n.pos
    have h5 := H.q.symm.lt (g := 2 ^ j) (h := 2 ^ i) (x := t0.length - 1) (y := t.length) (p := (dp0 - 1).toNat) (q := 0) (by rw [Nat.mul_comm]; exact Nat.mul_le_mul_right _ h0.n.lo) (by rw [Nat.mul_comm]; exact Nat.mul_lt_mul_of_pos_left H.n.hi (Nat.two_pow_pos _)) (by omega)
    rw [Nat.pow_zero, Nat.mul_one] at h5
    have h6 := Nat.mul_le_mul_left (2 ^ j) (show 1 ≤ 10 ^ (dp0 - 1).toNat from pw10 _)
    rw [Nat.mul_one] at h6
    have := (Nat.pow_lt_pow_iff_right (a := 2) (by decide)).1 (Nat.lt_of_le_of_lt h6 h5)
    omega
theorem P2.sub {t0 t t' : List Nat} {dp0 dp dp' : Int} {i j k : Nat} (H : P2 t0 dp0 t dp i j) (h0 : D0 t0 dp0) (hdp : dp = 0) (hk : (i : Int) - j - 1 + k = -1022) (hk1 : 1 ≤ k) (hn : Nrm t') (hl : t'.getLast? ≠ some 0) (he : Eqv (dv t) (dp - t.length) (dv t' * 2 ^ k) (dp' - t'.length)) : P3 t0 dp0 t' dp' (i + k) j (-1022) := by
  have h1 := H.low h0 hdp (by omega)
  have h2 := rs_dp H.n hn he
  have h3 := frac_r hn hl he
  have h4 := H.bot h0
  refine ⟨hn, ?_, by omega, by omega, by omega, by push_cast; omega, by omega, by omega, .inl rfl⟩
  have h5 := (he.mul (2 ^ i)).symm.trans H.q
  rwa [Nat.mul_assoc, ← Nat.pow_add, Nat.add_comm k] at h5
/-- What the last shift leaves: its rounding is the number in units of 2^(e - 52). -/
theorem P3.near {t0 t t' : List Nat} {dp0 dp dp' e : Int} {A J : Nat} (H : P3 t0 dp0 t dp A J e) (hn : Nrm t') (hl : t'.getLast? ≠ some 0) (he : Eqv (dv t * 2 ^ 53) (dp - t.length) (dv t') (dp' - t'.length)) :
    dp' ≤ 17 ∧ -2000 ≤ dp' ∧ rintZ t' dp' ≤ 9007199254740992 ∧ (e = -1022 ∨ 4503599627370496 ≤ rintZ t' dp') ∧ NearM (tenV (dv t0) (dp0 - t0.length)) (tenD (dp0 - t0.length)) (min ((e + 1022).toNat * 4503599627370496 + rintZ t' dp') 9218868437227405312) := by
  have h1 := H.n.pos
  have h2 := hn.pos
  have h3 := H.up
  have h4 := H.dn
  have h5 := H.lo
  have h6 := H.len
  have e53 : (2 : Nat) ^ 53 = 9007199254740992 := by decide
  have ha : dp' ≤ 17 := by
    apply Int.not_lt.1
    intro hlt
    have h7 := he.symm.lt (g := 1) (h := 2 ^ 53) (x := t'.length - 1) (y := t.length) (p := (dp' - 1 - dp).toNat) (q := 0) (lo1 hn) (by rw [Nat.mul_comm]; exact Nat.mul_lt_mul_of_pos_left H.n.hi (by decide)) (by omega)
    rw [Nat.one_mul, Nat.pow_zero, Nat.mul_one] at h7
    have h8 : 10 ^ 17 ≤ 10 ^ (dp' - 1 - dp).toNat := Nat.pow_le_pow_right (by decide) (by omega)
    have h9 : (2 : Nat) ^ 53 < 10 ^ 17 := by decide
    omega
  have hb : -2000 ≤ dp' := by
    apply Int.not_lt.1
    intro hlt
    have h7 := he.lt (g := 1) (h := 1) (x := t.length - 1) (y := t'.length) (p := (dp - 1 - dp').toNat) (q := 0) (Nat.le_trans (lo1 H.n) (Nat.le_mul_of_pos_right _ (by decide))) (hi1 hn) (by omega)
    have := pw10 (dp - 1 - dp').toNat
    omega
  have hE : Eqv (dv t' * 2 ^ A) (dp' - t'.length) (dv t0 * 2 ^ (J + 53)) (dp0 - t0.length) := by
    have h7 := (he.mul (2 ^ A)).symm.trans (show Eqv (dv t * 2 ^ 53 * 2 ^ A) (dp - t.length) (dv t0 * 2 ^ (J + 53)) (dp0 - t0.length) by
      rw [Nat.mul_right_comm, Nat.pow_add, ← Nat.mul_assoc]
      exact H.q.mul (2 ^ 53))
    exact h7
  have hab : A + 1074 = J + 53 + (e + 1022).toNat := by have := H.ab; omega
  have hlt : dv t' * 10 ^ (dp' - t'.length).toNat < 9007199254740992 * 10 ^ (t'.length - dp').toNat := by
    rw [← e53]
    refine he.symm.lt (x := 0) (y := t.length + (-dp).toNat) (by rw [Nat.pow_zero, Nat.mul_one]; exact Nat.le_refl _) ?_ (by omega)
    rw [Nat.mul_comm]
    exact Nat.mul_lt_mul_of_pos_left (Nat.lt_of_lt_of_le H.n.hi (Nat.pow_le_pow_right (by decide) (by omega))) (by decide)
  have hge : (e + 1022).toNat = 0 ∨ 4503599627370496 * 10 ^ (t'.length - dp').toNat ≤ dv t' * 10 ^ (dp' - t'.length).toNat := by
    rcases H.big with h | ⟨h, hm⟩
    · exact .inl (by omega)
    · right
      refine he.le (x := t.length) (y := 0) ?_ (by rw [Nat.pow_zero, Nat.mul_one]; exact Nat.le_refl _) (by omega)
      have := big_dbl H.n hm
      rw [e53]
      omega
  obtain ⟨r1, r2, r3⟩ := last_near hn hl hE hab hlt hge
  exact ⟨ha, hb, r1, r2.imp (fun h => by omega) id, r3⟩
theorem P3.inf {t0 t : List Nat} {dp0 dp e : Int} {A J : Nat} (H : P3 t0 dp0 t dp A J e) (he : 1024 ≤ e) : NearM (tenV (dv t0) (dp0 - t0.length)) (tenD (dp0 - t0.length)) 9218868437227405312 := by
  obtain ⟨h, hm⟩ := H.big.resolve_left (by omega)
  have h1 := H.q
  rw [h] at h1
  exact last_inf H.n hm h1 (by have := H.ab; omega)
/-- The word's bits, put together. -/
theorem fb_bits {M E : Nat} (hM : M < 9007199254740992) (hE : E ≤ 2047) :
    bits .and .u64 (M : Int) 4503599627370495 = ((M % 4503599627370496 : Nat) : Int) ∧ bits .and .i64 (E : Int) 2047 = (E : Int) ∧ bits .or .u64 ((M % 4503599627370496 : Nat) : Int) ((E * 4503599627370496 : Nat) : Int) = ((M % 4503599627370496 + E * 4503599627370496 : Nat) : Int) ∧
    bits .or .u64 ((M % 4503599627370496 + E * 4503599627370496 : Nat) : Int) 9223372036854775808 = ((9223372036854775808 + (M % 4503599627370496 + E * 4503599627370496) : Nat) : Int) := by
  have hm : M % 4503599627370496 < 4503599627370496 := Nat.mod_lt _ (by decide)
  refine ⟨?_, ?_, ?_, ?_⟩
  · have h := bits_and_u64_nat M 4503599627370495 (by omega) (by omega)
    rw [and_low] at h
    exact h
  · have h : ∀ s : Fin 2048, bits .and .i64 (s.val : Int) 2047 = (s.val : Int) := by decide +kernel
    exact h ⟨E, by omega⟩
  · rw [bits_or_u64_nat (M % 4503599627370496) (E * 4503599627370496) (by omega) (by omega), Nat.or_comm]
    have := or_sum 52 E (M % 4503599627370496) hm
    rw [show 2 ^ 52 * E = E * 4503599627370496 by omega] at this
    rw [this, Nat.add_comm]
  · have h := bits_or_u64_nat (M % 4503599627370496 + E * 4503599627370496) 9223372036854775808 (by omega) (by omega)
    rw [Nat.or_comm] at h
    have := or_sum 63 1 (M % 4503599627370496 + E * 4503599627370496) (by omega)
    rw [show 2 ^ 63 * 1 = 9223372036854775808 by decide] at this
    rw [this] at h
    exact h
theorem fb_bits2 {M E : Nat} (hM : M < 9007199254740992) (hE : E ≤ 2047) : ∃ W V : Nat, W = M % 4503599627370496 + E * 4503599627370496 ∧ V = 9223372036854775808 + W ∧
    bits .and .u64 (M : Int) 4503599627370495 = (M : Int) % 4503599627370496 ∧ bits .and .i64 (E : Int) 2047 = (E : Int) ∧ bits .or .u64 ((M : Int) % 4503599627370496) ((E : Int) * 4503599627370496) = (W : Int) ∧ bits .or .u64 (W : Int) 9223372036854775808 = (V : Int) := by
  obtain ⟨a1, a2, a3, a4⟩ := fb_bits hM hE
  refine ⟨_, _, rfl, rfl, ?_, a2, ?_, a4⟩
  · rw [a1]
    omega
  · rw [show (M : Int) % 4503599627370496 = ((M % 4503599627370496 : Nat) : Int) by omega, show (E : Int) * 4503599627370496 = ((E * 4503599627370496 : Nat) : Int) by omega]
    exact a3
end Go.Proofs.YtfalbdlfopfgcaaGreatDoor

