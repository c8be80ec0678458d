/- A ladder of resistors alone: what one sees is real, not below the first series Value, and not above it and the first shunt Value's own inverse's inverse. No program; condition: Values have 64 bits. -/
import Derived.Test.YtjpimgdmlieinaaDoorMid2
import Derived.Test.YtjpimgdmlieinaaDoorNLIn
namespace Go.Proofs.YtjpimgdmlieinaaDoor

/-! ### Noughts of either sign; reals above nought -/
def Zr (o : Option Nat) : Prop := ∃ w, o = some w ∧ (w = 0 ∨ w = 9223372036854775808)
def Ps (x : Nat) : Prop := 0 < x ∧ x < 9218868437227405312
theorem Zr.facts {w : Nat} (h : w = 0 ∨ w = 9223372036854775808) : IsW w ∧ IsFin w ∧ sv w = 0 ∧ mag w = 0 := by
  unfold IsW IsFin
  rcases h with rfl | rfl
  · exact ⟨by omega, by omega, rfl, rfl⟩
  · exact ⟨by omega, by omega, by decide +kernel, by decide +kernel⟩
theorem Ps.facts {x : Nat} (h : Ps x) : IsW x ∧ IsFin x ∧ sv x = (mgn x : Int) ∧ mag x = mgn x ∧ neg x = false ∧ 0 < mgn x ∧ key x = (x : Int) ∧ nanB x = false := by
  obtain ⟨h0, h1⟩ := h
  have hf : IsFin x := by unfold IsFin; omega
  have hm : x % 9223372036854775808 = x := Nat.mod_eq_of_lt (by omega)
  refine ⟨by unfold IsW; omega, hf, ?_, ?_, ?_, ?_, ?_, hf.nan⟩
  · unfold sv; rw [if_neg (by omega), hm]
  · unfold mag; rw [hm]
  · unfold neg; simp; omega
  · have := @mgn_lt 0 x h0
    omega
  · unfold key; rw [if_pos (by omega)]
theorem zr0 : Zr (val 0) := ⟨0, by decide +kernel, .inl rfl⟩
theorem zr_word (n : Bool) : Zr (some (wordB n 0)) := ⟨_, rfl, by cases n <;> simp [wordB]⟩
theorem near_zero {V D r : Nat} (h : Near V D r) (hV : V = 0) : r = 0 := by
  have := (h.2 0 (by omega)).2 (by rw [hV]; omega)
  omega
theorem zr_mul {a b : Option Nat} (ha : Zr a) (hb : ∃ w, b = some w ∧ IsW w ∧ IsFin w) : Zr (fmul a b) ∧ Zr (fmul b a) := by
  obtain ⟨v, rfl, hv⟩ := ha
  obtain ⟨w, rfl, hw, fw⟩ := hb
  obtain ⟨iv, fv, _, mv⟩ := Zr.facts hv
  obtain ⟨r, e, hr⟩ := fmul_spec iv hw fv fw
  obtain ⟨r', e', hr'⟩ := fmul_spec hw iv fw fv
  have h0 := near_zero hr (by rw [mv, Nat.zero_mul])
  have h0' := near_zero hr' (by rw [mv, Nat.mul_zero])
  subst h0
  subst h0'
  exact ⟨by rw [e]; exact zr_word _, by rw [e']; exact zr_word _⟩
theorem zr_fin {a : Option Nat} (h : Zr a) : ∃ w, a = some w ∧ IsW w ∧ IsFin w := by
  obtain ⟨w, e, hw⟩ := h
  exact ⟨w, e, (Zr.facts hw).1, (Zr.facts hw).2.1⟩
theorem ps_fin {x : Nat} (h : Ps x) : ∃ w, some x = some w ∧ IsW w ∧ IsFin w := ⟨x, rfl, h.facts.1, h.facts.2.1⟩
theorem zr_div {a : Option Nat} {x : Nat} (ha : Zr a) (hx : Ps x) : Zr (fdiv a (some x)) := by
  obtain ⟨v, rfl, hv⟩ := ha
  obtain ⟨iv, fv, _, mv⟩ := Zr.facts hv
  obtain ⟨ix, fx, _, mx, _, px, _⟩ := hx.facts
  obtain ⟨r, e, hr⟩ := fdiv_spec iv ix fv fx (by omega)
  have h0 := near_zero hr (by rw [mv, Nat.zero_mul])
  subst h0
  rw [e]
  exact zr_word _
theorem zr_sub {a b : Option Nat} (ha : Zr a) (hb : Zr b) : Zr (fsub a b) ∧ Zr (fadd a b) := by
  obtain ⟨v, rfl, hv⟩ := ha
  obtain ⟨w, rfl, hw⟩ := hb
  obtain ⟨iv, fv, sv0, _⟩ := Zr.facts hv
  obtain ⟨iw, fw, sw0, _⟩ := Zr.facts hw
  constructor
  · rcases fsub_spec iv iw fv fw with ⟨_, z, e, hz⟩ | ⟨h, _⟩
    · exact ⟨z, e, hz⟩
    · rw [sv0, sw0] at h; exact absurd rfl h
  · rcases fadd_spec iv iw fv fw with ⟨_, z, e, hz⟩ | ⟨h, _⟩
    · exact ⟨z, e, hz⟩
    · rw [sv0, sw0] at h; exact absurd rfl h
theorem add_zr {x : Nat} {b : Option Nat} (hx : Ps x) (hb : Zr b) : fadd (some x) b = some x := by
  obtain ⟨w, rfl, hw⟩ := hb
  obtain ⟨iw, fw, sw0, _⟩ := Zr.facts hw
  obtain ⟨ix, fx, sx, _, _, px, _⟩ := hx.facts
  rcases fadd_spec ix iw fx fw with ⟨h, _⟩ | ⟨_, r, e, hr⟩
  · rw [sx, sw0] at h; omega
  · rw [sx, sw0, Int.add_zero] at hr e
    rw [e]
    have h2 := hr.exact (s := x) (by have := hx.2; omega) (by simp)
    subst h2
    have : decide ((mgn r : Int) < 0) = false := by simp
    rw [this]
    rfl

/-! ### Sums and inverses -/
theorem add_ps {a p : Nat} (ha : Ps a) (hp : Ps p) : ∃ r, fadd (some a) (some p) = some r ∧ NearM (mgn a + mgn p) 1 r ∧ a ≤ r ∧ r ≤ 9218868437227405312 := by
  obtain ⟨ia, fa, sa, _, _, pa, _⟩ := ha.facts
  obtain ⟨ip, fp, sp, _, _, pp, _⟩ := hp.facts
  rcases fadd_mid ia ip fa fp with ⟨h, _⟩ | ⟨_, r, e, hr⟩
  · rw [sa, sp] at h; omega
  · rw [sa, sp] at hr e
    have e1 : ((mgn a : Int) + (mgn p : Int)).natAbs = mgn a + mgn p := by omega
    rw [e1] at hr
    have e2 : decide ((mgn a : Int) + (mgn p : Int) < 0) = false := by simp; omega
    rw [e2] at e
    refine ⟨r, e, hr, ?_, hr.1⟩
    exact ((hr.near (by omega)).2 a (by have := ha.2; omega)).1 (by omega)
def o1 : Nat := 4607182418800017408
theorem ps_o1 : Ps o1 := by unfold Ps o1; omega
theorem one_o1 : one = some o1 := by decide +kernel
theorem val_o1 : val 4607182418800017408 = some o1 := by decide +kernel
theorem mgn_o1 : mgn o1 = big 1074 := by decide +kernel
theorem mgn_top (q : Nat) (hq : q = 2045) : mgn 9218868437227405312 = 9007199254740992 * big q := by
  have h := mgn_form q 9007199254740992 (.inr (by omega)) (by omega)
  rw [show q * 4503599627370496 + 9007199254740992 = 9218868437227405312 by omega] at h
  exact h
theorem inv_ps {x : Nat} (hx : Ps x) : ∃ r, fdiv (some o1) (some x) = some r ∧ NearM (mgn o1 * big 1074) (mgn x) r ∧ 0 < r ∧ r ≤ 9218868437227405312 := by
  obtain ⟨io, fo, _, mo, no, po, _⟩ := ps_o1.facts
  obtain ⟨ix, fx, _, mx, nx, px, _⟩ := hx.facts
  obtain ⟨r, e, hr⟩ := fdiv_mid io ix fo fx (by omega) (by omega)
  rw [mo, mx] at hr
  rw [no, nx] at e
  refine ⟨r, e, hr, ?_, hr.1⟩
  refine (hr.2 0 (by omega)).2 (.inl ?_)
  obtain ⟨q, hq⟩ : ∃ q, q = 2045 := ⟨_, rfl⟩
  obtain ⟨z, hz⟩ : ∃ z, z = 1074 := ⟨_, rfl⟩
  have h1 : mgn x < 9007199254740992 * big q := by
    rw [← mgn_top q hq]
    exact mgn_lt hx.2
  have h2 : mid 0 = 1 := by decide +kernel
  rw [← hz]
  have h3 : mgn o1 * big z = big (z + z) := by
    rw [mgn_o1, ← hz]
    exact (Nat.pow_add 2 z z).symm
  have h5 : 9007199254740992 * big q = big (53 + q) := (Nat.pow_add 2 53 q).symm
  have h4 : big (53 + q) ≤ big (z + z) := Nat.pow_le_pow_right (by omega) (by omega)
  rw [h5] at h1
  rw [h2, h3]
  omega
theorem inv_anti {x y r r' : Nat} (hx : Ps x) (hy : Ps y) (hxy : x ≤ y) (h : NearM (mgn o1 * big 1074) (mgn x) r) (h' : NearM (mgn o1 * big 1074) (mgn y) r') : r' ≤ r :=
  h'.mono h hy.facts.2.2.2.2.2.1 hx.facts.2.2.2.2.2.1 (Nat.mul_le_mul_left _ (mgn_le hxy))
theorem add_mono {a p p' r r' : Nat} (hp : p ≤ p') (h : NearM (mgn a + mgn p) 1 r) (h' : NearM (mgn a + mgn p') 1 r') : r ≤ r' :=
  h.mono h' (by omega) (by omega) (by have := mgn_le hp; omega)
/-- Infinity is not finite, nor what is added to it. -/
theorem inf_add {a : Nat} (ha : Ps a) : fadd (some a) (some 9218868437227405312) = some 9218868437227405312 := by
  obtain ⟨m, p, hr, _, _⟩ := read_fin ha.facts.1 ha.facts.2.1
  have hi := read_inf isW_inf (by decide)
  show ((Ieee.double.read a).sum (Ieee.double.read 9218868437227405312)).map Ieee.double.write = _
  rw [hr, hi]
  have h : decide ((9223372036854775808 : Nat) ≤ 9218868437227405312) = false := by decide
  rw [h]
  rfl
theorem inf_fin : fin (some 9218868437227405312) = false := by decide +kernel
theorem fin_ps {r : Nat} (h : fin (some r) = true) (hr : r ≤ 9218868437227405312) (h0 : 0 < r) : Ps r := by
  refine ⟨h0, ?_⟩
  apply Nat.lt_of_not_le
  intro h2
  obtain rfl : r = 9218868437227405312 := by omega
  rw [inf_fin] at h
  cases h

/-! ### Numbers that are real and above nought -/
def Rc (c : CV) (x : Nat) : Prop := c.1 = some x ∧ Ps x ∧ Zr c.2
theorem fle_zr {z : Nat} {x : Nat} (hz : z = 0 ∨ z = 9223372036854775808) (hx : Ps x) : fle (fsize (some z)) (fsize (some x)) = true := by
  have e1 : fsize (some z) = some 0 := by
    unfold fsize sizeB
    rcases hz with rfl | rfl <;> rfl
  have e2 : fsize (some x) = some x := by
    unfold fsize sizeB
    rw [Option.map_some, Nat.mod_eq_of_lt (by have := hx.2; omega)]
  obtain ⟨ix, fx, _, _, _, _, kx, nx⟩ := hx.facts
  rw [e1, e2, fle_key isW_0 ix (by decide) nx, kx]
  have : key 0 = 0 := by decide
  rw [this, decide_eq_true_eq]
  omega
theorem cinv_R {c : CV} {x : Nat} (h : Rc c x) : ∃ r, fdiv (some o1) (some x) = some r ∧ (cinv c).1 = some r ∧ Zr (cinv c).2 := by
  obtain ⟨h1, hx, z, h2, hz⟩ := h
  obtain ⟨r, hr, _⟩ := inv_ps hx
  have hz2 : Zr (some z) := ⟨z, rfl, hz⟩
  have hq := zr_div hz2 hx
  have hden : fadd (some x) (fmul (some z) (fdiv (some z) (some x))) = some x := add_zr hx (zr_mul hz2 (zr_fin hq)).1
  have hnum : fadd (some o1) (fmul (val 0) (fdiv (some z) (some x))) = some o1 := add_zr ps_o1 (zr_mul zr0 (zr_fin hq)).1
  refine ⟨r, hr, ?_⟩
  unfold cinv cdiv cv
  rw [h1, h2, if_pos (fle_zr hz hx), val_o1, hden, hnum]
  exact ⟨hr, zr_div (zr_sub zr0 (zr_mul hq (ps_fin ps_o1)).2).1 hx⟩
/-- What the ladder's beginning is made of. -/
def Final (s t : El) (c : CV) : Prop := ∃ a b g y p r, val s.v = some a ∧ Ps a ∧ val t.v = some b ∧ Ps b ∧ fdiv (some o1) (some b) = some g ∧ Ps g ∧ Ps y ∧ g ≤ y ∧ fdiv (some o1) (some y) = some p ∧ Ps p ∧ fadd (some a) (some p) = some r ∧ Ps r ∧ c.1 = some r ∧ Zr c.2
theorem Final.rc {s t : El} {c : CV} (h : Final s t c) : ∃ x, Rc c x := by
  obtain ⟨a, b, g, y, p, r, _, _, _, _, _, _, _, _, _, _, _, hr, h1, h2⟩ := h
  exact ⟨r, h1, hr, h2⟩
theorem rec_ok {adm : Bool} {e : El} {o : Option Nat} (hk : e.kind = 1) (hw : IsW e.v) (h : recE adm e o = 0) : ∃ a, val e.v = some a ∧ Ps a ∧ recG adm e o = (if adm = true then (fdiv one (some a), val 0) else (some a, val 0)) ∧ cfin (recG adm e o) = true := by
  have hG : recG adm e o = recZ adm e.kind (val e.v) o := by unfold recG; rw [if_pos h]
  have h1 := h
  unfold recE at h1
  split at h1
  · split at h1
    · rename_i hc
      rw [hk] at h1
      rw [if_pos (by decide)] at h1
      split at h1
      · rename_i hf
        rw [Bool.and_eq_true] at hf
        rw [hG, hk]
        have hz : recZ adm 1 (val e.v) o = (if adm = true then (fdiv one (val e.v), val 0) else (val e.v, val 0)) := rfl
        have hv : ∃ a, val e.v = some a ∧ Ps a := by
          unfold checkE at hc
          rw [hk] at hc
          rw [if_pos (by decide)] at hc
          split at hc
          · split at hc
            · cases hc
            · split at hc
              · cases hc
              · split at hc
                · cases hc
                · rename_i hkf hle
                  have hfin : IsFin e.v := by
                    unfold IsFin
                    unfold IsW at hw
                    apply Nat.lt_of_not_le
                    intro hge
                    apply hkf
                    unfold kindF
                    have h2 : e.v / 4503599627370496 % 2048 = 2047 := by omega
                    rw [h2]
                    rw [if_neg (by decide), if_neg (by decide)]
                    split <;> omega
                  refine ⟨e.v, hfin.val, ?_⟩
                  rw [show abK 1 = true from rfl, Bool.true_and, hfin.val, show val 0 = some 0 by decide +kernel, fle_key hw isW_0 hfin.nan (by decide), decide_eq_true_eq] at hle
                  have hk0 : key 0 = 0 := by decide
                  rw [hk0] at hle
                  unfold key at hle
                  unfold IsFin at hfin
                  unfold IsW at hw
                  unfold Ps
                  split at hle <;> omega
          · cases hc
        obtain ⟨a, e1, ha⟩ := hv
        refine ⟨a, e1, ha, by rw [hz, e1], hf.2⟩
      · cases h1
    · rename_i h2
      rw [h1] at h2
      exact absurd rfl h2
  · rename_i h2
    rw [h1] at h2
    exact absurd rfl h2
theorem step_ok {n i : Nat} {s t : El} {o : Option Nat} {z : CV} (ks : s.kind = 1) (kt : t.kind = 1) (ws : IsW s.v) (wt : IsW t.v) (hz : i + 1 < n → ∃ x, Rc z x) (h : (inStep n i s t o z).1 = 0) : Final s t (inStep n i s t o z).2 := by
  unfold inStep at h ⊢
  split at h
  · rename_i h1
    rw [if_pos h1]
    obtain ⟨b, eb, pb, gb, fb⟩ := rec_ok kt wt h1
    rw [if_pos rfl, one_o1] at gb
    obtain ⟨g, eg, ng, g0, gi⟩ := inv_ps pb
    have pg : Ps g := by
      rw [gb, eg] at fb
      unfold cfin at fb
      rw [Bool.and_eq_true] at fb
      exact fin_ps fb.1 gi g0
    rw [eg] at gb
    split at h
    · rename_i h2
      rw [if_pos h2]
      have hy : ∃ y, Rc (inY n i t o z) y ∧ g ≤ y := by
        unfold inY at h2 ⊢
        by_cases hi : i + 1 < n
        · rw [if_pos hi] at h2 ⊢
          obtain ⟨x, hx⟩ := hz hi
          obtain ⟨q, eq, c1, c2⟩ := cinv_R hx
          obtain ⟨q', eq', nq, q0, qi⟩ := inv_ps hx.2.1
          obtain rfl : q = q' := by rw [eq] at eq'; exact Option.some.inj eq'
          unfold cfin cadd at h2
          rw [gb, c1, Bool.and_eq_true] at h2
          have hq : Ps q := by
            refine ⟨q0, ?_⟩
            apply Nat.lt_of_not_le
            intro h3
            obtain rfl : q = 9218868437227405312 := by omega
            have h4 := h2.1
            dsimp only at h4
            rw [inf_add pg, inf_fin] at h4
            cases h4
          obtain ⟨y, ey, ny, gy, yi⟩ := add_ps pg hq
          refine ⟨y, ⟨?_, ?_, ?_⟩, gy⟩
          · show fadd (recG true t o).1 (cinv z).1 = some y
            rw [gb, c1]
            exact ey
          · have h4 := h2.1
            dsimp only at h4
            rw [ey] at h4
            exact fin_ps h4 yi (by have := pg.1; omega)
          · show Zr (fadd (recG true t o).2 (cinv z).2)
            rw [gb]
            exact (zr_sub zr0 c2).2
        · rw [if_neg hi]
          exact ⟨g, ⟨by rw [gb], pg, by rw [gb]; exact zr0⟩, Nat.le_refl _⟩
      obtain ⟨y, ry, gy⟩ := hy
      split at h
      · rename_i h3
        rw [if_pos h3]
        obtain ⟨a, ea, pa, ga, fa⟩ := rec_ok ks ws h3
        rw [if_neg (by decide)] at ga
        split at h
        · rename_i h4
          rw [if_pos h4]
          obtain ⟨p, ep, c1, c2⟩ := cinv_R ry
          obtain ⟨p', ep', np, p0, pi⟩ := inv_ps ry.2.1
          obtain rfl : p = p' := by rw [ep] at ep'; exact Option.some.inj ep'
          unfold cfin cadd at h4
          rw [ga, c1, Bool.and_eq_true] at h4
          have hp : Ps p := by
            refine ⟨p0, ?_⟩
            apply Nat.lt_of_not_le
            intro h5
            obtain rfl : p = 9218868437227405312 := by omega
            have h6 := h4.1
            dsimp only at h6
            rw [inf_add pa, inf_fin] at h6
            cases h6
          obtain ⟨r, er, nr, ar, ri⟩ := add_ps pa hp
          have hr : Ps r := by
            have h6 := h4.1
            dsimp only at h6
            rw [er] at h6
            exact fin_ps h6 ri (by have := pa.1; omega)
          refine ⟨a, b, g, y, p, r, ea, pa, eb, pb, eg, pg, ry.2.1, gy, ep, hp, er, hr, ?_, ?_⟩
          · show fadd (recG false s o).1 (cinv (inY n i t o z)).1 = some r
            rw [ga, c1]
            exact er
          · show Zr (fadd (recG false s o).2 (cinv (inY n i t o z)).2)
            rw [ga]
            exact (zr_sub zr0 c2).2
        · cases h
      · rename_i h3
        exact absurd h h3
    · cases h
  · rename_i h1
    exact absurd h h1

/-! ### The whole ladder -/
theorem inN_fault (L : List El) (n : Nat) (o : Option Nat) : ∀ (i : Nat) (z : CV), (inN L n o i z).2 ≠ (0, 0) → (inN L n o i z).1 = (val 0, val 0)
  | 0, z, h => absurd rfl h
  | i + 1, z, h => by
    unfold inN at h ⊢
    split
    · rename_i h1
      rw [if_pos h1] at h
      exact inN_fault L n o i _ h
    · rfl
theorem inF_fault {S T : List El} {o : Option Nat} (h : (inF S T o).2 ≠ (0, 0)) : (inF S T o).1 = (val 0, val 0) := by
  unfold inF at h ⊢
  split
  · rename_i h1
    rw [if_pos h1] at h
    split
    · rename_i h2
      rw [if_pos h2] at h
      exact inN_fault _ _ _ _ _ h
    · rfl
  · rfl
theorem inN_ok (L : List El) (n : Nat) (o : Option Nat) (hL : ∀ i, i < n → (L.getD (2 * i) el0).kind = 1 ∧ IsW (L.getD (2 * i) el0).v ∧ (L.getD (2 * i + 1) el0).kind = 1 ∧ IsW (L.getD (2 * i + 1) el0).v) :
    ∀ (i : Nat) (z : CV), 0 < i → i ≤ n → (i < n → ∃ x, Rc z x) → (inN L n o i z).2 = (0, 0) → Final (L.getD 0 el0) (L.getD 1 el0) (inN L n o i z).1
  | 0, z, h0, _, _, _ => absurd h0 (by omega)
  | i + 1, z, _, hi, hz, h => by
    unfold inN at h ⊢
    obtain ⟨k1, k2, k3, k4⟩ := hL i (by omega)
    split at h
    · rename_i h1
      rw [if_pos h1]
      have hF := step_ok k1 k3 k2 k4 hz h1
      cases i with
      | zero => exact hF
      | succ j => exact inN_ok L n o hL (j + 1) _ (by omega) (by omega) (fun _ => hF.rc) h
    · rename_i h1
      simp only [Prod.mk.injEq] at h
      exact absurd h.1 h1
theorem ladN_pair (S T : List El) : ∀ (k i : Nat), i < k → (ladN S T k).getD (2 * i) el0 = ladS (S.getD i el0) (aN i) (aN (i + 1)) ∧ (ladN S T k).getD (2 * i + 1) el0 = ladS (T.getD i el0) (aN (i + 1)) ⟨#[48]⟩
  | 0, i, h => absurd h (by omega)
  | k + 1, i, h => by
    have hl := ladN_len S T k
    rw [ladN]
    simp only [List.getD_eq_getElem?_getD]
    by_cases hi : i < k
    · rw [List.getElem?_append_left (by omega), List.getElem?_append_left (by omega), ← List.getD_eq_getElem?_getD, ← List.getD_eq_getElem?_getD]
      exact ladN_pair S T k i hi
    · obtain rfl : i = k := by omega
      rw [List.getElem?_append_right (by omega), List.getElem?_append_right (by omega), hl, Nat.sub_self, show 2 * i + 1 - 2 * i = 1 by omega]
      exact ⟨rfl, rfl⟩
theorem inF_ok {S T : List El} {o : Option Nat} (hS : ∀ e ∈ S, e.kind = 1 ∧ IsW e.v) (hT : ∀ e ∈ T, e.kind = 1 ∧ IsW e.v) (h : (inF S T o).2 = (0, 0)) : S.length = T.length ∧ 0 < S.length ∧ Final (S.getD 0 el0) (T.getD 0 el0) (inF S T o).1 := by
  unfold inF at h ⊢
  split at h
  · rename_i h1
    rw [if_pos h1]
    split at h
    · rename_i h2
      rw [if_pos h2]
      obtain ⟨l1, l2, _⟩ := ladNetF_ok h2
      refine ⟨l1, l2, ?_⟩
      have hg : ∀ (Q : List El), (∀ e ∈ Q, e.kind = 1 ∧ IsW e.v) → ∀ i, i < Q.length → (Q.getD i el0).kind = 1 ∧ IsW (Q.getD i el0).v := by
        intro Q hQ i hi
        rw [List.getD_eq_getElem?_getD, List.getElem?_eq_getElem hi]
        exact hQ _ (List.getElem_mem hi)
      have hP := ladN_pair S T S.length
      have hF := inN_ok (ladN S T S.length) S.length o (fun i hi => by
        rw [(hP i hi).1, (hP i hi).2]
        have a := hg S hS i hi
        have b := hg T hT i (by omega)
        exact ⟨a.1, a.2, b.1, b.2⟩) S.length (val 0, val 0) l2 (Nat.le_refl _) (fun h => absurd h (by omega)) h
      have h0 := hP 0 l2
      rw [Nat.mul_zero, Nat.zero_add] at h0
      rw [h0.1, h0.2] at hF
      exact hF
    · rename_i h2
      exact absurd h h2
  · rename_i h1
    simp only [Prod.mk.injEq] at h
    exact absurd h.1 h1
/-- What the statement asks. -/
theorem Final.law {s t : El} {x y : Nat} (h : Final s t (cv x y)) : feq (val y) (val 0) = true ∧ fle (val s.v) (val x) = true ∧ fle (val x) (fadd (val s.v) (fdiv one (fdiv one (val t.v)))) = true := by
  obtain ⟨a, b, g, y', p, r, ea, pa, eb, pb, eg, pg, py, gy, ep, pp, er, pr, h1, z, h2, hz⟩ := h
  have hx : val x = some r := h1
  have hy : val y = some z := h2
  obtain ⟨r', er', nr, ar, ri⟩ := add_ps pa pp
  obtain rfl : r = r' := by rw [er] at er'; exact Option.some.inj er'
  obtain ⟨ia, _, _, _, _, _, ka, na⟩ := pa.facts
  obtain ⟨ir, _, _, _, _, _, kr, nr2⟩ := pr.facts
  refine ⟨?_, ?_, ?_⟩
  · rw [hy]
    rcases hz with rfl | rfl <;> decide +kernel
  · rw [ea, hx, fle_key ia ir na nr2, ka, kr, decide_eq_true_eq]
    omega
  · obtain ⟨k, ek, nk, k0, ki⟩ := inv_ps pg
    obtain ⟨p', ep', np, _, _⟩ := inv_ps py
    obtain rfl : p = p' := by rw [ep] at ep'; exact Option.some.inj ep'
    have hpk : p ≤ k := inv_anti pg py gy nk np
    rw [ea, eb, one_o1, eg, ek, hx]
    rcases Nat.lt_or_ge k 9218868437227405312 with hk | hk
    · obtain ⟨r2, er2, nr3, _, r2i⟩ := add_ps pa ⟨k0, hk⟩
      have hle : r ≤ r2 := add_mono hpk nr nr3
      rw [er2]
      have hw := wordB_facts false r2i
      rw [show wordB false r2 = r2 from rfl] at hw
      have kr2 : key r2 = (r2 : Int) := by unfold key; rw [if_pos (by omega)]
      rw [fle_key ir hw.1 nr2 hw.2.1, kr, kr2, decide_eq_true_eq]
      omega
    · obtain rfl : k = 9218868437227405312 := by omega
      have hw := wordB_facts false (r := 9218868437227405312) (Nat.le_refl _)
      rw [show wordB false 9218868437227405312 = 9218868437227405312 from rfl] at hw
      have kr2 : key 9218868437227405312 = 9218868437227405312 := by decide
      rw [inf_add pa, fle_key ir hw.1 nr2 hw.2.1, kr, kr2, decide_eq_true_eq]
      have := pr.2
      omega
end Go.Proofs.YtjpimgdmlieinaaDoor
