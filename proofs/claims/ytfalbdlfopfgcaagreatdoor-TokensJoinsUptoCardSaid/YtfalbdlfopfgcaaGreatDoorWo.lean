/- gridworkwide.Near: the real nearest to a fraction. Conditions: no sign; the divisor is not 0; the rows not too long. -/
import Derived.Test.YtfalbdlfopfgcaaGreatDoorWm
namespace Go.Proofs.YtfalbdlfopfgcaaGreatDoor
open Go.RowKit

theorem near_52 {p q : Nat} (hp : p ≠ 0) (hq : q ≠ 0) (h : nearK p q ≠ -1074) : 4503599627370496 ≤ nearT p (nearK p q) / nearQ q (nearK p q) := by
  unfold nearK at h ⊢
  split at h
  · rename_i h1
    rw [if_pos h1]
    have h2 := bits_le hp
    have h3 := bits_lt q
    have h4 := bits_pos hp
    have hu : nearU p q = (bitsN p : Int) - (bitsN q : Int) - 53 := by unfold nearU at h ⊢; omega
    generalize nearU p q = u at *
    rw [Nat.le_div_iff_mul_le (nearQ_pos hq u)]
    unfold nearT nearQ
    by_cases hu0 : u < 0
    · rw [if_pos hu0, if_pos hu0]
      calc 4503599627370496 * q ≤ 2 ^ 52 * 2 ^ bitsN q := Nat.mul_le_mul_left _ (Nat.le_of_lt h3)
        _ = 2 ^ (52 + bitsN q) := (Nat.pow_add ..).symm
        _ = 2 ^ (bitsN p - 1 + (-u).toNat) := by rw [show 52 + bitsN q = bitsN p - 1 + (-u).toNat by omega]
        _ = 2 ^ (bitsN p - 1) * 2 ^ (-u).toNat := Nat.pow_add ..
        _ ≤ p * 2 ^ (-u).toNat := Nat.mul_le_mul_right _ h2
    · rw [if_neg hu0, if_neg hu0]
      calc 4503599627370496 * (q * 2 ^ u.toNat) ≤ 2 ^ 52 * (2 ^ bitsN q * 2 ^ u.toNat) := Nat.mul_le_mul_left _ (Nat.mul_le_mul_right _ (Nat.le_of_lt h3))
        _ = 2 ^ (52 + (bitsN q + u.toNat)) := by rw [← Nat.pow_add, ← Nat.pow_add]
        _ = 2 ^ (bitsN p - 1) := by rw [show 52 + (bitsN q + u.toNat) = bitsN p - 1 by omega]
        _ ≤ p := h2
  · rename_i h1
    rw [if_neg h1, near_half]
    omega
theorem nearN_le {p q : Nat} (hp : p ≠ 0) (hq : q ≠ 0) : nearN p q ≤ 9007199254740992 := by
  have := near_53 hp hq
  unfold nearN
  split <;> omega
/-- The word of the real nearest to p by q. -/
def nearW (p q : Nat) : Nat := if p = 0 then 0 else ldW (nearN p q) (nearK p q)
theorem nearU_b (p q : Nat) : -1074 ≤ nearU p q ∧ nearU p q ≤ bitsN p := by unfold nearU; omega
theorem nearK_b (p q : Nat) : nearU p q ≤ nearK p q ∧ nearK p q ≤ nearU p q + 1 := by unfold nearK; split <;> omega
set_option maxRecDepth 100000 in
theorem Ldexp_0 (u : Int) (w : World) : Calls Tryz.prog 77 #[.float .f64 0, .int .i64 u] w (RetF w (some 0)) := by
  have q1 : feq (val 0) (val 0) = true := by decide +kernel
  have H : Hid (∀ w, Calls Tryz.prog 101 #[.float .f64 0, .int .i64 u] w fun e w' => e = .returned (.float .f64 0) ∧ w' = w) := hid fun w => by
    go_enter Tryz.func101, Tryz.ntmps101
    go_wp2
    go_ret
    exact ⟨rfl, rfl⟩
  go_enter Tryz.func77, Tryz.ntmps77
  go_wp2_with (first | (go_at_call 101; refine (H.out _).mono ?_; rintro e w' ⟨rfl, rfl⟩))
  go_ret
  exact ⟨_, rfl, (by repeat (first | with_reducible exact Dr.refl _ | with_reducible refine Dr.more ?_ _)), by decide +kernel, isW_0⟩
theorem ofInt_0 : ofInt ((0 : Nat) : Int) = 0 := by decide +kernel
theorem Ldexp_any (n : Nat) (u : Int) (hn : n ≤ 9007199254740992) (hu : -1074 ≤ u) (hu2 : u ≤ 1000000) (hb : u = -1074 ∨ 4503599627370496 ≤ n) (w : World) : Calls Tryz.prog 77 #[.float .f64 (ofInt (n : Int)), .int .i64 u] w (RetF w (some (ldW n u))) := by
  by_cases h0 : n = 0
  · subst h0
    have hu0 : u = -1074 := by rcases hb with h | h; exact h; omega
    subst hu0
    rw [ofInt_0, show ldW 0 (-1074) = 0 by decide +kernel]
    exact Ldexp_0 _ w
  · exact Ldexp_n n u (by omega) hn hu hu2 hb w
/-- The rounding: one more, if what is left is more than a half, or a half and the number odd. -/
theorem nearN_eq {p q : Nat} {u : Int} (hu : nearK p q = u) : nearN p q = nearT p u / nearQ q u + (if nearQ q u < nearT p u % nearQ q u * 2 ^ 1 ∨ (nearT p u % nearQ q u * 2 ^ 1 = nearQ q u ∧ nearT p u / nearQ q u % 2 = 1) then 1 else 0) := by
  unfold nearN
  rw [hu, Nat.pow_one, Nat.mul_comm 2]
theorem RatB.of {w w' : World} {b B : Nat} {x0 y0 x1 y1 : Value} (h : RatB w b x0 y0 x1 y1) (hb : Below B w w') (hl : b < B) : RatB w' b x0 y0 x1 y1 := by
  unfold RatB at *
  rw [hb.block b hl]
  exact h
theorem wds_shl (x v k : Nat) (h : (wds x).length ≤ k) : (wds (x * 2 ^ v)).length ≤ k + v / 32 + 1 := by
  refine wds_len _ _ ?_
  have h1 : x < 4294967296 ^ (wds x).length := by
    have := wv_lt (wok_wds x)
    rwa [wv_wds] at this
  have h2 : 4294967296 ^ (wds x).length ≤ 4294967296 ^ k := Nat.pow_le_pow_right (by decide) h
  have h3 : 2 ^ v ≤ 2 ^ (32 * (v / 32 + 1)) := Nat.pow_le_pow_right (by decide) (by omega)
  have h4 : 2 ^ (32 * (v / 32 + 1)) = 4294967296 ^ (v / 32 + 1) := by rw [Nat.pow_mul]
  calc x * 2 ^ v < 4294967296 ^ k * 2 ^ v := Nat.mul_lt_mul_of_pos_right (Nat.lt_of_lt_of_le h1 h2) (Nat.two_pow_pos _)
    _ ≤ 4294967296 ^ k * 4294967296 ^ (v / 32 + 1) := Nat.mul_le_mul_left _ (by omega)
    _ = 4294967296 ^ (k + v / 32 + 1) := by rw [← Nat.pow_add, Nat.add_assoc]
theorem nearT_len {p : Nat} {u : Int} (h : (wds p).length ≤ 1100) (hu : -1074 ≤ u) : (wds (nearT p u)).length ≤ 3000 := by
  unfold nearT
  split
  · have := wds_shl p (-u).toNat 1100 h
    omega
  · omega
theorem nearQ_len {q : Nat} {u : Int} (h : (wds q).length ≤ 1100) (hu : u ≤ 40000) : (wds (nearQ q u)).length ≤ 3000 := by
  unfold nearQ
  split
  · omega
  · have := wds_shl q u.toNat 1100 h
    omega
/-- At each round the quotient is told: is the unit the last one? -/
theorem near_round {p q : Nat} {u : Int} (hp : p ≠ 0) (hq : q ≠ 0) (h : u = nearU p q ∨ u = nearU p q + 1 ∧ ¬ nearT p (nearU p q) / nearQ q (nearU p q) < 9007199254740992) : nearT p u / nearQ q u < 18014398509481984 ∧ (nearT p u / nearQ q u < 9007199254740992 → nearK p q = u) ∧ (¬ nearT p u / nearQ q u < 9007199254740992 → u = nearU p q) := by
  have h54 := near_54 hp hq
  have h53 := near_53 hp hq
  rcases h with rfl | ⟨rfl, h1⟩
  · exact ⟨h54, fun h => by unfold nearK; rw [if_pos h], fun _ => rfl⟩
  · have hK : nearK p q = nearU p q + 1 := by unfold nearK; rw [if_neg h1]
    rw [hK] at h53
    exact ⟨by omega, fun _ => hK, fun h => absurd h53 h⟩
theorem and1_mod (n : Nat) (h : n < 18446744073709551616) : bits .and .u64 (n : Int) 1 = ((n % 2 : Nat) : Int) := and_mod n 1 h (by decide)
def NrLoop (wc : World) (p q : Nat) (b6 b7 : Nat) (uv nv : Value) (w' : World) : Prop := ∃ (u : Int) (n : Int) (s6 s7 : Value), uv = .int .i64 u ∧ nv = .int .u64 n ∧ (u = nearU p q ∨ u = nearU p q + 1 ∧ ¬ nearT p (nearU p q) / nearQ q (nearU p q) < 9007199254740992) ∧ IntB w' b6 (.bool false) s6 ∧ IntB w' b7 (.bool false) s7 ∧ (∀ d, s6 ≠ wrd d) ∧ (∀ d, s7 ≠ wrd d) ∧ Below wc.heap.size wc w'
set_option maxRecDepth 100000 in
set_option maxHeartbeats 4000000 in
theorem Near_any (w : World) (vp vq : Value) (p q : Nat) (hp : Wn w vp p) (hq : Wn w vq q) (hpl : (wds p).length ≤ 1100) (hql : (wds q).length ≤ 1100) (hq0 : q ≠ 0) : Calls Tryz.prog 48 #[.agg #[.bool false, vp, .bool false, vq]] w fun E w' => ∃ x, E = .returned (.float .f64 x) ∧ val x = some (nearW p q) ∧ IsW x ∧ Below w.heap.size w w' := by
  obtain ⟨pa, pc, rfl⟩ := hp.sl
  obtain ⟨qa, qc, rfl⟩ := hq.sl
  have r0 := RatB.new w (.bool false) (.slice pa (wds p).length pc) (.bool false) (.slice qa (wds q).length qc)
  have b0 : Below w.heap.size w (w.alloc (.cells #[.bool false, .slice pa (wds p).length pc, .bool false, .slice qa (wds q).length qc] 104)) := bla _ (Below.refl _ _)
  by_cases hp0 : p = 0
  · subst hp0
    rw [wds_0] at r0 b0 ⊢
    go_enter Tryz.func48, Tryz.ntmps48
    go_wp2
    go_ret
    exact ⟨0, rfl, by rw [show nearW 0 q = 0 from rfl]; decide +kernel, isW_0, b0⟩
  · have hl0 : 0 < (wds p).length := by rw [wds_pos hp0]; simp
    obtain ⟨lp, hlp⟩ : ∃ n, n = (wds p).length := ⟨_, rfl⟩
    obtain ⟨lq, hlq⟩ : ∃ n, n = (wds q).length := ⟨_, rfl⟩
    rw [← hlp] at hp r0 b0 hl0 hpl ⊢
    rw [← hlq] at hq r0 b0 hql ⊢
    have g1 : ((lp : Int) == 0) = false := by rw [beq_eq_false_iff_ne]; omega
    have r1 := r0.alloc (.cells #[.bool false, .slice pa lp pc] 85)
    have i1 := IntB.new (w.alloc (.cells #[.bool false, .slice pa lp pc, .bool false, .slice qa lq qc] 104)) (.bool false) (.slice pa lp pc)
    rw [World.size_alloc] at i1
    have b1 := bla (.cells #[.bool false, .slice pa lp pc] 85) b0
    replace hlp := hid hlp
    replace hlq := hid hlq
    go_enter Tryz.func48, Tryz.ntmps48
    go_upto_region 4 with (fail)
    obtain ⟨w1, hw1⟩ : ∃ w1, w1 = (w.alloc (.cells #[.bool false, .slice pa lp pc, .bool false, .slice qa lq qc] 104)).alloc (.cells #[.bool false, .slice pa lp pc] 85) := ⟨_, rfl⟩
    rw [← hw1] at r1 i1 b1 ⊢
    clear hw1 r0 b0
    have HBa := hid fun w' (h : Below w1.heap.size w1 w') => wBits_any w' false _ p (hp.below (bl2 b1 h)) (by have := hlp.out; omega)
    have HBb := hid fun w' (h : Below w1.heap.size w1 w') => wBits_any w' false _ q (hq.below (bl2 b1 h)) (by have := hlq.out; omega)
    obtain ⟨ka, hka⟩ : ∃ k, k = bitsN p := ⟨_, rfl⟩
    obtain ⟨kb, hkb⟩ : ∃ k, k = bitsN q := ⟨_, rfl⟩
    rw [← hka] at HBa
    rw [← hkb] at HBb
    have hka2 : ka ≤ 35200 := by have := bitsN_le_wds p; have := hlp.out; omega
    have hkb2 : kb ≤ 35200 := by have := bitsN_le_wds q; have := hlq.out; omega
    obtain ⟨U, hU⟩ : ∃ U, U = nearU p q := ⟨_, rfl⟩
    have hU2 : max ((ka : Int) - (kb : Int) - 53) (-1074) = U := by rw [hU, hka, hkb]; rfl
    obtain ⟨d1, hd1⟩ : ∃ d : Int, d = (ka : Int) - (kb : Int) := ⟨_, rfl⟩
    have k1 : (ka : Int) - (kb : Int) = d1 := hd1.symm
    obtain ⟨d2, hd2⟩ : ∃ d : Int, d = d1 - 53 := ⟨_, rfl⟩
    have k3 : d1 - 53 = d2 := hd2.symm
    have k2 : IntKind.i64.wrap d1 = d1 := IntWalk.i64_in _ (by omega)
    have k4 : IntKind.i64.wrap d2 = d2 := IntWalk.i64_in _ (by omega)
    rw [k1, k3] at hU2
    have hUb : -1074 ≤ U ∧ U ≤ 35200 := by
      have := nearU_b p q
      rw [← hU, ← hka] at this
      omega
    replace hka := hid hka
    replace hkb := hid hkb
    replace hU := hid hU
    replace hd1 := hid hd1
    replace hd2 := hid hd2
    have a0 := i1.c0
    have a1 := i1.c1
    have a2 := r1.c2
    have a3 := r1.c3
    go_cut [4] from 20 to 27 (fun x wx => x = .int .i64 U ∧ Below w1.heap.size w1 wx)
    case first =>
      go_region_law (go_simp; go_at_call 45; first | ((with_reducible refine (HBa.out _ ?hb).mono ?_); (case hb => (repeat (first | with_reducible exact Below.refl _ _ | with_reducible refine bla _ ?_ | with_reducible refine bld ?_ | with_reducible refine bldn ?_ _ | (with_reducible refine bl2 ?_ (by assumption))))); rintro E2 w2 ⟨rfl, hb2⟩; have J0 := i1.below (w' := w2) (by (repeat (first | with_reducible exact Below.refl _ _ | with_reducible refine bla _ ?_ | with_reducible refine bld ?_ | with_reducible refine bldn ?_ _ | (with_reducible refine bl2 ?_ (by assumption))))); have J1 := r1.below (w' := w2) (by (repeat (first | with_reducible exact Below.refl _ _ | with_reducible refine bla _ ?_ | with_reducible refine bld ?_ | with_reducible refine bldn ?_ _ | (with_reducible refine bl2 ?_ (by assumption))))); have e0 := J0.c0; have e1 := J0.c1; have e2 := J1.c2; have e3 := J1.c3) | ((with_reducible refine (HBb.out _ ?hb).mono ?_); (case hb => (repeat (first | with_reducible exact Below.refl _ _ | with_reducible refine bla _ ?_ | with_reducible refine bld ?_ | with_reducible refine bldn ?_ _ | (with_reducible refine bl2 ?_ (by assumption))))); rintro E3 w3 ⟨rfl, hb3⟩; have J0 := i1.below (w' := w3) (by (repeat (first | with_reducible exact Below.refl _ _ | with_reducible refine bla _ ?_ | with_reducible refine bld ?_ | with_reducible refine bldn ?_ _ | (with_reducible refine bl2 ?_ (by assumption))))); have J1 := r1.below (w' := w3) (by (repeat (first | with_reducible exact Below.refl _ _ | with_reducible refine bla _ ?_ | with_reducible refine bld ?_ | with_reducible refine bldn ?_ _ | (with_reducible refine bl2 ?_ (by assumption))))); have d0 := J0.c0; have d1 := J0.c1; have d2 := J1.c2; have d3 := J1.c3))
      all_goals
        go_wp2
        all_goals
          go_meet
          exact ⟨by congr 1; omega, by (repeat (first | with_reducible exact Below.refl _ _ | with_reducible refine bla _ ?_ | with_reducible refine bld ?_ | with_reducible refine bldn ?_ _ | (with_reducible refine bl2 ?_ (by assumption))))⟩
    obtain ⟨rfl, hbc⟩ := hcut
    obtain ⟨wk, hwk⟩ : ∃ wk, wk = wc := ⟨wc, rfl⟩
    subst hwk
    clear hU2 k1 k2 k3 k4 a0 a1 a2 a3 HBa HBb
    have I1 := hid (i1.below hbc)
    have R1 := hid (r1.below hbc)
    have hpc := hid (hp.below (bl2 b1 hbc))
    have hqc := hid (hq.below (bl2 b1 hbc))
    have bwc : Below w.heap.size w wk := bl2 b1 hbc
    have hN1 : w.heap.size + 1 < wk.heap.size := I1.out.lt
    clear i1 r1 hbc b1 hp hq
    have j6 := (IntB.new wk (.bool false) (.slice none 0 0)).alloc (.cells #[.bool false, .slice none 0 0] 85)
    have j7 := IntB.new (wk.alloc (.cells #[.bool false, .slice none 0 0] 85)) (.bool false) (.slice none 0 0)
    rw [World.size_alloc] at j7
    have j8 : Below wk.heap.size wk ((wk.alloc (.cells #[.bool false, .slice none 0 0] 85)).alloc (.cells #[.bool false, .slice none 0 0] 85)) := bla _ (bla _ (Below.refl _ _))
    go_wp2
    have G6 := hid j6
    have G7 := hid j7
    have G8 := hid j8
    obtain ⟨w2, hw2⟩ : ∃ w2, w2 = (wk.alloc (.cells #[.bool false, .slice none 0 0] 85)).alloc (.cells #[.bool false, .slice none 0 0] 85) := ⟨_, rfl⟩
    rw [← hw2] at G6 G7 G8 ⊢
    clear hw2 j6 j7 j8
    go_loopw [4, 5] (fun uv nv w' => NrLoop wk p q wk.heap.size (wk.heap.size + 1) uv nv w') (fun uv _ _ => (U + 2 - intOf uv).toNat)
    case atStart => exact ⟨U, 0, _, _, rfl, rfl, .inl hU.out, G6.out, G7.out, (fun d e => by cases e), (fun d e => by cases e), G8.out⟩
    case round =>
      obtain ⟨u, n0, s6, s7, rfl, rfl, hu, h6, h7, hs6, hs7, hb⟩ := hrel
      have hub : U ≤ u ∧ u ≤ U + 1 := by rcases hu with h | ⟨h, _⟩ <;> (rw [h, ← hU.out]; omega)
      have HUu := hid hu
      have H6 := hid h6
      have HB := hid hb
      have hwr : wk.heap.size + 1 < wr.heap.size := h7.lt
      have f1 := (I1.out.below hb)
      have f2 := (R1.out.below hb)
      have P1 := hid (hpc.out.below hb)
      have Q1 := hid (hqc.out.below hb)
      clear hu
      -- top = p; q = r.Q
      have A0 := f1.c0
      have A1 := f1.c1
      have A2 := f2.c2
      have A3 := f2.c3
      have B0 := h7.c0
      have B1 := h7.c1
      have B2 := h7.fr 0
      have B3 := h7.fr 1
      have A4 := (f2.alloc (.cells #[.bool false, .slice pa lp pc] 85)).c2
      have A5 := (f2.alloc (.cells #[.bool false, .slice pa lp pc] 85)).c3
      have h7a := h7.alloc (.cells #[.bool false, .slice pa lp pc] 85)
      have B4 := h7a.c0
      have B5 := h7a.c1
      have B6 := h7a.fr 0
      have B7 := h7a.fr 1
      go_upto_region 9 with (fail)
      have K7 := (h7.set (.bool false) (.slice qa lq qc)).alloc (.cells #[.bool false, .slice pa lp pc] 85)
      have K8 := IntB.new ((wr.setCell ⟨wk.heap.size + 1, 0, none⟩ (.bool false)).setCell ⟨wk.heap.size + 1, 1, none⟩ (.slice qa lq qc)) (.bool false) (.slice pa lp pc)
      have hzs : ((wr.setCell ⟨wk.heap.size + 1, 0, none⟩ (.bool false)).setCell ⟨wk.heap.size + 1, 1, none⟩ (.slice qa lq qc)).heap.size = wr.heap.size := by simp [World.setCell]
      rw [hzs] at K8
      have K6 := (h6.oth (show wk.heap.size ≠ wk.heap.size + 1 by omega) (.bool false) (.slice qa lq qc)).alloc (.cells #[.bool false, .slice pa lp pc] 85)
      have KB := (below_set2i hb (show wk.heap.size ≤ wk.heap.size + 1 by omega) (.bool false) (.slice qa lq qc)).alloc (by rw [hzs]; omega) (.cells #[.bool false, .slice pa lp pc] 85)
      obtain ⟨W8, hW8⟩ : ∃ W8, W8 = ((wr.setCell ⟨wk.heap.size + 1, 0, none⟩ (.bool false)).setCell ⟨wk.heap.size + 1, 1, none⟩ (.slice qa lq qc)).alloc (.cells #[.bool false, .slice pa lp pc] 85) := ⟨_, rfl⟩
      rw [← hW8] at K6 K7 K8 KB ⊢
      clear hW8 hzs A0 A1 A2 A3 A4 A5 B0 B1 B2 B3 B4 B5 B6 B7 h6 h7 hb f1 f2 P1 Q1 h7a
      have KP := hpc.out.below KB
      have KQ := hqc.out.below KB
      have L1 := I1.out.below KB
      have L2 := R1.out.below KB
      obtain ⟨b8, hb8⟩ : ∃ b8, b8 = wr.heap.size := ⟨_, rfl⟩
      rw [← hb8] at K8 hwr ⊢
      replace hb8 := hid hb8
      have A0 := L1.c0
      have A1 := L1.c1
      have A2 := L2.c2
      have A3 := L2.c3
      obtain ⟨T, hT⟩ : ∃ T, T = nearT p u := ⟨_, rfl⟩
      obtain ⟨Q', hQ'⟩ : ∃ Q', Q' = nearQ q u := ⟨_, rfl⟩
      replace hT := hid hT
      replace hQ' := hid hQ'
      by_cases hneg : u < 0
      · obtain ⟨v, hv⟩ : ∃ v : Nat, -u = (v : Int) := ⟨(-u).toNat, by omega⟩
        have hv2 : IntKind.i64.wrap (v : Int) = (v : Int) := IntWalk.i64_in _ (by omega)
        have hvb : v ≤ 1074 := by omega
        have eT : p * 2 ^ v = T := by rw [hT.out, nearT, if_pos hneg, show (-u).toNat = v by omega]
        have eQ : Q' = q := by rw [hQ'.out, nearQ, if_pos hneg]
        have HUp := hid (wUp_any W8 false (.slice pa lp pc) p v KP (by have := hlp.out; omega) (by omega))
        rw [eT] at HUp
        replace eT := hid eT
        replace eQ := hid eQ
        go_upto_region 12 with (go_at_call 72; (with_reducible refine HUp.out.mono ?_); rintro E9 w9 ⟨tv, rfl, ht, hb9⟩; obtain ⟨ta, tc, rfl⟩ := ht.sl; have M8 := K8.below hb9; have m0 := M8.c0; have m1 := M8.c1; have m2 := M8.fr 0; have m3 := M8.fr 1)
        have N7 := (K7.below hb9).oth (show wk.heap.size + 1 ≠ b8 by omega) (.bool false) (.slice ta (wds T).length tc)
        have N6 := (K6.below hb9).oth (show wk.heap.size ≠ b8 by omega) (.bool false) (.slice ta (wds T).length tc)
        have NQ := Wn.set2 (KQ.below hb9) M8 (fun d e => by cases e) (fun d e => by cases e) false (.slice ta (wds T).length tc)
        have N8 := M8.set (.bool false) (.slice ta (wds T).length tc)
        have NT := Wn.set2 ht M8 (fun d e => by cases e) (fun d e => by cases e) false (.slice ta (wds T).length tc)
        have NB := below_set2i (KB.trans (hb9.mono KB.size)) (show wk.heap.size ≤ b8 by omega) (.bool false) (.slice ta (wds T).length tc)
        obtain ⟨wx, hwx⟩ : ∃ wx, wx = (w9.setCell ⟨b8, 0, none⟩ (.bool false)).setCell ⟨b8, 1, none⟩ (.slice ta (wds T).length tc) := ⟨_, rfl⟩
        obtain ⟨lt, hlt⟩ : ∃ n, n = (wds T).length := ⟨_, rfl⟩
        rw [← hlt] at hwx N7 N6 NQ N8 NT NB ⊢
        rw [← hwx] at N7 N6 NQ N8 NT NB ⊢
        replace hlt := hid hlt
        have hlq2 := hid (show lq = (wds Q').length by rw [eQ.out]; exact hlq.out)
        rw [← eQ.out] at NQ
        clear hwx m0 m1 m2 m3 M8 ht hb9 HUp K6 K7 K8 KP KQ KB L1 L2 A0 A1 A2 A3
        obtain ⟨qb, hqb⟩ : ∃ qb, qb = qa := ⟨_, rfl⟩
        obtain ⟨qd, hqd⟩ : ∃ qd, qd = qc := ⟨_, rfl⟩
        obtain ⟨lr, hlr⟩ : ∃ lr, lr = lq := ⟨_, rfl⟩
        rw [← hqb, ← hqd, ← hlr] at N7 NQ
        replace hlr := hid hlr
        replace hqb := hid hqb
        replace hqd := hid hqd
        have hlr2 := hid (show lr = (wds Q').length by rw [hlr.out]; exact hlq2.out)
        clear hlq2
        have hTl : (wds T).length ≤ 3000 := by rw [hT.out]; exact nearT_len (by have := hlp.out; omega) (by omega)
        have hQl : (wds Q').length ≤ 3000 := by rw [hQ'.out]; exact nearQ_len (by have := hlq.out; omega) (by omega)
        have hQ0 : 0 < Q' := by rw [hQ'.out]; exact nearQ_pos hq0 u
        obtain ⟨hr54, hrK, hrN⟩ := near_round hp0 hq0 HUu.out
        rw [← hT.out, ← hQ'.out] at hr54 hrK hrN
        have HDv := hid (wDivide_any wx _ _ T Q' NT NQ hTl hQl hQ0 (by omega))
        obtain ⟨n, hn⟩ : ∃ n, n = T / Q' := ⟨_, rfl⟩
        obtain ⟨R, hR⟩ : ∃ R, R = T % Q' := ⟨_, rfl⟩
        rw [← hn, ← hR] at HDv
        rw [← hn] at hr54 hrK hrN
        replace hn := hid hn
        have hRl : (wds R).length ≤ 3000 := by
          have h1 : R ≤ T := by rw [hR]; exact Nat.mod_le _ _
          exact Nat.le_trans (wds_len_le h1) hTl
        replace hR := hid hR
        have D0 := N8.c0
        have D1 := N8.c1
        have D2 := N7.c0
        have D3 := N7.c1
        by_cases h53 : n < 9007199254740992
        · have hK := hid (hrK h53)
          clear hrK hrN
          have g53 : (n : Int) < 9007199254740992 := by omega
          go_upto_region 15 with (go_at_call 75; (with_reducible refine HDv.out.mono ?_); rintro E10 w10 ⟨v10, rfl, hv10, hb10⟩; obtain ⟨ra, rc, rfl⟩ := hv10.sl; have M6 := N6.below hb10; have m0 := M6.c0; have m1 := M6.c1; have m2 := M6.fr 0; have m3 := M6.fr 1)
          have M7 := (N7.below hb10).oth (show wk.heap.size + 1 ≠ wk.heap.size by omega) (.bool false) (.slice ra (wds R).length rc)
          have V10 := Wn.set2 hv10 M6 (fun d e => by cases e) hs6 false (.slice ra (wds R).length rc)
          have VQ := Wn.set2 (NQ.below hb10) M6 (fun d e => by cases e) hs6 false (.slice ra (wds R).length rc)
          have V6 := M6.set (.bool false) (.slice ra (wds R).length rc)
          have VB := below_set2i (NB.trans (hb10.mono NB.size)) (Nat.le_refl _) (.bool false) (.slice ra (wds R).length rc)
          obtain ⟨w11, hw11⟩ : ∃ w11, w11 = (w10.setCell ⟨wk.heap.size, 0, none⟩ (.bool false)).setCell ⟨wk.heap.size, 1, none⟩ (.slice ra (wds R).length rc) := ⟨_, rfl⟩
          obtain ⟨lR, hlR⟩ : ∃ n, n = (wds R).length := ⟨_, rfl⟩
          rw [← hlR] at hw11 M7 V10 VQ V6 VB ⊢
          rw [← hw11] at M7 V10 VQ V6 VB ⊢
          replace hlR := hid hlR
          clear hw11 m0 m1 m2 m3 M6 hb10 N6 N7 N8 NQ NT NB HDv hv10 D0 D1 D2 D3
          have HU1 := hid fun w' (h : Below w11.heap.size w11 w') => (show Calls Tryz.prog 72 #[.agg #[.bool false, .slice ra lR rc], .int .i64 1] w' (RetI w' false (R * 2 ^ 1)) from wUp_any w' false (.slice ra lR rc) R 1 (V10.below h) (by omega) (by omega))
          have HC := hid fun (w' : World) (v : Value) (hv : Wn w' v (R * 2 ^ 1)) (h : Below w11.heap.size w11 w') => wcompare_any w' v (.slice qb lr qd) (R * 2 ^ 1) Q' hv (VQ.below h) (by have := wds_shl R 1 3000 hRl; omega) (by omega)
          obtain ⟨C, hC⟩ : ∃ C, C = cmpN (R * 2 ^ 1) Q' := ⟨_, rfl⟩
          rw [← hC] at HC
          replace hC := hid hC
          have D0 := V6.c0
          have D1 := V6.c1
          have D3 := M7.c1
          go_cut [9] from 51 to 56 (fun x wx => x = .int .i64 C ∧ Below w11.heap.size w11 wx)
          case first =>
            go_region_law (go_simp; first
              | (go_at_call 72; (with_reducible refine (HU1.out _ (by (repeat (first | with_reducible exact Below.refl _ _ | with_reducible refine bla _ ?_ | with_reducible refine bld ?_ | with_reducible refine bldn ?_ _ | (with_reducible refine bl2 ?_ (by assumption)))))).mono ?_); rintro E12 w12 ⟨u12, rfl, hu12, hb12⟩; obtain ⟨ya, yc, rfl⟩ := hu12.sl; have k7 := M7.below (w' := w12) (by (repeat (first | with_reducible exact Below.refl _ _ | with_reducible refine bla _ ?_ | with_reducible refine bld ?_ | with_reducible refine bldn ?_ _ | (with_reducible refine bl2 ?_ (by assumption))))); have e1 := k7.c1)
              | (go_at_call 76; (with_reducible refine (HC.out _ _ (hu12.below (by (repeat (first | with_reducible exact Below.refl _ _ | with_reducible refine bla _ ?_ | with_reducible refine bld ?_ | with_reducible refine bldn ?_ _ | (with_reducible refine bl2 ?_ (by assumption)))))) (by (repeat (first | with_reducible exact Below.refl _ _ | with_reducible refine bla _ ?_ | with_reducible refine bld ?_ | with_reducible refine bldn ?_ _ | (with_reducible refine bl2 ?_ (by assumption)))))).mono ?_); rintro E13 w13 ⟨rfl, n13, rfl⟩))
            all_goals
              go_wp2
              go_meet
              exact ⟨rfl, by (repeat (first | with_reducible exact Below.refl _ _ | with_reducible refine bla _ ?_ | with_reducible refine bld ?_ | with_reducible refine bldn ?_ _ | (with_reducible refine bl2 ?_ (by assumption))))⟩
          obtain ⟨rfl, hbd⟩ := hcut
          clear D0 D1 D3 HU1 HC V10 VQ V6 M7
          have hbw : Below wk.heap.size wk wc := VB.trans (hbd.mono VB.size)
          have hbf : Below w.heap.size w wc := bl2 bwc hbw
          have S2 := (R1.out.below hbw).c0
          have hone : ∀ N, nearN p q = N → N ≤ 9007199254740992 → Calls Tryz.prog 77 #[.float .f64 (floatOfInt .f64 (N : Int)), .int .i64 u] wc (RetF wc (some (nearW p q))) := by
            intro N hN hNb
            have h1 := near_52 hp0 hq0
            have hb1 := nearK_b p q
            have hb2 := nearU_b p q
            rw [hK.out, ← hT.out, ← hQ'.out, ← hn.out] at h1
            have hNn : n ≤ N := by
              rw [← hN, nearN_eq hK.out, ← hT.out, ← hQ'.out, ← hn.out]
              exact Nat.le_add_right _ _
            have h2 := Ldexp_any N u hNb (by omega) (by omega) (by
              by_cases h3 : u = -1074
              · exact .inl h3
              · exact .inr (Nat.le_trans (h1 h3) hNn)) wc
            unfold nearW
            rw [if_neg hp0, hN, hK.out]
            exact h2
          have hN1 := nearN_eq hK.out
          rw [← hT.out, ← hQ'.out, ← hn.out, ← hR.out] at hN1
          have HONE := hid hone
          have HN1 := hid hN1
          clear hone hN1
          rcases Nat.lt_trichotomy (R * 2 ^ 1) Q' with hc | hc | hc
          · have hC1 : C = -1 := by rw [hC.out]; exact cmp_lt0 hc
            have HL := hid (HONE.out n (by rw [HN1.out, if_neg (by omega)]; rfl) (by omega))
            subst hC1
            replace hc := hid hc
            go_wp2_with (go_at_call 77; (with_reducible refine HL.out.mono ?_); rintro E14 w14 ⟨x, rfl, ⟨nx, rfl⟩, hx, hxw⟩)
            go_ret
            exact ⟨x, rfl, hx, hxw, bldn hbf _⟩
          · have hC1 : C = 0 := by rw [hC.out, hc]; unfold cmpN; rw [if_neg (Nat.lt_irrefl _), if_neg (Nat.lt_irrefl _)]
            subst hC1
            have hand := and1_mod n (by omega)
            by_cases hodd : n % 2 = 1
            · obtain ⟨m, hm⟩ : ∃ m, m = n + 1 := ⟨_, rfl⟩
              have gm : (n : Int) + 1 = (m : Int) := by omega
              have HL := hid (HONE.out m (by rw [HN1.out, if_pos (.inr ⟨hc, hodd⟩), hm]) (by omega))
              rw [hodd] at hand
              replace hc := hid hc
              replace hm := hid hm
              clear hodd
              go_wp2_with (go_at_call 77; (with_reducible refine HL.out.mono ?_); rintro E14 w14 ⟨x, rfl, ⟨nx, rfl⟩, hx, hxw⟩)
              go_ret
              exact ⟨x, rfl, hx, hxw, bldn hbf _⟩
            · have h0 : n % 2 = 0 := by omega
              have HL := hid (HONE.out n (by rw [HN1.out, if_neg (by omega)]; rfl) (by omega))
              rw [h0] at hand
              replace hc := hid hc
              clear hodd h0
              go_wp2_with (go_at_call 77; (with_reducible refine HL.out.mono ?_); rintro E14 w14 ⟨x, rfl, ⟨nx, rfl⟩, hx, hxw⟩)
              go_ret
              exact ⟨x, rfl, hx, hxw, bldn hbf _⟩
          · have hC1 : C = 1 := by rw [hC.out]; unfold cmpN; rw [if_neg (by omega), if_pos hc]
            subst hC1
            obtain ⟨m, hm⟩ : ∃ m, m = n + 1 := ⟨_, rfl⟩
            have gm : (n : Int) + 1 = (m : Int) := by omega
            have HL := hid (HONE.out m (by rw [HN1.out, if_pos (.inl hc), hm]) (by omega))
            replace hc := hid hc
            replace hm := hid hm
            go_wp2_with (go_at_call 77; (with_reducible refine HL.out.mono ?_); rintro E14 w14 ⟨x, rfl, ⟨nx, rfl⟩, hx, hxw⟩)
            go_ret
            exact ⟨x, rfl, hx, hxw, bldn hbf _⟩
        · have hun := hrN h53
          have g53 : ((n : Int) < 9007199254740992) = False := eq_false (by omega)
          have HUN := hid hun
          have HNN := hid h53
          clear hun hrN hrK h53
          go_upto_region 13 with (go_at_call 75; (with_reducible refine HDv.out.mono ?_); rintro E10 w10 ⟨v10, rfl, hv10, hb10⟩; obtain ⟨ra, rc, rfl⟩ := hv10.sl; have M6 := N6.below hb10; have m0 := M6.c0; have m1 := M6.c1; have m2 := M6.fr 0; have m3 := M6.fr 1)
          go_wp2
          go_roundw
          case rel => exact ⟨u + 1, n, _, _, by go_num, rfl, .inr ⟨by rw [HUN.out], by rw [← HUN.out, ← hT.out, ← hQ'.out, ← hn.out]; exact HNN.out⟩, M6.set _ _, (N7.below hb10).oth (show wk.heap.size + 1 ≠ wk.heap.size by omega) _ _, (fun d e => by cases e), (fun d e => by cases e), below_set2i (NB.trans (hb10.mono NB.size)) (Nat.le_refl _) _ _⟩
          case measure => have := HUN.out; have := hU.out; simp [intOf]; omega
      · obtain ⟨v, hv⟩ : ∃ v : Nat, u = (v : Int) := ⟨u.toNat, by omega⟩
        have hvb : v ≤ 35202 := by omega
        have eT : T = p := by rw [hT.out, nearT, if_neg hneg]
        have eQ : q * 2 ^ v = Q' := by rw [hQ'.out, nearQ, if_neg hneg, show u.toNat = v by omega]
        have HUp := hid (wUp_any W8 false (.slice qa lq qc) q v KQ (by have := hlq.out; omega) (by omega))
        rw [eQ, ← hv] at HUp
        replace eT := hid eT
        replace eQ := hid eQ
        replace hv := hid hv
        go_upto_region 12 with (go_at_call 72; (with_reducible refine HUp.out.mono ?_); rintro E9 w9 ⟨tv, rfl, ht, hb9⟩; obtain ⟨qb, qd, rfl⟩ := ht.sl; have M7 := K7.below hb9; have m0 := M7.c0; have m1 := M7.c1; have m2 := M7.fr 0; have m3 := M7.fr 1)
        have N8 := (K8.below hb9).oth (show b8 ≠ wk.heap.size + 1 by omega) (.bool false) (.slice qb (wds Q').length qd)
        have N6 := (K6.below hb9).oth (show wk.heap.size ≠ wk.heap.size + 1 by omega) (.bool false) (.slice qb (wds Q').length qd)
        have NT := Wn.set2 (KP.below hb9) M7 (fun d e => by cases e) (fun d e => by cases e) false (.slice qb (wds Q').length qd)
        have N7 := M7.set (.bool false) (.slice qb (wds Q').length qd)
        have NQ := Wn.set2 ht M7 (fun d e => by cases e) (fun d e => by cases e) false (.slice qb (wds Q').length qd)
        have NB := below_set2i (KB.trans (hb9.mono KB.size)) (show wk.heap.size ≤ wk.heap.size + 1 by omega) (.bool false) (.slice qb (wds Q').length qd)
        obtain ⟨wx, hwx⟩ : ∃ wx, wx = (w9.setCell ⟨wk.heap.size + 1, 0, none⟩ (.bool false)).setCell ⟨wk.heap.size + 1, 1, none⟩ (.slice qb (wds Q').length qd) := ⟨_, rfl⟩
        obtain ⟨lr, hlr2⟩ : ∃ n, n = (wds Q').length := ⟨_, rfl⟩
        rw [← hlr2] at hwx N7 N6 NQ N8 NT NB ⊢
        rw [← hwx] at N7 N6 NQ N8 NT NB ⊢
        replace hlr2 := hid hlr2
        have hlt := hid (show lp = (wds T).length by rw [eT.out]; exact hlp.out)
        rw [← eT.out] at NT
        clear hwx m0 m1 m2 m3 M7 ht hb9 HUp K6 K7 K8 KP KQ KB L1 L2 A0 A1 A2 A3
        obtain ⟨ta, hta⟩ : ∃ ta, ta = pa := ⟨_, rfl⟩
        obtain ⟨tc, htc⟩ : ∃ tc, tc = pc := ⟨_, rfl⟩
        obtain ⟨lt, hlt0⟩ : ∃ lt, lt = lp := ⟨_, rfl⟩
        rw [← hta, ← htc, ← hlt0] at N8 NT
        rw [← hlt0] at hlt
        replace hta := hid hta
        replace htc := hid htc
        replace hlt0 := hid hlt0
        have hTl : (wds T).length ≤ 3000 := by rw [hT.out]; exact nearT_len (by have := hlp.out; omega) (by omega)
        have hQl : (wds Q').length ≤ 3000 := by rw [hQ'.out]; exact nearQ_len (by have := hlq.out; omega) (by omega)
        have hQ0 : 0 < Q' := by rw [hQ'.out]; exact nearQ_pos hq0 u
        obtain ⟨hr54, hrK, hrN⟩ := near_round hp0 hq0 HUu.out
        rw [← hT.out, ← hQ'.out] at hr54 hrK hrN
        have HDv := hid (wDivide_any wx _ _ T Q' NT NQ hTl hQl hQ0 (by omega))
        obtain ⟨n, hn⟩ : ∃ n, n = T / Q' := ⟨_, rfl⟩
        obtain ⟨R, hR⟩ : ∃ R, R = T % Q' := ⟨_, rfl⟩
        rw [← hn, ← hR] at HDv
        rw [← hn] at hr54 hrK hrN
        replace hn := hid hn
        have hRl : (wds R).length ≤ 3000 := by
          have h1 : R ≤ T := by rw [hR]; exact Nat.mod_le _ _
          exact Nat.le_trans (wds_len_le h1) hTl
        replace hR := hid hR
        have D0 := N8.c0
        have D1 := N8.c1
        have D2 := N7.c0
        have D3 := N7.c1
        by_cases h53 : n < 9007199254740992
        · have hK := hid (hrK h53)
          clear hrK hrN
          have g53 : (n : Int) < 9007199254740992 := by omega
          go_upto_region 15 with (go_at_call 75; (with_reducible refine HDv.out.mono ?_); rintro E10 w10 ⟨v10, rfl, hv10, hb10⟩; obtain ⟨ra, rc, rfl⟩ := hv10.sl; have M6 := N6.below hb10; have m0 := M6.c0; have m1 := M6.c1; have m2 := M6.fr 0; have m3 := M6.fr 1)
          have M7 := (N7.below hb10).oth (show wk.heap.size + 1 ≠ wk.heap.size by omega) (.bool false) (.slice ra (wds R).length rc)
          have V10 := Wn.set2 hv10 M6 (fun d e => by cases e) hs6 false (.slice ra (wds R).length rc)
          have VQ := Wn.set2 (NQ.below hb10) M6 (fun d e => by cases e) hs6 false (.slice ra (wds R).length rc)
          have V6 := M6.set (.bool false) (.slice ra (wds R).length rc)
          have VB := below_set2i (NB.trans (hb10.mono NB.size)) (Nat.le_refl _) (.bool false) (.slice ra (wds R).length rc)
          obtain ⟨w11, hw11⟩ : ∃ w11, w11 = (w10.setCell ⟨wk.heap.size, 0, none⟩ (.bool false)).setCell ⟨wk.heap.size, 1, none⟩ (.slice ra (wds R).length rc) := ⟨_, rfl⟩
          obtain ⟨lR, hlR⟩ : ∃ n, n = (wds R).length := ⟨_, rfl⟩
          rw [← hlR] at hw11 M7 V10 VQ V6 VB ⊢
          rw [← hw11] at M7 V10 VQ V6 VB ⊢
          replace hlR := hid hlR
          clear hw11 m0 m1 m2 m3 M6 hb10 N6 N7 N8 NQ NT NB HDv hv10 D0 D1 D2 D3
          have HU1 := hid fun w' (h : Below w11.heap.size w11 w') => (show Calls Tryz.prog 72 #[.agg #[.bool false, .slice ra lR rc], .int .i64 1] w' (RetI w' false (R * 2 ^ 1)) from wUp_any w' false (.slice ra lR rc) R 1 (V10.below h) (by omega) (by omega))
          have HC := hid fun (w' : World) (v : Value) (hv : Wn w' v (R * 2 ^ 1)) (h : Below w11.heap.size w11 w') => wcompare_any w' v (.slice qb lr qd) (R * 2 ^ 1) Q' hv (VQ.below h) (by have := wds_shl R 1 3000 hRl; omega) (by omega)
          obtain ⟨C, hC⟩ : ∃ C, C = cmpN (R * 2 ^ 1) Q' := ⟨_, rfl⟩
          rw [← hC] at HC
          replace hC := hid hC
          have D0 := V6.c0
          have D1 := V6.c1
          have D3 := M7.c1
          go_cut [9] from 51 to 56 (fun x wx => x = .int .i64 C ∧ Below w11.heap.size w11 wx)
          case first =>
            go_region_law (go_simp; first
              | (go_at_call 72; (with_reducible refine (HU1.out _ (by (repeat (first | with_reducible exact Below.refl _ _ | with_reducible refine bla _ ?_ | with_reducible refine bld ?_ | with_reducible refine bldn ?_ _ | (with_reducible refine bl2 ?_ (by assumption)))))).mono ?_); rintro E12 w12 ⟨u12, rfl, hu12, hb12⟩; obtain ⟨ya, yc, rfl⟩ := hu12.sl; have k7 := M7.below (w' := w12) (by (repeat (first | with_reducible exact Below.refl _ _ | with_reducible refine bla _ ?_ | with_reducible refine bld ?_ | with_reducible refine bldn ?_ _ | (with_reducible refine bl2 ?_ (by assumption))))); have e1 := k7.c1)
              | (go_at_call 76; (with_reducible refine (HC.out _ _ (hu12.below (by (repeat (first | with_reducible exact Below.refl _ _ | with_reducible refine bla _ ?_ | with_reducible refine bld ?_ | with_reducible refine bldn ?_ _ | (with_reducible refine bl2 ?_ (by assumption)))))) (by (repeat (first | with_reducible exact Below.refl _ _ | with_reducible refine bla _ ?_ | with_reducible refine bld ?_ | with_reducible refine bldn ?_ _ | (with_reducible refine bl2 ?_ (by assumption)))))).mono ?_); rintro E13 w13 ⟨rfl, n13, rfl⟩))
            all_goals
              go_wp2
              go_meet
              exact ⟨rfl, by (repeat (first | with_reducible exact Below.refl _ _ | with_reducible refine bla _ ?_ | with_reducible refine bld ?_ | with_reducible refine bldn ?_ _ | (with_reducible refine bl2 ?_ (by assumption))))⟩
          obtain ⟨rfl, hbd⟩ := hcut
          clear D0 D1 D3 HU1 HC V10 VQ V6 M7
          have hbw : Below wk.heap.size wk wc := VB.trans (hbd.mono VB.size)
          have hbf : Below w.heap.size w wc := bl2 bwc hbw
          have S2 := (R1.out.below hbw).c0
          have hone : ∀ N, nearN p q = N → N ≤ 9007199254740992 → Calls Tryz.prog 77 #[.float .f64 (floatOfInt .f64 (N : Int)), .int .i64 u] wc (RetF wc (some (nearW p q))) := by
            intro N hN hNb
            have h1 := near_52 hp0 hq0
            have hb1 := nearK_b p q
            have hb2 := nearU_b p q
            rw [hK.out, ← hT.out, ← hQ'.out, ← hn.out] at h1
            have hNn : n ≤ N := by
              rw [← hN, nearN_eq hK.out, ← hT.out, ← hQ'.out, ← hn.out]
              exact Nat.le_add_right _ _
            have h2 := Ldexp_any N u hNb (by omega) (by omega) (by
              by_cases h3 : u = -1074
              · exact .inl h3
              · exact .inr (Nat.le_trans (h1 h3) hNn)) wc
            unfold nearW
            rw [if_neg hp0, hN, hK.out]
            exact h2
          have hN1 := nearN_eq hK.out
          rw [← hT.out, ← hQ'.out, ← hn.out, ← hR.out] at hN1
          have HONE := hid hone
          have HN1 := hid hN1
          clear hone hN1
          rcases Nat.lt_trichotomy (R * 2 ^ 1) Q' with hc | hc | hc
          · have hC1 : C = -1 := by rw [hC.out]; exact cmp_lt0 hc
            have HL := hid (HONE.out n (by rw [HN1.out, if_neg (by omega)]; rfl) (by omega))
            subst hC1
            replace hc := hid hc
            go_wp2_with (go_at_call 77; (with_reducible refine HL.out.mono ?_); rintro E14 w14 ⟨x, rfl, ⟨nx, rfl⟩, hx, hxw⟩)
            go_ret
            exact ⟨x, rfl, hx, hxw, bldn hbf _⟩
          · have hC1 : C = 0 := by rw [hC.out, hc]; unfold cmpN; rw [if_neg (Nat.lt_irrefl _), if_neg (Nat.lt_irrefl _)]
            subst hC1
            have hand := and1_mod n (by omega)
            by_cases hodd : n % 2 = 1
            · obtain ⟨m, hm⟩ : ∃ m, m = n + 1 := ⟨_, rfl⟩
              have gm : (n : Int) + 1 = (m : Int) := by omega
              have HL := hid (HONE.out m (by rw [HN1.out, if_pos (.inr ⟨hc, hodd⟩), hm]) (by omega))
              rw [hodd] at hand
              replace hc := hid hc
              replace hm := hid hm
              clear hodd
              go_wp2_with (go_at_call 77; (with_reducible refine HL.out.mono ?_); rintro E14 w14 ⟨x, rfl, ⟨nx, rfl⟩, hx, hxw⟩)
              go_ret
              exact ⟨x, rfl, hx, hxw, bldn hbf _⟩
            · have h0 : n % 2 = 0 := by omega
              have HL := hid (HONE.out n (by rw [HN1.out, if_neg (by omega)]; rfl) (by omega))
              rw [h0] at hand
              replace hc := hid hc
              clear hodd h0
              go_wp2_with (go_at_call 77; (with_reducible refine HL.out.mono ?_); rintro E14 w14 ⟨x, rfl, ⟨nx, rfl⟩, hx, hxw⟩)
              go_ret
              exact ⟨x, rfl, hx, hxw, bldn hbf _⟩
          · have hC1 : C = 1 := by rw [hC.out]; unfold cmpN; rw [if_neg (by omega), if_pos hc]
            subst hC1
            obtain ⟨m, hm⟩ : ∃ m, m = n + 1 := ⟨_, rfl⟩
            have gm : (n : Int) + 1 = (m : Int) := by omega
            have HL := hid (HONE.out m (by rw [HN1.out, if_pos (.inl hc), hm]) (by omega))
            replace hc := hid hc
            replace hm := hid hm
            go_wp2_with (go_at_call 77; (with_reducible refine HL.out.mono ?_); rintro E14 w14 ⟨x, rfl, ⟨nx, rfl⟩, hx, hxw⟩)
            go_ret
            exact ⟨x, rfl, hx, hxw, bldn hbf _⟩
        · have hun := hrN h53
          have g53 : ((n : Int) < 9007199254740992) = False := eq_false (by omega)
          have HUN := hid hun
          have HNN := hid h53
          clear hun hrN hrK h53
          go_upto_region 13 with (go_at_call 75; (with_reducible refine HDv.out.mono ?_); rintro E10 w10 ⟨v10, rfl, hv10, hb10⟩; obtain ⟨ra, rc, rfl⟩ := hv10.sl; have M6 := N6.below hb10; have m0 := M6.c0; have m1 := M6.c1; have m2 := M6.fr 0; have m3 := M6.fr 1)
          go_wp2
          go_roundw
          case rel => exact ⟨u + 1, n, _, _, by go_num, rfl, .inr ⟨by rw [HUN.out], by rw [← HUN.out, ← hT.out, ← hQ'.out, ← hn.out]; exact HNN.out⟩, M6.set _ _, (N7.below hb10).oth (show wk.heap.size + 1 ≠ wk.heap.size by omega) _ _, (fun d e => by cases e), (fun d e => by cases e), below_set2i (NB.trans (hb10.mono NB.size)) (Nat.le_refl _) _ _⟩
          case measure => have := HUN.out; have := hU.out; simp [intOf]; omega
end Go.Proofs.YtfalbdlfopfgcaaGreatDoor

