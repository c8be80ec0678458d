/- The reference's Octave, Decade, Octaves, and gain.Octaves. Condition: the tables lie there. -/
import Derived.Test.YtfalbdlfopfgcaaGreatDoorWo
import Derived.Test.YtfalbdlfopfgcaaGreatDoorDf
namespace Go.Proofs.YtfalbdlfopfgcaaGreatDoor
open Go.RowKit

theorem positive_any (x : Nat) (w : World) : Calls Tryz.prog 44 #[.float .f64 x] w (RetE w (aboveE (val x))) := by
  by_cases h : fin (val x) = true
  · by_cases h2 : flt (val 0) (val x) = true
    · rw [show aboveE (val x) = 0 from by simp [aboveE, h, h2]]
      go_enter Tryz.func44, Tryz.ntmps44
      go_wp2_with (first | (go_at_call 71; refine (FiniteReal_any _ _).mono ?_; rintro e w' ⟨rfl, n, rfl⟩))
      go_ret
      exact ⟨rfl, (by first | with_reducible exact Dr.mk _ _ | with_reducible exact Dr.refl _)⟩
    · simp only [Bool.not_eq_true] at h2
      rw [show aboveE (val x) = 2 from by simp [aboveE, h, h2]]
      go_enter Tryz.func44, Tryz.ntmps44
      go_wp2_with (first | (go_at_call 71; refine (FiniteReal_any _ _).mono ?_; rintro e w' ⟨rfl, n, rfl⟩))
      go_ret
      exact ⟨rfl, (by first | with_reducible exact Dr.mk _ _ | with_reducible exact Dr.refl _)⟩
  · simp only [Bool.not_eq_true] at h
    rw [show aboveE (val x) = 5 from by simp [aboveE, h]]
    go_enter Tryz.func44, Tryz.ntmps44
    go_wp2_with (first | (go_at_call 71; refine (FiniteReal_any _ _).mono ?_; rintro e w' ⟨rfl, n, rfl⟩))
    go_ret
    exact ⟨rfl, (by first | with_reducible exact Dr.mk _ _ | with_reducible exact Dr.refl _)⟩
theorem above_pos {x : Nat} (hx : IsW x) (h : aboveE (val x) = 0) : 0 < x ∧ x < 9218868437227405312 := by
  unfold aboveE at h
  split at h
  · rename_i hf
    split at h
    · rename_i hl
      have hfin := fin_val hx hf
      rw [hfin.val, show val 0 = some 0 by decide +kernel, flt_key isW_0 hx (by decide +kernel) hfin.nan, decide_eq_true_eq] at hl
      unfold key at hl
      rw [if_pos (by omega)] at hl
      unfold IsFin at hfin
      unfold IsW at hx
      split at hl <;> omega
    · cases h
  · cases h
theorem bitLenAux_bits : ∀ (f x : Nat), x < 2 ^ f → Lib.bitLenAux f x = bitsN x := by
  intro f
  induction f with
  | zero => intro x h; have : x = 0 := by simpa using h
            subst this; rfl
  | succ f ih =>
    intro x h
    simp only [Lib.bitLenAux]
    by_cases h0 : x = 0
    · subst h0; rw [if_pos rfl]; rfl
    · rw [if_neg h0, ih _ (by rw [Nat.pow_succ] at h; omega), bits_half (Nat.pos_of_ne_zero h0)]
      omega
theorem bitsN_mgn {x : Nat} (h0 : 0 < x) : (bitsN (mgn x) : Int) - 1 - 1074 = octK x ∨ ¬ x < 9218868437227405312 := by
  by_cases hx : x < 9218868437227405312
  · left
    unfold octK mgn
    by_cases h1 : x < 4503599627370496
    · rw [if_pos h1, if_neg (by omega)]
      have := bitLenAux_bits 64 x (by omega)
      show _ = (Lib.bitLenAux 64 x : Int) - 1075
      rw [this]
      omega
    · rw [if_neg h1, if_pos (by omega)]
      obtain ⟨q, hq⟩ : ∃ q, x / 4503599627370496 = q + 1 := ⟨x / 4503599627370496 - 1, by omega⟩
      rw [hq, Nat.add_sub_cancel]
      have hm : x % 4503599627370496 < 4503599627370496 := Nat.mod_lt _ (by decide)
      have hb : bitsN ((4503599627370496 + x % 4503599627370496) * 2 ^ q) = q + 53 := by
        have e := bits_shift q (n := (4503599627370496 + x % 4503599627370496) * 2 ^ q) (by
          have : 1 * 2 ^ q ≤ (4503599627370496 + x % 4503599627370496) * 2 ^ q := Nat.mul_le_mul_right _ (by omega)
          omega)
        rw [Nat.mul_div_cancel _ (Nat.two_pow_pos q)] at e
        rw [e, bits_shift 52 (by omega)]
        have : (4503599627370496 + x % 4503599627370496) / 2 ^ 52 = 1 := by omega
        rw [this]
        rfl
      rw [hb]
      omega
  · exact .inr hx
set_option maxRecDepth 100000 in
set_option maxHeartbeats 4000000 in
theorem rOctave_any (x : Nat) (w : World) (hx : IsW x) : Calls Tryz.prog 14 #[.float .f64 x] w fun e w' => e = .returned (.tuple #[.int .i64 (octM x), .int .i64 (aboveE (val x))]) ∧ Below w.heap.size w w' := by
  by_cases h : aboveE (val x) = 0
  · obtain ⟨h0, h1⟩ := above_pos hx h
    have hoct : (bitsN (mgn x) : Int) - 1 - 1074 = octM x := by
      rcases bitsN_mgn h0 with h2 | h2
      · rw [h2]; unfold octM; rw [if_pos h]
      · exact absurd h1 h2
    obtain ⟨K, hK⟩ : ∃ K, K = 70 := ⟨_, rfl⟩
    have hml : mgn x < 4294967296 ^ K := by
      unfold mgn
      split
      · exact Nat.lt_of_lt_of_le (show x < 4294967296 ^ 2 by omega) (Nat.pow_le_pow_right (by decide) (by omega))
      · have hm : x % 4503599627370496 < 4503599627370496 := Nat.mod_lt _ (by decide)
        calc (4503599627370496 + x % 4503599627370496) * 2 ^ (x / 4503599627370496 - 1) < 2 ^ 53 * 2 ^ (x / 4503599627370496 - 1) := Nat.mul_lt_mul_of_pos_right (by omega) (Nat.two_pow_pos _)
          _ = 2 ^ (53 + (x / 4503599627370496 - 1)) := (Nat.pow_add ..).symm
          _ ≤ 2 ^ (32 * K) := Nat.pow_le_pow_right (by decide) (by omega)
          _ = 4294967296 ^ K := by rw [Nat.pow_mul]
    have hll := wds_len _ _ hml
    rw [hK] at hll
    have hbb := bitsN_le_wds (mgn x)
    have h3 : (aboveE (val x) != 0) = false := by simp [h]
    have H := hid h
    have HR := hid (wReal_any w x (by omega))
    obtain ⟨M, hM⟩ : ∃ M, M = mgn x := ⟨_, rfl⟩
    rw [← hM] at HR hoct hll hbb
    have HB := hid fun w' v (hv : Wn w' v M) => wBits_any w' false v M hv (by omega)
    obtain ⟨k, hk⟩ : ∃ k, k = bitsN M := ⟨_, rfl⟩
    rw [← hk] at HB hoct hbb
    have hoct2 : (k : Int) - 1 - 1074 = octM x := hoct
    obtain ⟨o, ho⟩ : ∃ o, o = octM x := ⟨_, rfl⟩
    rw [← ho] at hoct2 ⊢
    have gk : (k : Int) - 1 - 1074 = o := hoct2
    have hkb : k ≤ 32 * 70 := by omega
    replace ho := hid ho
    replace hk := hid hk
    replace hM := hid hM
    have HP : Hid (∀ n, Calls Tryz.prog 46 #[.float .f64 x] (w.drewN n) (RetI w false M)) := hid fun n => (show Calls Tryz.prog 46 #[.float .f64 x] (w.drewN n) (RetI w false M) from by
      have h := wReal_any (w.drewN n) x (by omega)
      rw [← hM.out] at h
      exact h.mono fun e w' ⟨v, h1, h2, h3⟩ => ⟨v, h1, h2, (below_drewN' (Below.refl _ w) n).trans h3⟩)
    clear hoct hoct2 h h0 h1 hml hll hbb hx HR
    go_enter Tryz.func14, Tryz.ntmps14
    go_wp2_with (first
      | (go_at_call 44; refine (positive_any _ _).mono ?_; rintro e w' ⟨rfl, n, rfl⟩)
      | (go_at_call 46; (with_reducible refine (HP.out _).mono ?_); rintro E1 w2 ⟨v, rfl, hv, hb2⟩)
      | (go_at_call 45; (with_reducible refine (HB.out _ _ hv).mono ?_); rintro E1 w3 ⟨rfl, hb3⟩))
    go_ret2
    exact ⟨by rw [H.out]; rfl, bl2 hb2 hb3⟩
  · rw [show octM x = 0 from by simp [octM, h]]
    have h2 : (aboveE (val x) != 0) = true := by simp [h]
    clear h
    go_enter Tryz.func14, Tryz.ntmps14
    go_wp2_with (first | (go_at_call 44; refine (positive_any _ _).mono ?_; rintro e w' ⟨rfl, n, rfl⟩))
    go_ret2
    exact ⟨rfl, bldn (Below.refl _ _) _⟩
set_option maxRecDepth 100000 in
/-- The powers of ten of both sides are the same. -/
theorem te_near : ∀ j : Fin 632, nearW (tenP 1 ((j.val : Int) - 323)) (tenQ ((j.val : Int) - 323)) = teN j.val := by decide +kernel
set_option maxRecDepth 100000 in
theorem te_nan : ∀ j : Fin 632, nanB (teN j.val) = false := by decide +kernel
theorem teN_val {j : Nat} (h : j < 632) : val (teN j) = some (teN j) := val_some (te_nan ⟨j, h⟩)
def RdLoopD (w : World) (v : Option Nat) (kv nv : Value) (w' : World) : Prop := ∃ j : Nat, j ≤ 632 ∧ nv = .int .i64 ((j : Int) - 323) ∧ kv = .int .i64 (decN v j) ∧ Below w.heap.size w w'
theorem decN_b (v : Option Nat) : ∀ k, -324 ≤ decN v k ∧ decN v k ≤ (k : Int)
  | 0 => by unfold decN; omega
  | k + 1 => by
    have := decN_b v k
    unfold decN
    split <;> omega
set_option maxRecDepth 100000 in
set_option maxHeartbeats 4000000 in
theorem rDecade_any (x : Nat) (w : World) : Calls Tryz.prog 16 #[.float .f64 x] w fun e w' => e = .returned (.tuple #[.int .i64 (decF (val x)), .int .i64 (aboveE (val x))]) ∧ Below w.heap.size w w' := by
  by_cases h : aboveE (val x) = 0
  · have hF := hid (show decF (val x) = decN (val x) 632 by unfold decF; rw [if_pos h])
    have hA := hid h
    have h3 : (aboveE (val x) != 0) = false := by simp [h]
    have HO := hid Of_1
    clear h
    go_enter Tryz.func16, Tryz.ntmps16
    go_wp2_with (first | (go_at_call 44; refine (positive_any _ _).mono ?_; rintro e w' ⟨rfl, n, rfl⟩))
    have hb0 := hid (bldn (Below.refl _ w) n)
    go_loopw [5, 6] (fun kv nv w' => RdLoopD w (val x) kv nv w') (fun _ nv _ => (400 - intOf nv).toNat)
    case atStart => exact ⟨0, Nat.zero_le _, rfl, rfl, hb0.out⟩
    case round =>
      obtain ⟨j, hj, rfl, rfl, hb⟩ := hrel
      by_cases hj2 : j < 632
      · have g1 : (j : Int) - 323 ≤ 308 := by omega
        have hN := te_near ⟨j, hj2⟩
        dsimp only at hN
        have HT := hid fun w' v (hv : Wn w' v 1) => rTen_any w' v 1 ((j : Int) - 323) hv (by have := wds_len 1 1 (by decide); omega) (by omega) (by omega)
        obtain ⟨P, hP⟩ : ∃ P, P = tenP 1 ((j : Int) - 323) := ⟨_, rfl⟩
        obtain ⟨Q, hQ⟩ : ∃ Q, Q = tenQ ((j : Int) - 323) := ⟨_, rfl⟩
        rw [← hP, ← hQ] at HT hN
        have hPl : (wds P).length ≤ 1100 := by
          rw [hP]
          unfold tenP
          split
          · have := wds_len 1 1 (by decide); omega
          · rw [Nat.one_mul]; have := ten_len ((j : Int) - 323).toNat; omega
        have hQl : (wds Q).length ≤ 1100 := by
          rw [hQ]
          unfold tenQ
          split
          · have := ten_len (-((j : Int) - 323)).toNat; omega
          · have := wds_len 1 1 (by decide); omega
        have hQ0 : Q ≠ 0 := by
          rw [hQ]
          unfold tenQ
          split
          · exact Nat.ne_of_gt (Nat.pow_pos (by decide))
          · decide
        have HNe := hid fun w' v u (hv : Wn w' v P) (hu : Wn w' u Q) => Near_any w' v u P Q hv hu hPl hQl hQ0
        rw [hN] at HNe
        obtain ⟨tj, htj⟩ : ∃ tj, tj = teN j := ⟨_, rfl⟩
        have hu := decN_step (val x) j
        have hdb := decN_b (val x) j
        rw [← htj] at HNe hu
        obtain ⟨d, hd⟩ : ∃ d, d = decN (val x) j := ⟨_, rfl⟩
        rw [← hd] at hu hdb ⊢
        replace hP := hid hP
        replace hQ := hid hQ
        replace htj := hid htj
        replace hd := hid hd
        clear hN
        have hvt : fle (some tj) (val x) = fle (val tj) (val x) := by rw [htj.out, teN_val hj2]
        cases hle : fle (val tj) (val x) with
        | true =>
          rw [hle, if_pos rfl] at hu
          have hR := hid hu
          rw [hle] at hvt
          clear hu
          go_wp2_with (first
            | (go_at_call 50; (with_reducible refine (HO.out _).mono ?_); rintro E1 w2 ⟨v1, rfl, hv1, hb1⟩)
            | (go_at_call 49; (with_reducible refine (HT.out _ _ hv1).mono ?_); rintro E2 w3 ⟨v2, u2, rfl, hv2, hu2, hb2⟩)
            | (go_at_call 48; (with_reducible refine (HNe.out _ _ _ hv2 hu2).mono ?_); rintro E3 w4 ⟨t, rfl, ht, htw, hb3⟩))
          go_roundw
          case rel => exact ⟨j + 1, hj2, by congr 1; omega, by rw [hR.out], bl2 hb (bl2 (bl2 hb1 hb2) hb3)⟩
          case measure => simp [intOf]; omega
        | false =>
          rw [hle, if_neg (by decide)] at hu
          have hR := hid hu
          rw [hle] at hvt
          clear hu
          go_wp2_with (first
            | (go_at_call 50; (with_reducible refine (HO.out _).mono ?_); rintro E1 w2 ⟨v1, rfl, hv1, hb1⟩)
            | (go_at_call 49; (with_reducible refine (HT.out _ _ hv1).mono ?_); rintro E2 w3 ⟨v2, u2, rfl, hv2, hu2, hb2⟩)
            | (go_at_call 48; (with_reducible refine (HNe.out _ _ _ hv2 hu2).mono ?_); rintro E3 w4 ⟨t, rfl, ht, htw, hb3⟩))
          go_roundw
          case rel => exact ⟨j + 1, hj2, by congr 1; omega, by rw [hR.out, hd.out], bl2 hb (bl2 (bl2 hb1 hb2) hb3)⟩
          case measure => simp [intOf]; omega
      · obtain rfl : j = 632 := by omega
        go_wp2
        go_ret2
        exact ⟨by rw [hF.out, hA.out]; rfl, hb⟩
  · have hF := hid (show decF (val x) = 0 by unfold decF; rw [if_neg h])
    have h3 : (aboveE (val x) != 0) = true := by simp [h]
    clear h
    go_enter Tryz.func16, Tryz.ntmps16
    go_wp2_with (first | (go_at_call 44; refine (positive_any _ _).mono ?_; rintro e w' ⟨rfl, n, rfl⟩))
    go_ret2
    exact ⟨by rw [hF.out]; rfl, bldn (Below.refl _ _) _⟩
end Go.Proofs.YtfalbdlfopfgcaaGreatDoor

