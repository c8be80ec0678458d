/- internal/strconv's floatBits: the walk: the nearest word. Conditions: the decimal and the tables lie there; at most 64 digits, the point between -330 and 309. -/
import Derived.Test.YtfalbdlfopfgcaaGreatDoorSm
namespace Go.Proofs.YtfalbdlfopfgcaaGreatDoor
open Go.RowKit

theorem fb_nor {r E m W : Nat} (hr : r = min ((E - 1) * 4503599627370496 + m) 9218868437227405312) (hW : W = m % 4503599627370496 + E * 4503599627370496) (h1 : 4503599627370496 ≤ m) (h2 : m < 9007199254740992) (h3 : E ≤ 2046) (h4 : 1 ≤ E) : r = W ∧ r < 9218868437227405312 := by
  obtain ⟨k, rfl⟩ : ∃ k, E = k + 1 := ⟨E - 1, by omega⟩
  obtain ⟨y, rfl⟩ : ∃ y, m = 4503599627370496 + y := ⟨m - 4503599627370496, by omega⟩
  rw [Nat.add_sub_cancel] at hr
  have e : (4503599627370496 + y) % 4503599627370496 = y := by
    rw [Nat.add_mod_left, Nat.mod_eq_of_lt (by omega)]
  rw [e] at hW
  have hk := Nat.mul_le_mul_right 4503599627370496 (show k ≤ 2045 by omega)
  rw [Nat.succ_mul] at hW
  obtain ⟨z, hz⟩ : ∃ z, z = k * 4503599627370496 := ⟨_, rfl⟩
  rw [← hz] at hr hW hk
  clear hz
  rw [Nat.min_eq_left (by omega)] at hr
  omega
theorem fb_den {r m W : Nat} (hr : r = min ((1 - 1) * 4503599627370496 + m) 9218868437227405312) (hW : W = m % 4503599627370496 + 0 * 4503599627370496) (h1 : m < 4503599627370496) : r = W ∧ r < 9218868437227405312 := by
  rw [Nat.mod_eq_of_lt h1] at hW
  rw [Nat.sub_self, Nat.zero_mul, Nat.zero_add, Nat.min_eq_left (by omega)] at hr
  omega
theorem fb_two {r E W : Nat} (hr : r = min ((E - 1) * 4503599627370496 + 9007199254740992) 9218868437227405312) (hW : W = 4503599627370496 % 4503599627370496 + (E + 1) * 4503599627370496) (h3 : E ≤ 2045) (h4 : 1 ≤ E) : r = W ∧ r < 9218868437227405312 := by
  obtain ⟨k, rfl⟩ : ∃ k, E = k + 1 := ⟨E - 1, by omega⟩
  rw [Nat.add_sub_cancel] at hr
  rw [Nat.mod_self] at hW
  have hk := Nat.mul_le_mul_right 4503599627370496 (show k ≤ 2044 by omega)
  rw [Nat.succ_mul, Nat.succ_mul] at hW
  obtain ⟨z, hz⟩ : ∃ z, z = k * 4503599627370496 := ⟨_, rfl⟩
  rw [← hz] at hr hW hk
  clear hz
  rw [Nat.min_eq_left (by omega)] at hr
  omega
theorem fb_top {r E : Nat} (hr : r = min ((E - 1) * 4503599627370496 + 9007199254740992) 9218868437227405312) (h3 : 2046 ≤ E) : r = 9218868437227405312 := by
  obtain ⟨k, rfl⟩ : ∃ k, E = k + 1 := ⟨E - 1, by omega⟩
  rw [Nat.add_sub_cancel] at hr
  have hk := Nat.mul_le_mul_right 4503599627370496 (show 2045 ≤ k by omega)
  obtain ⟨z, hz⟩ : ∃ z, z = k * 4503599627370496 := ⟨_, rfl⟩
  rw [← hz] at hr hk
  clear hz
  rw [Nat.min_eq_right (by omega)] at hr
  exact hr
theorem fb_v0 {r W : Nat} (h : r = W) : ((sgn false + r : Nat) : Int) = (W : Int) := by
  rw [h]
  simp [sgn]
theorem fb_v1 {r W V : Nat} (h : r = W) (hV : V = 9223372036854775808 + W) : ((sgn true + r : Nat) : Int) = (V : Int) := by
  rw [h, hV]
  simp [sgn]
def FbOne (w : World) (b B pb po cb co : Nat) (t0 : List Nat) (dp0 : Int) (ng : Bool) (e : Value) (w' : World) : Prop := ∃ t dp i, e = .int .i64 ((i : Nat) : Int) ∧ DcT w' b t dp ng ∧ P1 t0 dp0 t dp i ∧ STab w' B pb po cb co ∧ w.grownBy w' (some b)
def FbOneX (w : World) (b B pb po cb co : Nat) (t0 : List Nat) (dp0 : Int) (ng : Bool) (e : Value) (w' : World) : Prop := ∃ t dp i, e = .int .i64 ((i : Nat) : Int) ∧ DcT w' b t dp ng ∧ P2 t0 dp0 t dp i 0 ∧ STab w' B pb po cb co ∧ w.grownBy w' (some b)
def FbTwo (w : World) (b B pb po cb co : Nat) (t0 : List Nat) (dp0 : Int) (ng : Bool) (e : Value) (w' : World) : Prop := ∃ (t : List Nat) (dp : Int) (i j : Nat), e = .int .i64 ((i : Int) - (j : Int)) ∧ DcT w' b t dp ng ∧ P2 t0 dp0 t dp i j ∧ STab w' B pb po cb co ∧ w.grownBy w' (some b)
def FbTwoX (w : World) (b B pb po cb co : Nat) (t0 : List Nat) (dp0 : Int) (ng : Bool) (e : Value) (w' : World) : Prop := ∃ (t : List Nat) (dp : Int) (i j : Nat), e = .int .i64 ((i : Int) - (j : Int)) ∧ DcT w' b t dp ng ∧ P2 t0 dp0 t dp i j ∧ dp = 0 ∧ 5 ≤ t.getD 0 0 ∧ STab w' B pb po cb co ∧ w.grownBy w' (some b)
def FbThree (w : World) (b B pb po cb co : Nat) (t0 : List Nat) (dp0 : Int) (ng : Bool) (e : Value) (w' : World) : Prop := ∃ (t : List Nat) (dp : Int) (i j : Nat) (e' : Int), e = .int .i64 e' ∧ DcT w' b t dp ng ∧ P3 t0 dp0 t dp i j e' ∧ STab w' B pb po cb co ∧ w.grownBy w' (some b)
set_option maxRecDepth 100000 in
set_option maxHeartbeats 4000000 in
theorem floatBits_any {w : World} {b B pb po cb co : Nat} {t0 : List Nat} {dp0 : Int} {ng : Bool} (H : DcT w b t0 dp0 ng) (h0 : D0 t0 dp0) (hT : STab w B pb po cb co) (hB : B ≤ b) (r : Nat) (hr : NearM (tenV (dv t0) (dp0 - t0.length)) (tenD (dp0 - t0.length)) r) :
    Calls Tryz.prog 150 #[.pointer (some ⟨b, 0, none⟩), .pointer (some ⟨6, 0, none⟩)] w fun E w' => E = .returned (.tuple #[.int .u64 ((sgn ng + r : Nat) : Int), .bool (decide (9218868437227405312 ≤ r))]) ∧ w.grownBy w' (some b) := by
  have hr' := hid hr
  have h0' := hid h0
  have hS : Hid (FbOne w b B pb po cb co t0 dp0 ng (.int .i64 0) w) := hid ⟨t0, dp0, 0, rfl, H, P1.start h0, hT, gr_refl _ _⟩
  have d1 := h0.a
  have d2 := h0.b
  have e1 : ((t0.length : Int) == 0) = false := beq_eq_false_iff_ne.2 (by have := h0.n.pos; omega)
  have e2 : ¬ (310 : Int) < dp0 := by omega
  have e3 : ¬ dp0 < -330 := by omega
  obtain ⟨f, hD, -⟩ := H
  have cn := hD.cn
  have cp := hD.cp
  have hBB := hid hB
  clear hr h0 hD hT hB
  obtain ⟨L, hLe⟩ : ∃ L, L = t0.length := ⟨_, rfl⟩
  rw [← hLe] at cn e1
  clear hLe
  go_enter Tryz.func150, Tryz.ntmps150
  go_wp2
  refine wp_scope_on ?_
  go_upto_block 0 with (fail)
  clear cn cp e1 e2 e3
  go_cut [6] from 35 to 60 (fun e w' => FbOneX w b B pb po cb co t0 dp0 ng e w')
  case first =>
    go_wp2
    go_loopw [6] (fun e w' => FbOne w b B pb po cb co t0 dp0 ng e w') (fun e _ => (1100 - intOf e).toNat)
    case atStart => exact hS.out
    case round =>
      obtain ⟨t, dp, i, rfl, hD, hP, hT, hG⟩ := hrel
      have hD' := hid hD
      have hP' := hid hP
      have hT' := hid hT
      have hG' := hid hG
      have cp : wr.cell? ⟨b, 801, none⟩ = some (.int .i64 dp) := by
        obtain ⟨f1, h1, -⟩ := hD
        exact h1.cp
      have t9 := hT.p
      by_cases h1 : 1 ≤ dp
      · obtain ⟨P, rfl⟩ : ∃ P : Nat, dp = P := ⟨dp.toNat, by omega⟩
        have hP1 : 1 ≤ P := by omega
        have hi := (hP.top h0'.out (by omega)).1
        have hi2 := (hP.top h0'.out (by omega)).2.2
        have e1 : (0 : Int) < (P : Int) := by omega
        have hdp2 : -2000 ≤ (P : Int) ∧ (P : Int) ≤ 2000 := by omega
        by_cases h9 : 9 ≤ P
        · have e9 : (9 : Int) ≤ (P : Int) := by omega
          have hk : (2 : Nat) ^ 27 ≤ 10 ^ P := pow27 h9
          have HS : Hid (∀ n, Calls Tryz.prog 178 #[.pointer (some ⟨b, 0, none⟩), .int .i64 (-27)] (wr.drewN n) (RetRs (wr.drewN n) b t P ng 27)) := hid fun n => shift_r (hD'.out.drewN n) hP'.out.n 27 (by omega) (by omega) hdp2 (hP'.out.room h0'.out (by omega) hk)
          have hk' := hid hk
          clear hD hP hT hG hk h1 h9
          go_wp2
          go_quiet (fail)
          go_wp2_with (first
            | (go_at_call 178; (with_reducible refine (HS.out _).mono ?_); rintro E1 w9 ⟨rfl, ⟨t', dp', h1, h2, h3, h4⟩, h5⟩))
          go_roundw
          case rel =>
            exact ⟨t', dp', i + 27, by go_num, h1, hP'.out.step h0'.out (by omega) hk'.out h2 h4 (by have := frac_r h2 h3 h4; omega), (hT'.out.drewN _).gr hBB.out h5, gr_trans (gr_drewN hG'.out _) h5⟩
          case measure => simp [intOf] <;> omega
        · have e9 : ¬ (9 : Int) ≤ (P : Int) := by omega
          have e9' : (P : Int) < 9 := by omega
          have hw := powT_ok ⟨P, by omega⟩
          simp only at hw
          have td := hT.pd P (by omega)
          obtain ⟨k, hke⟩ : ∃ k, k = powT P := ⟨_, rfl⟩
          rw [← hke] at hw td
          have hk : (2 : Nat) ^ k ≤ 10 ^ P := by
            rcases hw.2.2 with h | h
            · omega
            · exact h
          have hk27 := hw.2.1
          have hk1 := hw.1
          have HS : Hid (∀ n, Calls Tryz.prog 178 #[.pointer (some ⟨b, 0, none⟩), .int .i64 (-(k : Int))] (wr.drewN n) (RetRs (wr.drewN n) b t P ng k)) := hid fun n => shift_r (hD'.out.drewN n) hP'.out.n k (by omega) (by omega) hdp2 (hP'.out.room h0'.out (by omega) hk)
          have hk' := hid hk
          clear hD hP hT hG hk h1 h9 hke hw
          go_wp2
          go_quiet (fail)
          go_wp2
          go_quiet (fail)
          go_wp2_with (first
            | (go_at_call 178; (with_reducible refine (HS.out _).mono ?_); rintro E1 w9 ⟨rfl, ⟨t', dp', h1, h2, h3, h4⟩, h5⟩))
          go_roundw
          case rel =>
            exact ⟨t', dp', i + k, by go_num, h1, hP'.out.step h0'.out (by omega) hk'.out h2 h4 (by have := frac_r h2 h3 h4; omega), (hT'.out.drewN _).gr hBB.out h5, gr_trans (gr_drewN hG'.out _) h5⟩
          case measure => simp [intOf] <;> omega
      · have e1 : ¬ (0 : Int) < dp := by omega
        clear hD hP hT hG
        go_wp2
        go_meet
        exact ⟨t, dp, i, rfl, hD'.out, hP'.out.next h0'.out (by omega), hT'.out, hG'.out⟩
  case rest =>
    obtain ⟨t1, dp1, i1, rfl, hD1, hP1, hT1, hG1⟩ := hcut
    have hS2 : Hid (FbTwo w b B pb po cb co t0 dp0 ng (.int .i64 ((i1 : Int) - ((0 : Nat) : Int))) wc) := hid ⟨t1, dp1, i1, 0, rfl, hD1, hP1, hT1, hG1⟩
    clear hD1 hP1 hT1 hG1 hS
    go_upto_block 2 with (fail)
    go_cut [6] from 61 to 102 (fun e w' => FbTwoX w b B pb po cb co t0 dp0 ng e w')
    case first =>
      go_wp2
      go_loopw [6] (fun e w' => FbTwo w b B pb po cb co t0 dp0 ng e w') (fun e _ => (intOf e + 1200).toNat)
      case atStart => exact (by have := hS2.out; rw [show ((i1 : Int) - ((0 : Nat) : Int)) = (i1 : Int) by omega] at this; exact this)
      case round =>
        obtain ⟨t, dp, i, j, rfl, hD, hP, hT, hG⟩ := hrel
        have hD' := hid hD
        have hP' := hid hP
        have hT' := hid hT
        have hG' := hid hG
        have hn := hP.n
        obtain ⟨f1, hA, hB1⟩ := hD
        have cp := hA.cp
        have cd := hA.cd (k := 0) (by omega)
        rw [hB1.get hn.pos] at cd
        have t9 := hT.p
        have hbot := hP.bot h0'.out
        have hup := hP.up
        have hI := hP.I
        have hF := hP.F
        have hpos := hn.pos
        have hchd : ∀ k : Fin 28, chD k.val ≤ 9 := by decide +kernel
        by_cases h1 : dp < 0
        · obtain ⟨P, hPe⟩ : ∃ P : Nat, (P : Int) = -dp := ⟨(-dp).toNat, by omega⟩
          have hdp2 : -2000 ≤ dp ∧ dp ≤ 2000 := by omega
          obtain rfl : dp = -(P : Int) := by omega
          have nn : -(-(P : Int)) = (P : Int) := by omega
          by_cases h9 : 9 ≤ P
          · have e9 : (9 : Int) ≤ (P : Int) := by omega
            have hk : (2 : Nat) ^ 27 ≤ 10 ^ P := pow27 h9
            have HS : Hid (∀ n, Calls Tryz.prog 178 #[.pointer (some ⟨b, 0, none⟩), .int .i64 27] (wr.drewN n) (RetLs (wr.drewN n) b t (-(P : Int)) ng 27)) := hid fun n => shift_l (hD'.out.drewN n) hn 27 (by omega) (by omega) hdp2 (by have : chD 27 ≤ 9 := hchd ⟨27, by decide⟩; omega) (hT'.out.drewN n).c
            have hst := hid fun t' dp' hn' he hf => hP'.out.step (k := 27) (t' := t') (dp' := dp') (.inl ⟨h1, by rw [nn]; exact hk⟩) hn' he hf
            clear hA hP hT hG hk h9 hB1 hn hPe hF
            go_wp2
            go_quiet (fail)
            go_wp2_with (first
              | (go_at_call 178; (with_reducible refine (HS.out _).mono ?_); rintro E1 w9 ⟨rfl, ⟨t', dp', h1, h2, h3, h4⟩, h5⟩))
            go_roundw
            case rel =>
              exact ⟨t', dp', i, j + 27, by go_num, h1, hst.out t' dp' h2 h4 (by have := frac_l h2 h3 h4; omega), (hT'.out.drewN _).gr hBB.out h5, gr_trans (gr_drewN hG'.out _) h5⟩
            case measure => simp [intOf] <;> omega
          · have e9 : ¬ (9 : Int) ≤ (P : Int) := by omega
            have e9' : (P : Int) < 9 := by omega
            have hw := powT_ok ⟨P, by omega⟩
            simp only at hw
            have td := hT.pd P (by omega)
            obtain ⟨k, hke⟩ : ∃ k, k = powT P := ⟨_, rfl⟩
            rw [← hke] at hw td
            have hk : (2 : Nat) ^ k ≤ 10 ^ P := by
              rcases hw.2.2 with h | h
              · omega
              · exact h
            have hk27 := hw.2.1
            have hk1 := hw.1
            have HS : Hid (∀ n, Calls Tryz.prog 178 #[.pointer (some ⟨b, 0, none⟩), .int .i64 (k : Int)] (wr.drewN n) (RetLs (wr.drewN n) b t (-(P : Int)) ng k)) := hid fun n => shift_l (hD'.out.drewN n) hn k (by omega) (by omega) hdp2 (by have := hchd ⟨k, by omega⟩; simp only at this; omega) (hT'.out.drewN n).c
            have hst := hid fun t' dp' hn' he hf => hP'.out.step (k := k) (t' := t') (dp' := dp') (.inl ⟨h1, by rw [nn]; exact hk⟩) hn' he hf
            clear hA hP hT hG hk h9 hB1 hn hPe hF hke hw
            go_wp2
            go_quiet (fail)
            go_wp2
            go_quiet (fail)
            go_wp2_with (first
              | (go_at_call 178; (with_reducible refine (HS.out _).mono ?_); rintro E1 w9 ⟨rfl, ⟨t', dp', h1, h2, h3, h4⟩, h5⟩))
            go_roundw
            case rel =>
              exact ⟨t', dp', i, j + k, by go_num, h1, hst.out t' dp' h2 h4 (by have := frac_l h2 h3 h4; omega), (hT'.out.drewN _).gr hBB.out h5, gr_trans (gr_drewN hG'.out _) h5⟩
            case measure => simp [intOf] <;> omega
        · obtain rfl : dp = 0 := by omega
          have e1 : ¬ (0 : Int) < 0 := by omega
          obtain ⟨c0, hc0⟩ : ∃ c0, c0 = t.getD 0 0 := ⟨_, rfl⟩
          rw [← hc0] at cd
          obtain ⟨c, hc⟩ : ∃ c, c = 48 + c0 := ⟨_, rfl⟩
          rw [← hc] at cd
          by_cases h5 : c0 < 5
          · have e5 : (c : Int) < 53 := by omega
            have td := hT.pd 0 (by omega)
            rw [show ((powT 0 : Nat) : Int) = 1 from rfl, Nat.add_zero] at td
            have HS : Hid (∀ n, Calls Tryz.prog 178 #[.pointer (some ⟨b, 0, none⟩), .int .i64 1] (wr.drewN n) (RetLs (wr.drewN n) b t 0 ng 1)) := hid fun n => shift_l (hD'.out.drewN n) hn 1 (by omega) (by omega) (by omega) (by have : chD 1 ≤ 9 := hchd ⟨1, by decide⟩; omega) (hT'.out.drewN n).c
            have hst := hid fun t' dp' hn' he hf => hP'.out.step (k := 1) (t' := t') (dp' := dp') (.inr ⟨rfl, small_dbl hn (by rw [← hc0]; exact h5)⟩) hn' he hf
            clear hA hP hT hG hB1 hn hF hc hc0 h5
            go_wp2
            go_quiet (fail)
            go_wp2
            go_quiet (fail)
            go_wp2_with (first
              | (go_at_call 178; (with_reducible refine (HS.out _).mono ?_); rintro E1 w9 ⟨rfl, ⟨t', dp', h1, h2, h3, h4⟩, h5⟩))
            go_roundw
            case rel =>
              exact ⟨t', dp', i, j + 1, by go_num, h1, hst.out t' dp' h2 h4 (by have := frac_l h2 h3 h4; omega), (hT'.out.drewN _).gr hBB.out h5, gr_trans (gr_drewN hG'.out _) h5⟩
            case measure => simp [intOf] <;> omega
          · have e5 : ¬ (c : Int) < 53 := by omega
            have h5' : Hid (5 ≤ t.getD 0 0) := hid (by omega)
            clear hA hP hT hG hB1 hn hF hc hc0 h5
            go_wp2
            go_meet
            exact ⟨t, 0, i, j, rfl, hD'.out, hP'.out, rfl, h5'.out, hT'.out, hG'.out⟩
    case rest =>
      obtain ⟨t2, dp2, i, j, rfl, hD2, hP2, rfl, h5, hT2, hG2⟩ := hcut
      have hb := hP2.bot h0'.out
      have hI := hP2.I
      have hD2' := hid hD2
      have hP2' := hid hP2
      have hT2' := hid hT2
      have hG2' := hid hG2
      have h5' := hid h5
      have x2 := hT2.i2
      have hlow := hid fun hh => hP2.low h0'.out rfl hh
      have hn2 := hid hP2.n
      clear hD2 hP2 hT2 hG2 h5
      go_upto_if 111 with (fail)
      go_cut [6] from 105 to 125 (fun e w' => FbThree w b B pb po cb co t0 dp0 ng e w')
      case first =>
        by_cases hlo : (i : Int) - (j : Int) - 1 < -1022
        · obtain ⟨k, hk⟩ : ∃ k : Nat, (k : Int) = -1022 - ((i : Int) - (j : Int) - 1) := ⟨(-1022 - ((i : Int) - (j : Int) - 1)).toNat, by omega⟩
          have hk1 : 1 ≤ k := by omega
          have hk2 : k ≤ 100 := by omega
          have hl := hlow.out hlo
          have hke : (-1022 : Int) - ((i : Int) - (j : Int) - 1) = (k : Int) := by omega
          have hk0 := hid hk
          clear hk
          have HS : Hid (Calls Tryz.prog 178 #[.pointer (some ⟨b, 0, none⟩), .int .i64 (-(k : Int))] wc (RetRs wc b t2 0 ng k)) := hid (by
            by_cases h60 : k ≤ 60
            · exact shift_r hD2'.out hn2.out k hk1 h60 (by omega) (fun _ _ _ => by omega)
            · exact shift_r2 hD2'.out hn2.out k (by omega) (by omega) (by omega) (by omega))
          go_wp2_with (first
            | (go_at_call 178; (with_reducible refine HS.out.mono ?_); rintro E1 w9 ⟨rfl, ⟨t', dp', h1, h2, h3, h4⟩, h5⟩))
          go_meet
          refine ⟨t', dp', i + k, j, -1022, ?_, h1, hP2'.out.sub h0'.out rfl (by have := hk0.out; omega) hk1 h2 h3 h4, hT2'.out.gr hBB.out h5, gr_trans hG2'.out h5⟩
          have := hk0.out
          exact congrArg (Value.int IntKind.i64) (by omega)
        · go_wp2
          go_meet
          exact ⟨t2, 0, i, j, (i : Int) - j - 1, rfl, hD2'.out, hP2'.out.last rfl h5'.out (by omega), hT2'.out, hG2'.out⟩
      case rest =>
        clear hb hI hD2' hP2' hT2' hG2' h5' x2 hlow hn2
        obtain ⟨t3, dp3, A, J, e, rfl, hD3, hP3, hT3, hG3⟩ := hcut
        have y0 := hT3.i0
        have y1 := hT3.i1
        have y2 := hT3.i2
        have b1 := hP3.lo
        have b2 := hP3.hi
        have hD3' := hid hD3
        have hP3' := hid hP3
        have hT3' := hid hT3
        have hG3' := hid hG3
        clear hD3 hP3 hT3 hG3
        by_cases hinf : 1024 ≤ e
        · have hr3 : Hid (r = 9218868437227405312) := hid (hr'.out.uniq (hP3'.out.inf hinf) (tenD_pos _) (tenD_pos _) rfl)
          have cg : wc.cell? ⟨b, 802, none⟩ = some (.bool ng) := by
            obtain ⟨f3, h1, -⟩ := hD3'.out
            exact h1.cg
          have a1 : bits .and .u64 0 4503599627370495 = 0 := by decide +kernel
          have a2 : bits .and .i64 2047 2047 = 2047 := by decide +kernel
          have a3 : bits .or .u64 0 9218868437227405312 = 9218868437227405312 := by decide +kernel
          have a4 : bits .or .u64 9218868437227405312 9223372036854775808 = 18442240474082181120 := by decide +kernel
          go_wp2
          go_quiet (fail)
          go_wp2
          go_step3
          refine ⟨_, rfl, ?_⟩
          cases ng
          · go_wp2
            go_quiet (fail)
            go_wp2
            go_step3
            go_wp2
            go_quiet (fail)
            go_wp2
            rw [Exit.noGoto_ret]
            go_ret2
            exact ⟨by rw [hr3.out]; rfl, gr_drewN hG3'.out _⟩
          · go_wp2
            go_quiet (fail)
            go_wp2
            go_step3
            go_wp2
            go_quiet (fail)
            go_wp2
            go_quiet (fail)
            go_wp2
            rw [Exit.noGoto_ret]
            go_ret2
            exact ⟨by rw [hr3.out]; rfl, gr_drewN (gr_drewN hG3'.out _) _⟩
        · have hc53 : chD 53 = 16 := by decide +kernel
          have HS : Hid (∀ n, Calls Tryz.prog 178 #[.pointer (some ⟨b, 0, none⟩), .int .i64 53] (wc.drewN n) (RetLs (wc.drewN n) b t3 dp3 ng 53)) := hid fun n => shift_l (hD3'.out.drewN n) hP3'.out.n 53 (by omega) (by omega) (by have := hP3'.out.up; have := hP3'.out.dn; omega) (by have := hP3'.out.len; omega) (hT3'.out.drewN n).c
          clear hc53
          go_wp2
          go_quiet (fail)
          go_upto_region 32 with (first
            | (go_at_call 178; (with_reducible refine (HS.out _).mono ?_); rintro E1 w9 ⟨rfl, ⟨t', dp', h1, h2, h3, h4⟩, h5⟩))
          have hT9 := (hT3'.out.drewN _).gr hBB.out h5
          have hG9 := hid (gr_trans (gr_drewN hG3'.out _) h5)
          obtain ⟨n1, n2, n3, n4, n5⟩ := hP3'.out.near h2 h3 h4
          have HR := hid (RoundedInteger_any h1 h2 ⟨n2, n1⟩)
          have hr4 := hid (hr'.out.uniq n5 (tenD_pos _) (tenD_pos _) rfl)
          have cg : w9.cell? ⟨b, 802, none⟩ = some (.bool ng) := by
            obtain ⟨f3, hh, -⟩ := h1
            exact hh.cg
          have z0 := hT9.i0
          have z1 := hT9.i1
          have z2 := hT9.i2
          obtain ⟨m, hm⟩ : ∃ m, m = rintZ t' dp' := ⟨_, rfl⟩
          rw [← hm] at n3 n4 HR hr4
          obtain ⟨E, hE⟩ : ∃ E : Nat, (E : Int) = e + 1023 := ⟨(e + 1023).toNat, by omega⟩
          rw [show (e + 1022).toNat = E - 1 by omega] at hr4
          have hE1 : 1 ≤ E := by omega
          have hE2 : E ≤ 2046 := by omega
          have n4' : E = 1 ∨ 4503599627370496 ≤ m := by omega
          obtain rfl : e = (E : Int) - 1023 := by omega
          clear hT9 hm n5 h1 h2 h3 h4 h5 HS y0 y1 y2 n1 n2 hE n4
          by_cases c53 : m = 9007199254740992
          · subst c53
            go_wp2_with (first
              | (go_at_call 179; (with_reducible refine HR.out.mono ?_); rintro E1 w10 ⟨rfl, rfl⟩))
            by_cases c46 : 2046 ≤ E
            · have hr3 : Hid (r = 9218868437227405312) := hid (fb_top hr4.out c46)
              have hG3' := hG9
              have a1 : bits .and .u64 0 4503599627370495 = 0 := by decide +kernel
              have a2 : bits .and .i64 2047 2047 = 2047 := by decide +kernel
              have a3 : bits .or .u64 0 9218868437227405312 = 9218868437227405312 := by decide +kernel
              have a4 : bits .or .u64 9218868437227405312 9223372036854775808 = 18442240474082181120 := by decide +kernel
              go_quiet (fail)
              go_wp2
              go_step3
              refine ⟨_, rfl, ?_⟩
              cases ng
              · go_wp2
                go_quiet (fail)
                go_wp2
                go_step3
                go_wp2
                go_quiet (fail)
                go_wp2
                rw [Exit.noGoto_ret]
                go_ret2
                exact ⟨by rw [hr3.out]; rfl, by first | exact hG9.out | exact gr_drewN hG9.out _ | exact gr_drewN (gr_drewN hG9.out _) _⟩
              · go_wp2
                go_quiet (fail)
                go_wp2
                go_step3
                go_wp2
                go_quiet (fail)
                go_wp2
                go_quiet (fail)
                go_wp2
                rw [Exit.noGoto_ret]
                go_ret2
                exact ⟨by rw [hr3.out]; rfl, by first | exact hG9.out | exact gr_drewN hG9.out _ | exact gr_drewN (gr_drewN hG9.out _) _⟩
            · have a0 : bits .and .u64 4503599627370496 4503599627370496 = 4503599627370496 := by decide +kernel
              obtain ⟨W, V, hW, hV, a1, a2, a3, a4⟩ := fb_bits2 (M := 4503599627370496) (E := E + 1) (by omega) (by omega)
              have hrW := fb_two hr4.out hW (by omega) (by omega)
              have hv0 := hid (fb_v0 hrW.1)
              have hv1 := hid (fb_v1 hrW.1 hV)
              have hvb : Hid (decide (9218868437227405312 ≤ r) = false) := hid (decide_eq_false (Nat.not_le.2 hrW.2))
              have a1' : bits .and .u64 4503599627370496 4503599627370495 = 0 := by decide +kernel
              rw [show ((4503599627370496 : Nat) : Int) % 4503599627370496 = 0 by decide, Int.natCast_add, show ((1 : Nat) : Int) = 1 from rfl] at a3
              rw [Int.natCast_add, show ((1 : Nat) : Int) = 1 from rfl] at a2
              have a2' : bits .and .i64 ((E : Int) - 1023 + 1 + 1023) 2047 = (E : Int) + 1 := by rw [show (E : Int) - 1023 + 1 + 1023 = (E : Int) + 1 by omega]; exact a2
              clear a2
              clear hW hV hrW a1
              go_quiet (fail)
              go_wp2
              go_step3
              refine ⟨_, rfl, ?_⟩
              cases ng
              · go_wp2
                go_quiet (fail)
                go_wp2
                rw [Exit.noGoto_ret]
                go_ret2
                exact ⟨by rw [hv0.out, hvb.out]; rfl, by first | exact hG9.out | exact gr_drewN hG9.out _ | exact gr_drewN (gr_drewN hG9.out _) _⟩
              · go_wp2
                go_quiet (fail)
                go_wp2
                go_quiet (fail)
                go_wp2
                rw [Exit.noGoto_ret]
                go_ret2
                exact ⟨by rw [hv1.out, hvb.out]; rfl, by first | exact hG9.out | exact gr_drewN hG9.out _ | exact gr_drewN (gr_drewN hG9.out _) _⟩
          · have c53' : ((m : Int) == 9007199254740992) = false := beq_eq_false_iff_ne.2 (by omega)
            by_cases c52 : 4503599627370496 ≤ m
            · have a0 : bits .and .u64 (m : Int) 4503599627370496 = 4503599627370496 := by
                have h := bits_and_u64_nat m 4503599627370496 (by omega) (by omega)
                have h2 := (bit52 0 m (.inl rfl) (by omega)).1
                rw [Nat.zero_add] at h2
                rw [h2, show m / 4503599627370496 = 1 by omega] at h
                exact h
              go_wp2_with (first
                | (go_at_call 179; (with_reducible refine HR.out.mono ?_); rintro E1 w10 ⟨rfl, rfl⟩))
              obtain ⟨W, V, hW, hV, a1, a2, a3, a4⟩ := fb_bits2 (M := m) (E := E) (by omega) (by omega)
              have hrW := fb_nor hr4.out hW c52 (by omega) (by omega) (by omega)
              have hv0 := hid (fb_v0 hrW.1)
              have hv1 := hid (fb_v1 hrW.1 hV)
              have hvb : Hid (decide (9218868437227405312 ≤ r) = false) := hid (decide_eq_false (Nat.not_le.2 hrW.2))
              clear hW hV hrW
              go_step3
              refine ⟨_, rfl, ?_⟩
              cases ng
              · go_wp2
                go_quiet (fail)
                go_wp2
                rw [Exit.noGoto_ret]
                go_ret2
                exact ⟨by rw [hv0.out, hvb.out]; rfl, by first | exact hG9.out | exact gr_drewN hG9.out _ | exact gr_drewN (gr_drewN hG9.out _) _⟩
              · go_wp2
                go_quiet (fail)
                go_wp2
                go_quiet (fail)
                go_wp2
                rw [Exit.noGoto_ret]
                go_ret2
                exact ⟨by rw [hv1.out, hvb.out]; rfl, by first | exact hG9.out | exact gr_drewN hG9.out _ | exact gr_drewN (gr_drewN hG9.out _) _⟩
            · have a0 : bits .and .u64 (m : Int) 4503599627370496 = 0 := by
                have h := bits_and_u64_nat m 4503599627370496 (by omega) (by omega)
                have h2 := (bit52 0 m (.inl rfl) (by omega)).1
                rw [Nat.zero_add] at h2
                rw [h2, show m / 4503599627370496 = 0 by omega] at h
                exact h
              obtain rfl : E = 1 := by omega
              go_wp2_with (first
                | (go_at_call 179; (with_reducible refine HR.out.mono ?_); rintro E1 w10 ⟨rfl, rfl⟩))
              obtain ⟨W, V, hW, hV, a1, a2, a3, a4⟩ := fb_bits2 (M := m) (E := 0) (by omega) (by omega)
              have hrW := fb_den hr4.out hW (Nat.not_le.1 c52)
              have hv0 := hid (fb_v0 hrW.1)
              have hv1 := hid (fb_v1 hrW.1 hV)
              have hvb : Hid (decide (9218868437227405312 ≤ r) = false) := hid (decide_eq_false (Nat.not_le.2 hrW.2))
              rw [show ((0 : Nat) : Int) * 4503599627370496 = 0 from rfl] at a3
              rw [show ((0 : Nat) : Int) = 0 from rfl] at a2
              clear hW hV hrW
              go_step3
              refine ⟨_, rfl, ?_⟩
              cases ng
              · go_wp2
                go_quiet (fail)
                go_wp2
                rw [Exit.noGoto_ret]
                go_ret2
                exact ⟨by rw [hv0.out, hvb.out]; rfl, by first | exact hG9.out | exact gr_drewN hG9.out _ | exact gr_drewN (gr_drewN hG9.out _) _⟩
              · go_wp2
                go_quiet (fail)
                go_wp2
                go_quiet (fail)
                go_wp2
                rw [Exit.noGoto_ret]
                go_ret2
                exact ⟨by rw [hv1.out, hvb.out]; rfl, by first | exact hG9.out | exact gr_drewN hG9.out _ | exact gr_drewN (gr_drewN hG9.out _) _⟩
end Go.Proofs.YtfalbdlfopfgcaaGreatDoor

