/- gridworkwide.Divide, Ten; gridworkref05.Ten. Conditions: neither number stands behind a -; the divisor is not 0, the quotient below 2^64; the rows not too long. gridworkwide.Ten, gridworkref05.Ten. Conditions: the power below 20000; the number does not stand behind a -. gridworkwide.Real. Condition: the word has no sign. -/
import Derived.Test.YtfalbdlfopfgcaaGreatDoorWgM
import Derived.Deep.CutRange
import Derived.Deep.RegionLaw
import Derived.Test.YtfalbdlfopfgcaaGreatDoorOrdM
namespace Go.Proofs.YtfalbdlfopfgcaaGreatDoor
open Go.RowKit

theorem bl2 {a b c : World} (h : Below a.heap.size a b) (h2 : Below b.heap.size b c) : Below a.heap.size a c := h.trans (h2.mono h.size)
theorem bla {a b : World} (o : Obj) (h : Below a.heap.size a b) : Below a.heap.size a (b.alloc o) := h.alloc h.size o
theorem bld {a b : World} (h : Below a.heap.size a b) : Below a.heap.size a b.drew := h.drew
theorem bldn {a b : World} (h : Below a.heap.size a b) (n : Nat) : Below a.heap.size a (b.drewN n) := below_drewN' h n
theorem results_ti {fn : Func} {t p : Tmp} (h : fn.results = #[.tmp t, .cell p 85]) (tmps : Array Value) (w : World) (b : Nat) (x y : Value) (hp : tmps.getD p undef = .pointer (some ⟨b, 0, none⟩)) (c0 : w.cell? ⟨b, 0, none⟩ = some x) (c1 : w.cell? ⟨b, 1, none⟩ = some y) : (results fn tmps).run Tryz.prog w = .ok (.tuple #[tmps.getD t undef, .agg #[x, y]]) w := by
  simp only [Array.getD_eq_getD_getElem?] at hp ⊢
  simp [results, h, hp, go_sem, c0, c1, Sem.run_bind, Result.andThen]
@[go_sem high] theorem run_field1 (b : Bool) (a : Option Addr) (n c : Nat) (w : World) : (Instr.field 85 (.agg #[.bool b, .slice a n c]) 1).run Tryz.prog w = .ok (.slice a n c) w := by kernel_rfl
/-- Three boxes laid one behind the other. -/
theorem box3 (w : World) (x0 y0 x1 y1 x2 y2 : Value) : ∃ w1, w1 = ((w.alloc (.cells #[x0, y0] 85)).alloc (.cells #[x1, y1] 85)).alloc (.cells #[x2, y2] 85) ∧ w1.heap.size = w.heap.size + 1 + 1 + 1 ∧ Below w.heap.size w w1 ∧ IntB w1 w.heap.size x0 y0 ∧ IntB w1 (w.heap.size + 1) x1 y1 ∧ IntB w1 (w.heap.size + 1 + 1) x2 y2 := by
  refine ⟨_, rfl, by simp, bla _ (bla _ (bla _ (Below.refl _ w))), ((IntB.new w _ _).alloc _).alloc _, ?_, ?_⟩
  · have := IntB.new (w.alloc (.cells #[x0, y0] 85)) x1 y1
    rw [World.size_alloc] at this
    exact this.alloc _
  · have := IntB.new ((w.alloc (.cells #[x0, y0] 85)).alloc (.cells #[x1, y1] 85)) x2 y2
    rw [World.size_alloc, World.size_alloc] at this
    exact this
theorem cmp_lt0 {a b : Nat} (h : a < b) : cmpN a b = -1 := by unfold cmpN; rw [if_pos h]
theorem cmp_ge0 {a b : Nat} (h : b ≤ a) : 0 ≤ cmpN a b ∧ cmpN a b ≤ 1 := by unfold cmpN; rw [if_neg (by omega)]; split <;> omega
theorem dv_yes {a b o r j : Nat} (h : a = o * 2 ^ (j + 1) * b + r) (hr : r < 2 ^ (j + 1) * b) (ht : b * 2 ^ j ≤ r) : a = (2 * o + 1) * 2 ^ j * b + (r - b * 2 ^ j) ∧ r - b * 2 ^ j < 2 ^ j * b := by
  rw [Nat.pow_succ] at h hr
  have e1 : o * (2 ^ j * 2) * b = 2 * o * (2 ^ j * b) := by rw [Nat.mul_comm (2 ^ j) 2, ← Nat.mul_assoc, Nat.mul_comm o 2, Nat.mul_assoc]
  have e2 : (2 * o + 1) * 2 ^ j * b = 2 * o * (2 ^ j * b) + 2 ^ j * b := by rw [Nat.mul_assoc, Nat.add_mul, Nat.one_mul]
  have e3 : 2 ^ j * 2 * b = 2 * (2 ^ j * b) := by rw [Nat.mul_comm (2 ^ j) 2, Nat.mul_assoc]
  rw [Nat.mul_comm b] at ht ⊢
  rw [e2]
  rw [e1] at h
  rw [e3] at hr
  omega
theorem dv_no {a b o r j : Nat} (h : a = o * 2 ^ (j + 1) * b + r) (ht : r < b * 2 ^ j) : a = 2 * o * 2 ^ j * b + r ∧ r < 2 ^ j * b := by
  rw [Nat.pow_succ] at h
  have e1 : o * (2 ^ j * 2) * b = 2 * o * (2 ^ j * b) := by rw [Nat.mul_comm (2 ^ j) 2, ← Nat.mul_assoc, Nat.mul_comm o 2, Nat.mul_assoc]
  rw [Nat.mul_comm b] at ht
  rw [e1] at h
  rw [Nat.mul_assoc (2 * o)]
  exact ⟨h, ht⟩
theorem dv_o {a b o r j : Nat} (h : a = o * 2 ^ j * b + r) (hb : 0 < b) (hq : a / b < 18446744073709551616) : o * 2 ^ j < 18446744073709551616 := by
  refine Nat.lt_of_le_of_lt ?_ hq
  rw [Nat.le_div_iff_mul_le hb]
  omega
/-- What is left to be done: j bits of the quotient. -/
def DvLoop (w1 : World) (B a b J : Nat) (kv ov rv tv : Value) (w' : World) : Prop := ∃ j o r : Nat, kv = .int .i64 ((j : Int) - 1) ∧ ov = .int .u64 (o : Int) ∧ j ≤ J ∧ a = o * 2 ^ j * b + r ∧ r < 2 ^ j * b ∧ Wn w' rv r ∧ Wn w' tv (b * 2 ^ j / 2) ∧ Below B w1 w'
set_option maxRecDepth 100000 in
set_option maxHeartbeats 4000000 in
theorem wDivide_any (w : World) (va vb : Value) (a b : Nat) (ha : Wn w va a) (hb : Wn w vb b) (hal : (wds a).length ≤ 3000) (hbl : (wds b).length ≤ 3000) (hb0 : 0 < b) (hq : a / b < 18446744073709551616) : Calls Tryz.prog 75 #[.agg #[.bool false, va], .agg #[.bool false, vb]] w fun E w' => ∃ v, E = .returned (.tuple #[.int .u64 ((a / b : Nat) : Int), .agg #[.bool false, v]]) ∧ Wn w' v (a % b) ∧ Below w.heap.size w w' := by
  obtain ⟨aa, ca, rfl⟩ := ha.sl
  obtain ⟨ab, cb, rfl⟩ := hb.sl
  obtain ⟨la, hla⟩ : ∃ n, n = (wds a).length := ⟨_, rfl⟩
  obtain ⟨lb, hlb⟩ : ∃ n, n = (wds b).length := ⟨_, rfl⟩
  rw [← hla] at ha hal ⊢
  rw [← hlb] at hb hbl ⊢
  replace hla := hid hla
  replace hlb := hid hlb
  obtain ⟨w1, hw1, z1, b1, i0, i1, i2⟩ := box3 w (.bool false) (.slice aa la ca) (.bool false) (.slice ab lb cb) (.bool false) (.slice none 0 0)
  have ha1 := ha.below b1
  have hb1 := hb.below b1
  have HBa := hid fun w' (h : Below w1.heap.size w1 w') => wBits_any w' false _ a (ha1.below h) (by have := hla.out; omega)
  have HBb := hid fun w' (h : Below w1.heap.size w1 w') => wBits_any w' false _ b (hb1.below h) (by have := hlb.out; omega)
  obtain ⟨ka, hka⟩ : ∃ k, k = bitsN a := ⟨_, rfl⟩
  obtain ⟨kb, hkb⟩ : ∃ k, k = bitsN b := ⟨_, rfl⟩
  rw [← hka] at HBa
  rw [← hkb] at HBb
  have hka2 : ka ≤ 1600000 := by have := bitsN_le_wds a; have := hla.out; omega
  have hkb2 : kb ≤ 1600000 := by have := bitsN_le_wds b; have := hlb.out; omega
  replace hka := hid hka
  replace hkb := hid hkb
  have a0 := i0.c0
  have a1 := i0.c1
  have a2 := i1.c0
  have a3 := i1.c1
  go_enter Tryz.func75, Tryz.ntmps75
  go_upto_region 1 with (fail)
  rw [← hw1]
  have I0 := hid i0
  have I1 := hid i1
  have I2 := hid i2
  clear i0 i1 i2 hw1
  obtain ⟨kd, hkd⟩ : ∃ kd : Int, kd = (ka : Int) - (kb : Int) := ⟨_, rfl⟩
  have gk : (ka : Int) - (kb : Int) = kd := by omega
  have gw : IntKind.i64.wrap kd = kd := IntWalk.i64_in _ (by omega)
  replace hkd := hid hkd
  go_cut [6] from 10 to 14 (fun x wx => x = .int .i64 kd ∧ Below w1.heap.size w1 wx)
  case first =>
    go_region_law (go_simp; go_at_call 45; first | ((with_reducible refine (HBa.out _ ?hb).mono ?_); (case hb => (repeat (first | with_reducible exact Below.refl _ _ | with_reducible refine bla _ ?_ | with_reducible refine bld ?_ | with_reducible refine bldn ?_ _ | (with_reducible refine bl2 ?_ (by assumption))))); rintro E2 w2 ⟨rfl, hb2⟩; have J0 := I0.out.below (w' := w2) (by (repeat (first | with_reducible exact Below.refl _ _ | with_reducible refine bla _ ?_ | with_reducible refine bld ?_ | with_reducible refine bldn ?_ _ | (with_reducible refine bl2 ?_ (by assumption))))); have J1 := I1.out.below (w' := w2) (by (repeat (first | with_reducible exact Below.refl _ _ | with_reducible refine bla _ ?_ | with_reducible refine bld ?_ | with_reducible refine bldn ?_ _ | (with_reducible refine bl2 ?_ (by assumption))))); have e0 := J0.c0; have e1 := J0.c1; have e2 := J1.c0; have e3 := J1.c1) | ((with_reducible refine (HBb.out _ ?hb).mono ?_); (case hb => (repeat (first | with_reducible exact Below.refl _ _ | with_reducible refine bla _ ?_ | with_reducible refine bld ?_ | with_reducible refine bldn ?_ _ | (with_reducible refine bl2 ?_ (by assumption))))); rintro E3 w3 ⟨rfl, hb3⟩; have J0 := I0.out.below (w' := w3) (by (repeat (first | with_reducible exact Below.refl _ _ | with_reducible refine bla _ ?_ | with_reducible refine bld ?_ | with_reducible refine bldn ?_ _ | (with_reducible refine bl2 ?_ (by assumption))))); have J1 := I1.out.below (w' := w3) (by (repeat (first | with_reducible exact Below.refl _ _ | with_reducible refine bla _ ?_ | with_reducible refine bld ?_ | with_reducible refine bldn ?_ _ | (with_reducible refine bl2 ?_ (by assumption))))); have d0 := J0.c0; have d1 := J0.c1; have d2 := J1.c0; have d3 := J1.c1))
    all_goals
      go_wp2
      go_meet
      exact ⟨rfl, by (repeat (first | with_reducible exact Below.refl _ _ | with_reducible refine bla _ ?_ | with_reducible refine bld ?_ | with_reducible refine bldn ?_ _ | (with_reducible refine bl2 ?_ (by assumption))))⟩
  obtain ⟨rfl, hbc⟩ := hcut
  clear a0 a1 a2 a3 HBa HBb gk
  have hBs : w.heap.size + 1 + 1 + 1 ≤ wc.heap.size := by have := hbc.size; omega
  have J0 := I0.out.below hbc
  have J1 := I1.out.below hbc
  have J2 := I2.out.below hbc
  have a0 := J0.c0
  have a1 := J0.c1
  have a2 := J1.c0
  have a3 := J1.c1
  have a4 := J2.c0
  have a5 := J2.c1
  have a6 := J2.fr 0
  have a7 := J2.fr 1
  by_cases hneg : kd < 0
  · have hlt : a < b := by
      have h1 := bits_lt a
      have h2 := bits_le (Nat.ne_of_gt hb0)
      rw [← hka.out] at h1
      rw [← hkb.out] at h2
      have h3 := Nat.pow_le_pow_right (show 0 < 2 by decide) (show ka ≤ kb - 1 by have := hkd.out; omega)
      omega
    have HD := hid (Nat.div_eq_of_lt hlt)
    have HM := hid (Nat.mod_eq_of_lt hlt)
    have J3 := J2.set (.bool false) (.slice aa la ca)
    have hfin : Wn ((wc.setCell ⟨w.heap.size + 1 + 1, 0, none⟩ (.bool false)).setCell ⟨w.heap.size + 1 + 1, 1, none⟩ (.slice aa la ca)) (.slice aa la ca) a := ha.below (below_set2i (b1.trans (hbc.mono b1.size)) (by omega) _ _)
    have hbf : Below w.heap.size w ((wc.setCell ⟨w.heap.size + 1 + 1, 0, none⟩ (.bool false)).setCell ⟨w.heap.size + 1 + 1, 1, none⟩ (.slice aa la ca)) := below_set2i (b1.trans (hbc.mono b1.size)) (by omega) _ _
    clear hlt J0 J1 J2 I0 I1 I2
    go_wp2
    go_region_law (fail)
    all_goals
      go_wp2
      refine bodyPost_ret (results_ti rfl _ _ (w.heap.size + 1 + 1) (.bool false) (.slice aa la ca) rfl J3.c0 J3.c1) rfl ?_
      exact ⟨_, by rw [HD.out]; rfl, by rw [HM.out]; exact hfin, hbf.drew⟩
  · obtain ⟨K, hK⟩ : ∃ K : Nat, kd = (K : Int) := ⟨kd.toNat, by omega⟩
    subst hK
    have hK2 : K ≤ 96000 := by have := hkd.out; have := hka.out; have := bitsN_le_wds a; have := hla.out; omega
    have hba : b * 2 ^ K < 4294967296 ^ (wds a).length := by
      have h1 := bits_lt b
      have h2 := bitsN_le_wds a
      calc b * 2 ^ K < 2 ^ bitsN b * 2 ^ K := Nat.mul_lt_mul_of_pos_right h1 (Nat.two_pow_pos _)
        _ = 2 ^ (bitsN b + K) := (Nat.pow_add ..).symm
        _ ≤ 2 ^ (32 * (wds a).length) := Nat.pow_le_pow_right (by decide) (by have := hkd.out; have := hka.out; have := hkb.out; omega)
        _ = 4294967296 ^ (wds a).length := by rw [Nat.pow_mul]
    have hrb : a < 2 ^ (K + 1) * b := by
      have h1 := bits_lt a
      have h2 := bits_le (Nat.ne_of_gt hb0)
      have h3 := bits_pos (Nat.ne_of_gt hb0)
      calc a < 2 ^ bitsN a := h1
        _ ≤ 2 ^ (K + 1 + (bitsN b - 1)) := Nat.pow_le_pow_right (by decide) (by have := hkd.out; have := hka.out; have := hkb.out; omega)
        _ = 2 ^ (K + 1) * 2 ^ (bitsN b - 1) := Nat.pow_add ..
        _ ≤ 2 ^ (K + 1) * b := Nat.mul_le_mul_left _ h2
    have hTl : ∀ j, j ≤ K → (wds (b * 2 ^ j)).length ≤ 3000 := fun j hj => by
      have h1 : b * 2 ^ j ≤ b * 2 ^ K := Nat.mul_le_mul_left _ (Nat.pow_le_pow_right (by decide) hj)
      have h2 := wds_len (b * 2 ^ j) (wds a).length (Nat.lt_of_le_of_lt h1 hba)
      have := hla.out
      omega
    have HTL := hid hTl
    have HRB := hid hrb
    have HWa := hid (ha1.below hbc)
    have HUp := hid fun w' (h : Below wc.heap.size wc w') => wUp_any w' false (.slice ab lb cb) b K ((hb1.below hbc).below h) (by have := hlb.out; omega) (by omega)
    clear hTl hrb hba ha1 hb1 ha hb
    have e2 : (b * 2 ^ (K + 1) / 2) = b * 2 ^ K := by rw [Nat.pow_succ, ← Nat.mul_assoc, Nat.mul_div_cancel _ (by decide)]
    replace e2 := hid e2
    go_wp2_with (go_at_call 72; (with_reducible refine (HUp.out _ (Below.refl _ _)).mono ?_); rintro E3 w3 ⟨tv, rfl, ht, hb3⟩; obtain ⟨ta, tc, rfl⟩ := ht.sl)
    have J3 := J2.below hb3
    have HWa3 := hid (HWa.out.below hb3)
    have HT3 := hid ht
    have hB3 : w.heap.size + 1 + 1 + 1 ≤ w3.heap.size := Nat.le_trans hBs hb3.size
    have b3 : Below w.heap.size w w3 := b1.trans ((hbc.trans (hb3.mono hbc.size)).mono b1.size)
    clear HWa HUp J0 J1 J2 I0 I1 I2 a0 a1 a2 a3 a4 a5 a6 a7 hb3 ht
    go_loopw [6, 7, 8, 9] (fun kv ov rv tv w' => DvLoop w3 w3.heap.size a b (K + 1) kv ov rv tv w') (fun kv _ _ _ _ => (intOf kv + 1).toNat)
    case atStart => exact ⟨K + 1, 0, a, by go_num, rfl, Nat.le_refl _, by simp, HRB.out, HWa3.out, by rw [e2.out]; exact HT3.out, Below.refl _ _⟩
    case round =>
      obtain ⟨j, o, r, rfl, rfl, hj, heq, hr, hrv, htv, hbw⟩ := hrel
      obtain ⟨ra, rc, rfl⟩ := hrv.sl
      obtain ⟨sa, sc, rfl⟩ := htv.sl
      have HEQ := hid heq
      have HR := hid hr
      have ho := dv_o heq hb0 hq
      clear heq hr
      match j, hj, HEQ, HR, htv, ho with
      | 0, hj, HEQ, HR, htv, ho =>
        have hdm : a / b = o ∧ a % b = r := by
          have h1 := HEQ.out
          have h2 := HR.out
          rw [Nat.pow_zero, Nat.mul_one] at h1
          rw [Nat.pow_zero, Nat.one_mul] at h2
          rw [h1, Nat.mul_comm o b]
          exact ⟨by rw [Nat.mul_add_div hb0, Nat.div_eq_of_lt h2, Nat.add_zero], by rw [Nat.mul_add_mod, Nat.mod_eq_of_lt h2]⟩
        have HD := hid hdm
        have J4 := J3.below hbw
        have d0 := J4.c0
        have d1 := J4.c1
        have d2 := J4.fr 0
        have d3 := J4.fr 1
        have J5 := J4.set (.bool false) (.slice ra (wds r).length rc)
        have hfin := Sl.setI (Sl.setI hrv J4 (fun d e => by cases e) (fun d e => by cases e) 0 (.bool false)) (show IntB (wr.setCell ⟨w.heap.size + 1 + 1, 0, none⟩ (.bool false)) (w.heap.size + 1 + 1) (.bool false) (.slice none 0 0) from heap_setCell_same wr _ 0 _ _ (.bool false) J4) (fun d e => by cases e) (fun d e => by cases e) 1 (.slice ra (wds r).length rc)
        have hbf : Below w.heap.size w ((wr.setCell ⟨w.heap.size + 1 + 1, 0, none⟩ (.bool false)).setCell ⟨w.heap.size + 1 + 1, 1, none⟩ (.slice ra (wds r).length rc)) := below_set2i (b3.trans (hbw.mono b3.size)) (by omega) _ _
        clear J3 J4 hdm
        go_wp2
        refine bodyPost_ret (results_ti rfl _ _ (w.heap.size + 1 + 1) (.bool false) (.slice ra (wds r).length rc) rfl J5.c0 J5.c1) rfl ?_
        exact ⟨_, by rw [HD.out.1]; rfl, by rw [HD.out.2]; exact hfin, hbf⟩
      | j + 1, hj, HEQ, HR, htv, ho =>
        have e1 : (((j + 1 : Nat) : Int) - 1) = (j : Int) := by omega
        rw [e1]
        have ht2 : b * 2 ^ (j + 1) / 2 = b * 2 ^ j := by rw [Nat.pow_succ, ← Nat.mul_assoc, Nat.mul_div_cancel _ (by decide)]
        rw [ht2] at htv ⊢
        obtain ⟨T, hT⟩ : ∃ T, T = b * 2 ^ j := ⟨_, rfl⟩
        rw [← hT] at htv ⊢
        have hTl : (wds T).length ≤ 3000 := by rw [hT]; exact HTL.out j (by omega)
        have hral : (wds r).length ≤ 3000 := by
          have h1 : r ≤ a := by have := HEQ.out; omega
          have := wds_len_le h1
          have := hla.out
          omega
        have ho2 : 2 * o < 18446744073709551616 := by
          have h1 : o * 2 ≤ o * 2 ^ (j + 1) := Nat.mul_le_mul_left _ (by rw [Nat.pow_succ]; have := Nat.two_pow_pos j; omega)
          omega
        obtain ⟨o2, hoo⟩ : ∃ o2, o2 = 2 * o := ⟨_, rfl⟩
        have m1 : (o : Int) * 2 = (o2 : Int) := by omega
        have m2 : IntKind.u64.wrap (o2 : Int) = (o2 : Int) := by rw [IntKind.wrap_u64]; omega
        have m3 : bits .or .u64 (o2 : Int) 1 = ((o2 + 1 : Nat) : Int) := by
          have h := or_up (c := 1) (X := o2) (s := 1) (by decide) ⟨o, by rw [hoo]; omega⟩ (by omega)
          rw [bits_or_u64_nat 1 o2 (by omega) (by omega), Nat.or_comm] at h
          exact Eq.trans (bits_or_u64_nat o2 1 (by omega) (by omega)) (Eq.trans h (by omega))
        replace hoo := hid hoo
        replace hT := hid hT
        have HCm := hid fun w' (h : Below wr.heap.size wr w') => wcompare_any w' _ _ r T (hrv.below h) (htv.below h) (by omega) (by omega)
        obtain ⟨C, hC⟩ : ∃ C, C = cmpN r T := ⟨_, rfl⟩
        rw [← hC] at HCm
        by_cases hge : T ≤ r
        · have hc0 := cmp_ge0 hge
          rw [← hC] at hc0
          obtain ⟨hc0, -⟩ := hc0
          replace hC := hid hC
          have q := dv_yes HEQ.out HR.out (by rw [← hT.out]; exact hge)
          rw [← hT.out, ← hoo.out] at q
          have HQ := hid q
          clear q
          have HLs := hid fun w' (h : Below wr.heap.size wr w') => wless_any w' _ _ r T hge (hrv.below h) (htv.below h) (by omega)
          have HHf := hid fun w' (h : Below wr.heap.size wr w') => whalf_any w' _ T (htv.below h) (by omega)
          have HHV := hid htv
          have HRV := hid hrv
          clear htv hrv J3
          go_wp2_with (first
            | (go_at_call 76; (with_reducible refine (HCm.out _ (Below.refl _ _)).mono ?_); rintro E5 w5 ⟨rfl, n5, rfl⟩)
            | (go_at_call 98; (with_reducible refine (HLs.out _ (bldn (Below.refl _ _) _)).mono ?_); rintro E6 w6 ⟨v6, rfl, hv6, hb6⟩; obtain ⟨la6, lc6, rfl⟩ := hv6.sl; have c6 : Below wr.heap.size wr w6 := bl2 (bldn (Below.refl _ _) n5) hb6)
            | (go_at_call 99; (with_reducible refine (HHf.out _ c6).mono ?_); rintro E7 w7 ⟨v7, rfl, hv7, hb7⟩; obtain ⟨la7, lc7, rfl⟩ := hv7.sl))
          go_roundw
          case rel => exact ⟨j, o2 + 1, r - T, rfl, by go_num, by omega, HQ.out.1, HQ.out.2, hv6.below hb7, by rw [← hT.out]; exact hv7, hbw.trans ((c6.trans (hb7.mono c6.size)).mono hbw.size)⟩
          case measure => simp [intOf]
        · have hc0 : C = -1 := by rw [hC]; exact cmp_lt0 (by omega)
          subst hc0
          replace hC := hid hC
          have q := dv_no HEQ.out (by rw [← hT.out]; omega)
          rw [← hoo.out] at q
          have HQ := hid q
          clear q
          have HHf := hid fun w' (h : Below wr.heap.size wr w') => whalf_any w' _ T (htv.below h) (by omega)
          have HHV := hid htv
          have HRV := hid hrv
          clear htv hrv J3
          go_wp2_with (first
            | (go_at_call 76; (with_reducible refine (HCm.out _ (Below.refl _ _)).mono ?_); rintro E5 w5 ⟨rfl, n5, rfl⟩)
            | (go_at_call 99; (with_reducible refine (HHf.out _ (bldn (Below.refl _ _) _)).mono ?_); rintro E7 w7 ⟨v7, rfl, hv7, hb7⟩; obtain ⟨la7, lc7, rfl⟩ := hv7.sl; have c7 : Below wr.heap.size wr w7 := bl2 (bldn (Below.refl _ _) n5) hb7))
          go_roundw
          case rel => exact ⟨j, o2, r, rfl, by go_num, by omega, HQ.out.1, HQ.out.2, HRV.out.below c7, by rw [← hT.out]; exact hv7, hbw.trans (c7.mono hbw.size)⟩
          case measure => simp [intOf]
end Go.Proofs.YtfalbdlfopfgcaaGreatDoor

namespace Go.Proofs.YtfalbdlfopfgcaaGreatDoor
open Go.RowKit

theorem ten_len (k : Nat) : (wds (10 ^ k)).length ≤ k / 8 + 1 := by
  refine wds_len _ _ ?_
  have h2 : 10 ^ k ≤ 16 ^ k := Nat.pow_le_pow_left (by decide) k
  have h3 : (16 : Nat) ^ k = 2 ^ (4 * k) := by rw [Nat.pow_mul]
  have h4 : (2 : Nat) ^ (4 * k) < 2 ^ (32 * (k / 8 + 1)) := Nat.pow_lt_pow_right (by decide) (by omega)
  have h5 : (2 : Nat) ^ (32 * (k / 8 + 1)) = 4294967296 ^ (k / 8 + 1) := by rw [Nat.pow_mul]
  omega
theorem Of_1 (w : World) : Calls Tryz.prog 50 #[.int .u64 1] w (RetI w false 1) := wOf_any w 1 (by unfold IsW; decide)
theorem Of_10 (w : World) : Calls Tryz.prog 50 #[.int .u64 10] w (RetI w false 10) := wOf_any w 10 (by unfold IsW; decide)
theorem Wn.set2 {w : World} {v x y : Value} {n b : Nat} (h : Wn w v n) (hb : IntB w b x y) (hx : ∀ d, x ≠ wrd d) (hy : ∀ d, y ≠ wrd d) (s : Bool) (z : Value) : Wn ((w.setCell ⟨b, 0, none⟩ (.bool s)).setCell ⟨b, 1, none⟩ z) v n :=
  Sl.setI (Sl.setI h hb hx hy 0 (.bool s)) (show IntB (w.setCell ⟨b, 0, none⟩ (.bool s)) b (.bool s) y from heap_setCell_same w b 0 _ _ (.bool s) hb) (fun d e => by cases e) hy 1 z
theorem IntB.oth {w : World} {b b' : Nat} {x y : Value} (h : IntB w b x y) (hne : b ≠ b') (u v : Value) : IntB ((w.setCell ⟨b', 0, none⟩ u).setCell ⟨b', 1, none⟩ v) b x y := by
  unfold IntB at *
  rw [Below.heap_setCell _ _ _ _ hne, Below.heap_setCell _ _ _ _ hne]
  exact h
def TenLoop (w : World) (bx n : Nat) (i : Value) (w' : World) : Prop := ∃ (k : Nat) (v : Value), i = .int .i64 (k : Int) ∧ k ≤ n ∧ IntB w' w.heap.size (.bool false) (.slice none 0 0) ∧ IntB w' bx (.bool false) v ∧ Wn w' v (10 ^ k) ∧ Below w.heap.size w w'
set_option maxRecDepth 100000 in
set_option maxHeartbeats 4000000 in
theorem wTen_any (w : World) (n : Nat) (hn : n ≤ 20000) : Calls Tryz.prog 78 #[.int .i64 n] w (RetI w false (10 ^ n)) := by
  have i0 := IntB.new w (.bool false) (.slice none 0 0)
  have b0 : Below w.heap.size w (w.alloc (.cells #[.bool false, .slice none 0 0] 85)) := bla _ (Below.refl _ _)
  have HOf1 := hid (Of_1 (w.alloc (.cells #[.bool false, .slice none 0 0] 85)))
  have HOf := hid Of_10
  go_enter Tryz.func78, Tryz.ntmps78
  go_wp2_with (go_at_call 50; (with_reducible refine HOf1.out.mono ?_); rintro E1 w2 ⟨v1, rfl, hv1, hb1⟩; obtain ⟨va, vc, rfl⟩ := hv1.sl)
  have j0 := hid ((i0.below hb1).alloc (.cells #[.bool false, .slice va (wds 1).length vc] 85))
  have j1 := hid (IntB.new w2 (.bool false) (.slice va (wds 1).length vc))
  have b2 := hid (bla (.cells #[.bool false, .slice va (wds 1).length vc] 85) (bl2 b0 hb1))
  have v2 := hid (hv1.alloc (.cells #[.bool false, .slice va (wds 1).length vc] 85))
  have hbx := b0.size
  have hbx2 := hb1.size
  rw [World.size_alloc] at hbx hbx2
  clear i0 b0 hv1 hb1 HOf1
  obtain ⟨w3, hw3⟩ : ∃ w3, w3 = w2.alloc (.cells #[.bool false, .slice va (wds 1).length vc] 85) := ⟨_, rfl⟩
  rw [← hw3] at j0 j1 b2 v2 ⊢
  obtain ⟨bx, hbxd⟩ : ∃ bx, bx = w2.heap.size := ⟨_, rfl⟩
  rw [← hbxd] at j1 hbx2 ⊢
  clear hw3 hbxd
  go_loopw [4] (fun i w' => TenLoop w bx n i w') (fun i _ => n + 1 - (intOf i).toNat)
  case atStart => exact ⟨0, _, rfl, Nat.zero_le _, j0.out, j1.out, v2.out, b2.out⟩
  case round =>
    obtain ⟨k, v, rfl, hk, h0, h1, hv, hb⟩ := hrel
    obtain ⟨xa, xc, rfl⟩ := hv.sl
    by_cases hkn : k < n
    · have HMul := hid fun (w' : World) (u : Value) (hu : Wn w' u 10) (h : Below wr.heap.size wr w') => wMul_any w' (.slice xa (wds (10 ^ k)).length xc) u (10 ^ k) 10 (hv.below h) hu (by have := ten_len k; omega) (by have := ten_len 1; rw [Nat.pow_one] at this; omega)
      have hp : 10 ^ k * 10 = 10 ^ (k + 1) := (Nat.pow_succ ..).symm
      rw [hp] at HMul
      have H0 := hid h0
      have H1 := hid h1
      have a0 := h1.c0
      have a1 := h1.c1
      clear hp
      go_wp2
      go_region_law (go_simp; first
        | (go_at_call 50; (with_reducible refine (HOf.out _).mono ?_); rintro E4 w4 ⟨u4, rfl, hu4, hb4⟩; have k1 := H1.out.below (w' := w4) (by (repeat (first | with_reducible exact Below.refl _ _ | with_reducible refine bla _ ?_ | with_reducible refine bld ?_ | with_reducible refine bldn ?_ _ | (with_reducible refine bl2 ?_ (by assumption))))); have a2 := k1.c0; have a3 := k1.c1)
        | (go_at_call 79; (with_reducible refine (HMul.out _ _ (hu4.below (by (repeat (first | with_reducible exact Below.refl _ _ | with_reducible refine bla _ ?_ | with_reducible refine bld ?_ | with_reducible refine bldn ?_ _ | (with_reducible refine bl2 ?_ (by assumption)))))) (by (repeat (first | with_reducible exact Below.refl _ _ | with_reducible refine bla _ ?_ | with_reducible refine bld ?_ | with_reducible refine bldn ?_ _ | (with_reducible refine bl2 ?_ (by assumption)))))).mono ?_); rintro E5 w5 ⟨u5, rfl, hu5, hb5⟩; obtain ⟨ya, yc, rfl⟩ := hu5.sl; have k2 := H1.out.below (w' := w5) (by (repeat (first | with_reducible exact Below.refl _ _ | with_reducible refine bla _ ?_ | with_reducible refine bld ?_ | with_reducible refine bldn ?_ _ | (with_reducible refine bl2 ?_ (by assumption))))); have a4 := k2.c0; have a5 := k2.c1; have a6 := k2.fr 0; have a7 := k2.fr 1))
      all_goals
        have z0 := (H0.out.below (w' := w5) (by (repeat (first | with_reducible exact Below.refl _ _ | with_reducible refine bla _ ?_ | with_reducible refine bld ?_ | with_reducible refine bldn ?_ _ | (with_reducible refine bl2 ?_ (by assumption)))))).oth (show w.heap.size ≠ bx by omega) (.bool false) (.slice ya (wds (10 ^ (k + 1))).length yc)
        have z1 := k2.set (.bool false) (.slice ya (wds (10 ^ (k + 1))).length yc)
        have z2 := Wn.set2 hu5 k2 (fun d e => by cases e) (fun d e => by cases e) false (.slice ya (wds (10 ^ (k + 1))).length yc)
        have z3 : Below w.heap.size w ((w5.setCell ⟨bx, 0, none⟩ (.bool false)).setCell ⟨bx, 1, none⟩ (.slice ya (wds (10 ^ (k + 1))).length yc)) := below_set2i (bl2 hb (by (repeat (first | with_reducible exact Below.refl _ _ | with_reducible refine bla _ ?_ | with_reducible refine bld ?_ | with_reducible refine bldn ?_ _ | (with_reducible refine bl2 ?_ (by assumption)))))) (by omega) _ _
        clear a0 a1 a2 a3 a4 a5 a6 a7
        go_wp2
        go_roundw
        case rel => exact ⟨k + 1, _, by go_num, hkn, z0, z1, z2, z3⟩
        case measure => simp [intOf]; omega
    · obtain rfl : k = n := by omega
      have a0 := h1.c0
      have a1 := h1.c1
      have d0 := h0.c0
      have d1 := h0.c1
      have d2 := h0.fr 0
      have d3 := h0.fr 1
      have z1 := h0.set (.bool false) (.slice xa (wds (10 ^ k)).length xc)
      have z2 := Wn.set2 hv h0 (fun d e => by cases e) (fun d e => by cases e) false (.slice xa (wds (10 ^ k)).length xc)
      have z3 : Below w.heap.size w ((wr.setCell ⟨w.heap.size, 0, none⟩ (.bool false)).setCell ⟨w.heap.size, 1, none⟩ (.slice xa (wds (10 ^ k)).length xc)) := below_set2i hb (by omega) _ _
      go_wp2
      refine bodyPost_ret (results_int rfl _ _ w.heap.size (.bool false) (.slice xa (wds (10 ^ k)).length xc) rfl z1.c0 z1.c1) rfl ?_
      exact ⟨_, rfl, z2, z3⟩
/-- A box of a fraction. -/
def RatB (w : World) (b : Nat) (x0 y0 x1 y1 : Value) : Prop := w.heap[b]? = some (.cells #[x0, y0, x1, y1] 104 (0, 0))
section
variable {w : World} {b : Nat} {x0 y0 x1 y1 : Value}
theorem RatB.c0 (h : RatB w b x0 y0 x1 y1) : w.cell? ⟨b, 0, none⟩ = some x0 := by unfold RatB at h; simp [World.cell?, h]
theorem RatB.c1 (h : RatB w b x0 y0 x1 y1) : w.cell? ⟨b, 1, none⟩ = some y0 := by unfold RatB at h; simp [World.cell?, h]
theorem RatB.c2 (h : RatB w b x0 y0 x1 y1) : w.cell? ⟨b, 2, none⟩ = some x1 := by unfold RatB at h; simp [World.cell?, h]
theorem RatB.c3 (h : RatB w b x0 y0 x1 y1) : w.cell? ⟨b, 3, none⟩ = some y1 := by unfold RatB at h; simp [World.cell?, h]
theorem RatB.fr (h : RatB w b x0 y0 x1 y1) (o : Nat) : w.frozen? ⟨b, o, none⟩ = false := by unfold RatB at h; simp [World.frozen?, h]
theorem RatB.lt (h : RatB w b x0 y0 x1 y1) : b < w.heap.size := (Array.getElem?_eq_some_iff.1 h).1
theorem RatB.below {w' : World} (h : RatB w b x0 y0 x1 y1) (hb : Below w.heap.size w w') : RatB w' b x0 y0 x1 y1 := by
  have hl := h.lt
  unfold RatB at *
  rw [hb.block b hl]
  exact h
theorem RatB.new (w : World) (x0 y0 x1 y1 : Value) : RatB (w.alloc (.cells #[x0, y0, x1, y1] 104)) w.heap.size x0 y0 x1 y1 := by
  show (w.heap.push _)[w.heap.size]? = _
  simp
theorem RatB.alloc (h : RatB w b x0 y0 x1 y1) (o : Obj) : RatB (w.alloc o) b x0 y0 x1 y1 := h.below ((Below.refl _ w).alloc (Nat.le_refl _) o)
end
theorem RatB.set4 {w : World} {b : Nat} {x0 y0 x1 y1 : Value} (h : RatB w b x0 y0 x1 y1) (u0 v0 u1 v1 : Value) : RatB ((((w.setCell ⟨b, 0, none⟩ u0).setCell ⟨b, 1, none⟩ v0).setCell ⟨b, 2, none⟩ u1).setCell ⟨b, 3, none⟩ v1) b u0 v0 u1 v1 := by
  have h1 := heap_setCell_same w b 0 _ _ u0 h
  have h2 := heap_setCell_same _ b 1 _ _ v0 h1
  have h3 := heap_setCell_same _ b 2 _ _ u1 h2
  exact heap_setCell_same _ b 3 _ _ v1 h3
theorem Sl.setR {w : World} {v : Value} {l : List Nat} (h : Sl w v (l.map wrd)) {b : Nat} {x0 y0 x1 y1 : Value} (hb : RatB w b x0 y0 x1 y1) (g0 : ∀ d, x0 ≠ wrd d) (g1 : ∀ d, y0 ≠ wrd d) (g2 : ∀ d, x1 ≠ wrd d) (g3 : ∀ d, y1 ≠ wrd d) (o : Nat) (u : Value) : Sl (w.setCell ⟨b, o, none⟩ u) v (l.map wrd) := by
  obtain ⟨a, cap, rfl, hr, hc, hl⟩ := h
  refine ⟨a, cap, rfl, fun hne => ?_, hc, hl⟩
  obtain ⟨b', off, rfl, hcell⟩ := hr hne
  refine ⟨b', off, rfl, fun i z hz => ?_⟩
  have h1 := hcell i z hz
  obtain ⟨d, -, rfl⟩ := List.mem_map.1 (List.mem_of_getElem? hz)
  rw [World.cell?_setCell_other _ _ _ _ (fun e => ?_)]
  · exact h1
  · have e2 := congrArg Addr.block e
    simp only at e2
    unfold RatB at hb
    subst e2
    simp only [World.cell?, hb] at h1
    match off + i, h1 with
    | 0, h1 => simp at h1; exact g0 d h1
    | 1, h1 => simp at h1; exact g1 d h1
    | 2, h1 => simp at h1; exact g2 d h1
    | 3, h1 => simp at h1; exact g3 d h1
    | j + 4, h1 => simp at h1
theorem Wn.set4 {w : World} {v : Value} {n b : Nat} {x0 y0 x1 y1 : Value} (h : Wn w v n) (hb : RatB w b x0 y0 x1 y1) (g0 : ∀ d, x0 ≠ wrd d) (g1 : ∀ d, y0 ≠ wrd d) (g2 : ∀ d, x1 ≠ wrd d) (g3 : ∀ d, y1 ≠ wrd d) (s0 s1 : Bool) {v0 v1 : Value} (k0 : ∀ d, v0 ≠ wrd d) : Wn ((((w.setCell ⟨b, 0, none⟩ (.bool s0)).setCell ⟨b, 1, none⟩ v0).setCell ⟨b, 2, none⟩ (.bool s1)).setCell ⟨b, 3, none⟩ v1) v n := by
  have q1 : RatB (w.setCell ⟨b, 0, none⟩ (.bool s0)) b (.bool s0) y0 x1 y1 := heap_setCell_same w b 0 _ _ (.bool s0) hb
  have q2 : RatB ((w.setCell ⟨b, 0, none⟩ (.bool s0)).setCell ⟨b, 1, none⟩ v0) b (.bool s0) v0 x1 y1 := heap_setCell_same _ b 1 _ _ v0 q1
  have q3 : RatB (((w.setCell ⟨b, 0, none⟩ (.bool s0)).setCell ⟨b, 1, none⟩ v0).setCell ⟨b, 2, none⟩ (.bool s1)) b (.bool s0) v0 (.bool s1) y1 := heap_setCell_same _ b 2 _ _ (.bool s1) q2
  exact Sl.setR (Sl.setR (Sl.setR (Sl.setR h hb g0 g1 g2 g3 0 (.bool s0)) q1 (fun d e => by cases e) g1 g2 g3 1 v0) q2 (fun d e => by cases e) k0 g2 g3 2 (.bool s1)) q3 (fun d e => by cases e) k0 (fun d e => by cases e) g3 3 v1
theorem below_set4 {B g : Nat} {w w' : World} (h : Below B w w') (hg : B ≤ g) (u0 v0 u1 v1 : Value) : Below B w ((((w'.setCell ⟨g, 0, none⟩ u0).setCell ⟨g, 1, none⟩ v0).setCell ⟨g, 2, none⟩ u1).setCell ⟨g, 3, none⟩ v1) := below_st (below_st (below_st (below_st h hg _ _) hg _ _) hg _ _) hg _ _
theorem results_rat {fn : Func} {p : Tmp} (h : fn.results = #[.cell p 104]) (tmps : Array Value) (w : World) (b : Nat) (x0 y0 x1 y1 : Value) (hp : tmps.getD p undef = .pointer (some ⟨b, 0, none⟩)) (hb : RatB w b x0 y0 x1 y1) : (results fn tmps).run Tryz.prog w = .ok (.agg #[x0, y0, x1, y1]) w := by
  have c0 := hb.c0
  have c1 := hb.c1
  have c2 := hb.c2
  have c3 := hb.c3
  simp only [Array.getD_eq_getD_getElem?] at hp ⊢
  simp [results, h, hp, go_sem, c0, c1, c2, c3, Sem.run_bind, Result.andThen]
/-- A fraction told. -/
def RetRat (w : World) (p q : Nat) (E : Ending) (w' : World) : Prop := ∃ v u, E = .returned (.agg #[.bool false, v, .bool false, u]) ∧ Wn w' v p ∧ Wn w' u q ∧ Below w.heap.size w w'
set_option maxRecDepth 100000 in
set_option maxHeartbeats 4000000 in
theorem rTen_neg (w : World) (va : Value) (a n : Nat) (ha : Wn w va a) (hn : n ≤ 20000) (hn0 : 0 < n) : Calls Tryz.prog 49 #[.agg #[.bool false, va], .int .i64 (-(n : Int))] w (RetRat w a (10 ^ n)) := by
  obtain ⟨aa, ca, rfl⟩ := ha.sl
  have b1 : Below w.heap.size w ((w.alloc (.cells #[.bool false, .slice aa (wds a).length ca] 85)).alloc (.cells #[.bool false, .slice none 0 0, .bool false, .slice none 0 0] 104)) := bla _ (bla _ (Below.refl _ _))
  have i0 := (IntB.new w (.bool false) (.slice aa (wds a).length ca)).alloc (.cells #[.bool false, .slice none 0 0, .bool false, .slice none 0 0] 104)
  have i1 := RatB.new (w.alloc (.cells #[.bool false, .slice aa (wds a).length ca] 85)) (.bool false) (.slice none 0 0) (.bool false) (.slice none 0 0)
  rw [World.size_alloc] at i1
  have g1 : (-(n : Int)) < 0 := by omega
  have g2 : IntKind.i64.wrap (n : Int) = (n : Int) := IntWalk.i64_in _ (by omega)
  have HT := hid fun w' => wTen_any w' n hn
  go_enter Tryz.func49, Tryz.ntmps49
  go_upto_region 2 with (fail)
  obtain ⟨w1, hw1⟩ : ∃ w1, w1 = ((w.alloc (.cells #[.bool false, .slice aa (wds a).length ca] 85)).alloc (.cells #[.bool false, .slice none 0 0, .bool false, .slice none 0 0] 104)) := ⟨_, rfl⟩
  rw [← hw1] at b1 i0 i1 ⊢
  have a0 := i0.c0
  have a1 := i0.c1
  clear hw1
  go_region_law (go_simp; go_at_call 78; (with_reducible refine (HT.out _).mono ?_); rintro E4 w4 ⟨u4, rfl, hu4, hb4⟩; obtain ⟨ya, yc, rfl⟩ := hu4.sl; have k1 := i0.below (w' := w4) (by (repeat (first | with_reducible exact Below.refl _ _ | with_reducible refine bla _ ?_ | with_reducible refine bld ?_ | with_reducible refine bldn ?_ _ | (with_reducible refine bl2 ?_ (by assumption))))); have a2 := k1.c0; have a3 := k1.c1; have k2 := i1.below (w' := w4) (by (repeat (first | with_reducible exact Below.refl _ _ | with_reducible refine bla _ ?_ | with_reducible refine bld ?_ | with_reducible refine bldn ?_ _ | (with_reducible refine bl2 ?_ (by assumption))))); have a4 := k2.c0; have a5 := k2.c1; have a6 := k2.c2; have a7 := k2.c3; have d0 := k2.fr 0; have d1 := k2.fr 1; have d2 := k2.fr 2; have d3 := k2.fr 3)
  all_goals
    have z1 := k2.set4 (.bool false) (.slice aa (wds a).length ca) (.bool false) (.slice ya (wds (10 ^ n)).length yc)
    have z2 := Wn.set4 (v1 := .slice ya (wds (10 ^ n)).length yc) hu4 k2 (fun d e => by cases e) (fun d e => by cases e) (fun d e => by cases e) (fun d e => by cases e) false false (v0 := .slice aa (wds a).length ca) (fun d e => by cases e)
    have z3 : Below w.heap.size w ((((w4.setCell ⟨w.heap.size + 1, 0, none⟩ (.bool false)).setCell ⟨w.heap.size + 1, 1, none⟩ (.slice aa (wds a).length ca)).setCell ⟨w.heap.size + 1, 2, none⟩ (.bool false)).setCell ⟨w.heap.size + 1, 3, none⟩ (.slice ya (wds (10 ^ n)).length yc)) := below_set4 (bl2 b1 (by (repeat (first | with_reducible exact Below.refl _ _ | with_reducible refine bla _ ?_ | with_reducible refine bld ?_ | with_reducible refine bldn ?_ _ | (with_reducible refine bl2 ?_ (by assumption)))))) (by omega) _ _ _ _
    clear a0 a1 a2 a3 a4 a5 a6 a7 d0 d1 d2 d3
    go_wp2
    refine bodyPost_ret (results_rat rfl _ _ (w.heap.size + 1) (.bool false) (.slice aa (wds a).length ca) (.bool false) (.slice ya (wds (10 ^ n)).length yc) rfl z1) rfl ?_
    exact ⟨_, _, rfl, ha.below z3, z2, z3⟩
set_option maxRecDepth 100000 in
set_option maxHeartbeats 4000000 in
theorem rTen_pos (w : World) (va : Value) (a n : Nat) (ha : Wn w va a) (hal : (wds a).length ≤ 1000) (hn : n ≤ 20000) : Calls Tryz.prog 49 #[.agg #[.bool false, va], .int .i64 (n : Int)] w (RetRat w (a * 10 ^ n) 1) := by
  obtain ⟨aa, ca, rfl⟩ := ha.sl
  have b1 : Below w.heap.size w ((w.alloc (.cells #[.bool false, .slice aa (wds a).length ca] 85)).alloc (.cells #[.bool false, .slice none 0 0, .bool false, .slice none 0 0] 104)) := bla _ (bla _ (Below.refl _ _))
  have i0 := (IntB.new w (.bool false) (.slice aa (wds a).length ca)).alloc (.cells #[.bool false, .slice none 0 0, .bool false, .slice none 0 0] 104)
  have i1 := RatB.new (w.alloc (.cells #[.bool false, .slice aa (wds a).length ca] 85)) (.bool false) (.slice none 0 0) (.bool false) (.slice none 0 0)
  rw [World.size_alloc] at i1
  have g1 : ¬ (n : Int) < 0 := by omega
  have HT := hid fun w' => wTen_any w' n hn
  have HO := hid Of_1
  go_enter Tryz.func49, Tryz.ntmps49
  go_upto_region 3 with (fail)
  obtain ⟨w1, hw1⟩ : ∃ w1, w1 = ((w.alloc (.cells #[.bool false, .slice aa (wds a).length ca] 85)).alloc (.cells #[.bool false, .slice none 0 0, .bool false, .slice none 0 0] 104)) := ⟨_, rfl⟩
  rw [← hw1] at b1 i0 i1 ⊢
  have a0 := i0.c0
  have a1 := i0.c1
  have HM := hid fun (w' : World) (u : Value) (hu : Wn w' u (10 ^ n)) (h : Below w1.heap.size w1 w') => wMul_any w' (.slice aa (wds a).length ca) u a (10 ^ n) (ha.below (bl2 b1 h)) hu (by omega) (by have := ten_len n; omega)
  clear hw1
  go_region_law (go_simp; first
    | (go_at_call 78; (with_reducible refine (HT.out _).mono ?_); rintro E4 w4 ⟨u4, rfl, hu4, hb4⟩; have k1 := i0.below (w' := w4) (by (repeat (first | with_reducible exact Below.refl _ _ | with_reducible refine bla _ ?_ | with_reducible refine bld ?_ | with_reducible refine bldn ?_ _ | (with_reducible refine bl2 ?_ (by assumption))))); have a2 := k1.c0; have a3 := k1.c1; have k2 := i1.below (w' := w4) (by (repeat (first | with_reducible exact Below.refl _ _ | with_reducible refine bla _ ?_ | with_reducible refine bld ?_ | with_reducible refine bldn ?_ _ | (with_reducible refine bl2 ?_ (by assumption))))); have a4 := k2.c0; have a5 := k2.c1; have a6 := k2.c2; have a7 := k2.c3; have d0 := k2.fr 0; have d1 := k2.fr 1; have d2 := k2.fr 2; have d3 := k2.fr 3)
    | (go_at_call 50; (with_reducible refine (HO.out _).mono ?_); rintro E5 w5 ⟨u5, rfl, hu5, hb5⟩; obtain ⟨ya, yc, rfl⟩ := hu5.sl; have k3 := i0.below (w' := w5) (by (repeat (first | with_reducible exact Below.refl _ _ | with_reducible refine bla _ ?_ | with_reducible refine bld ?_ | with_reducible refine bldn ?_ _ | (with_reducible refine bl2 ?_ (by assumption))))); have e2 := k3.c0; have e3 := k3.c1; have k4 := i1.below (w' := w5) (by (repeat (first | with_reducible exact Below.refl _ _ | with_reducible refine bla _ ?_ | with_reducible refine bld ?_ | with_reducible refine bldn ?_ _ | (with_reducible refine bl2 ?_ (by assumption))))); have e4 := k4.c0; have e5 := k4.c1; have e6 := k4.c2; have e7 := k4.c3; have f0 := k4.fr 0; have f1 := k4.fr 1; have f2 := k4.fr 2; have f3 := k4.fr 3)
    | (go_at_call 79; (with_reducible refine (HM.out _ _ (hu4.below (by (repeat (first | with_reducible exact Below.refl _ _ | with_reducible refine bla _ ?_ | with_reducible refine bld ?_ | with_reducible refine bldn ?_ _ | (with_reducible refine bl2 ?_ (by assumption)))))) (by (repeat (first | with_reducible exact Below.refl _ _ | with_reducible refine bla _ ?_ | with_reducible refine bld ?_ | with_reducible refine bldn ?_ _ | (with_reducible refine bl2 ?_ (by assumption)))))).mono ?_); rintro E6 w6 ⟨u6, rfl, hu6, hb6⟩; obtain ⟨za, zc, rfl⟩ := hu6.sl; have k5 := i0.below (w' := w6) (by (repeat (first | with_reducible exact Below.refl _ _ | with_reducible refine bla _ ?_ | with_reducible refine bld ?_ | with_reducible refine bldn ?_ _ | (with_reducible refine bl2 ?_ (by assumption))))); have r2 := k5.c0; have r3 := k5.c1; have k6 := i1.below (w' := w6) (by (repeat (first | with_reducible exact Below.refl _ _ | with_reducible refine bla _ ?_ | with_reducible refine bld ?_ | with_reducible refine bldn ?_ _ | (with_reducible refine bl2 ?_ (by assumption))))); have r4 := k6.c0; have r5 := k6.c1; have r6 := k6.c2; have r7 := k6.c3; have s0 := k6.fr 0; have s1 := k6.fr 1; have s2 := k6.fr 2; have s3 := k6.fr 3))
  all_goals
    clear a0 a1 a2 a3 a4 a5 a6 a7 d0 d1 d2 d3 e2 e3 e4 e5 e6 e7 f0 f1 f2 f3 r2 r3 r4 r5 r6 r7 s0 s1 s2 s3
    go_wp2
    refine bodyPost_ret (results_rat rfl _ _ (w.heap.size + 1) _ _ _ _ rfl (RatB.set4 (by first | exact k4 | exact k6) _ _ _ _)) rfl ?_
    exact ⟨_, _, rfl, Wn.set4 (hu6.below (by (repeat (first | with_reducible exact Below.refl _ _ | with_reducible refine bla _ ?_ | with_reducible refine bld ?_ | with_reducible refine bldn ?_ _ | (with_reducible refine bl2 ?_ (by assumption)))))) (by first | exact k4 | exact k6) (fun d e => by cases e) (fun d e => by cases e) (fun d e => by cases e) (fun d e => by cases e) false false (fun d e => by cases e), Wn.set4 (hu5.below (by (repeat (first | with_reducible exact Below.refl _ _ | with_reducible refine bla _ ?_ | with_reducible refine bld ?_ | with_reducible refine bldn ?_ _ | (with_reducible refine bl2 ?_ (by assumption)))))) (by first | exact k4 | exact k6) (fun d e => by cases e) (fun d e => by cases e) (fun d e => by cases e) (fun d e => by cases e) false false (fun d e => by cases e), below_set4 (bl2 b1 (by (repeat (first | with_reducible exact Below.refl _ _ | with_reducible refine bla _ ?_ | with_reducible refine bld ?_ | with_reducible refine bldn ?_ _ | (with_reducible refine bl2 ?_ (by assumption)))))) (by omega) _ _ _ _⟩
/-- The fraction of a whole number times a power of ten. -/
def tenP (a : Nat) (k : Int) : Nat := if k < 0 then a else a * 10 ^ k.toNat
def tenQ (k : Int) : Nat := if k < 0 then 10 ^ (-k).toNat else 1
theorem rTen_any (w : World) (va : Value) (a : Nat) (k : Int) (ha : Wn w va a) (hal : (wds a).length ≤ 1000) (h1 : -20000 ≤ k) (h2 : k ≤ 20000) : Calls Tryz.prog 49 #[.agg #[.bool false, va], .int .i64 k] w (RetRat w (tenP a k) (tenQ k)) := by
  unfold tenP tenQ
  by_cases hk : k < 0
  · rw [if_pos hk, if_pos hk]
    obtain ⟨n, rfl⟩ : ∃ n : Nat, k = -(n : Int) := ⟨(-k).toNat, by omega⟩
    rw [show (-(-(n : Int))).toNat = n by omega]
    exact rTen_neg w va a n ha (by omega) (by omega)
  · rw [if_neg hk, if_neg hk]
    obtain ⟨n, rfl⟩ : ∃ n : Nat, k = (n : Int) := ⟨k.toNat, by omega⟩
    rw [Int.toNat_natCast]
    exact rTen_pos w va a n ha hal (by omega)
end Go.Proofs.YtfalbdlfopfgcaaGreatDoor

namespace Go.Proofs.YtfalbdlfopfgcaaGreatDoor
open Go.RowKit

theorem and_mod (x k : Nat) (hx : x < 18446744073709551616) (hk : k ≤ 63) : bits .and .u64 (x : Int) ((2 ^ k - 1 : Nat) : Int) = ((x % 2 ^ k : Nat) : Int) := by
  have h1 : 2 ^ k ≤ 2 ^ 63 := Nat.pow_le_pow_right (by decide) hk
  rw [bits_and_u64_nat x _ hx (by omega), Nat.and_two_pow_sub_one_eq_mod]
set_option maxRecDepth 100000 in
set_option maxHeartbeats 4000000 in
theorem wReal_any (w : World) (x : Nat) (hx : x < 9223372036854775808) : Calls Tryz.prog 46 #[.float .f64 x] w (RetI w false (mgn x)) := by
  obtain ⟨q, hq⟩ : ∃ q, q = x / 4503599627370496 := ⟨_, rfl⟩
  obtain ⟨m, hm⟩ : ∃ m, m = x % 4503599627370496 := ⟨_, rfl⟩
  have hq2 : q < 2048 := by omega
  have hm2 : m < 4503599627370496 := by omega
  have g1 : (x : Int) / 4503599627370496 = (q : Int) := by omega
  have g2 : bits .and .u64 (q : Int) 2047 = (q : Int) := by
    have := and_mod q 11 (by omega) (by decide)
    rw [Nat.mod_eq_of_lt (show q < 2 ^ 11 by omega)] at this
    exact this
  have g3 : bits .and .u64 (x : Int) 4503599627370495 = (m : Int) := by
    have := and_mod x 52 (by omega) (by decide)
    rw [hm]
    exact this
  have g4 : bits .or .u64 (m : Int) 4503599627370496 = ((m + 4503599627370496 : Nat) : Int) := or_up (c := m) (X := 4503599627370496) (s := 52) (by omega) ⟨1, by decide⟩ (by omega)
  have g5 : (x : Int) / 9223372036854775808 = 0 := by omega
  have HR0 : mgn x = (if q = 0 then m else (m + 4503599627370496) * 2 ^ (q - 1)) := by
    unfold mgn
    by_cases h0 : x < 4503599627370496
    · rw [if_pos h0, if_pos (by omega)]; omega
    · rw [if_neg h0, if_neg (by omega), ← hm, ← hq, Nat.add_comm]
  have i0 := IntB.new w (.bool false) (.slice none 0 0)
  have b0 : Below w.heap.size w (w.alloc (.cells #[.bool false, .slice none 0 0] 85)) := bla _ (Below.refl _ _)
  obtain ⟨M, hM⟩ : ∃ M, M = m + 4503599627370496 := ⟨_, rfl⟩
  rw [← hM] at g4 HR0
  have hM2 : M < 9007199254740992 := by omega
  replace HR0 := hid HR0
  replace hq := hid hq
  replace hm := hid hm
  replace hM := hid hM
  obtain ⟨R, hRd⟩ : ∃ R, R = mgn x := ⟨_, rfl⟩
  rw [← hRd] at HR0 ⊢
  replace hRd := hid hRd
  by_cases hq0 : q = 0
  · have g6 : ((q : Int) == 0) = true := by simp [hq0]
    have HR := hid (show R = m * 2 ^ 0 by rw [HR0.out, if_pos hq0, Nat.pow_zero, Nat.mul_one])
    have HO := hid fun w' => wOf_any w' m (by unfold IsW; omega)
    have HU := hid fun w' v (hv : Wn w' v m) => (show Calls Tryz.prog 72 #[.agg #[.bool false, v], .int .i64 0] w' (RetI w' false (m * 2 ^ 0)) from wUp_any w' false v m 0 hv (by have := wds_len m 2 (by omega); omega) (by decide))
    rw [← HR.out] at HU
    clear hx hq0
    go_enter Tryz.func46, Tryz.ntmps46
    go_wp2_with (first
      | (go_at_call 50; (with_reducible refine (HO.out _).mono ?_); rintro E1 w2 ⟨v1, rfl, hv1, hb1⟩)
      | (go_at_call 72; (with_reducible refine (HU.out _ _ hv1).mono ?_); rintro E3 w3 ⟨v3, rfl, hv3, hb3⟩; obtain ⟨va, vc, rfl⟩ := hv3.sl; have b3 := bla (.cells #[.bool false, .slice va (wds R).length vc] 85) (bl2 (bl2 b0 hb1) hb3); have i3 := ((i0.below hb1).below hb3).alloc (.cells #[.bool false, .slice va (wds R).length vc] 85); have a0 := i3.c0; have a1 := i3.c1; have a2 := i3.fr 0; have a3 := i3.fr 1))
    all_goals
      have z1 := i3.set (.bool false) (.slice va (wds R).length vc)
      have z2 := Wn.set2 (hv3.alloc (.cells #[.bool false, .slice va (wds R).length vc] 85)) i3 (fun d e => by cases e) (fun d e => by cases e) false (.slice va (wds R).length vc)
      have z3 := below_set2i b3 (Nat.le_refl _) (.bool false) (.slice va (wds R).length vc)
      refine bodyPost_ret (results_int rfl _ _ w.heap.size (.bool false) (.slice va (wds R).length vc) rfl z1.c0 z1.c1) rfl ?_
      exact ⟨_, rfl, z2, z3⟩
  · obtain ⟨e, he⟩ : ∃ e, q = e + 1 := ⟨q - 1, by omega⟩
    have g6 : ((q : Int) == 0) = false := by rw [beq_eq_false_iff_ne]; omega
    have g7 : (q : Int) - 1 = (e : Int) := by omega
    have HR := hid (show R = M * 2 ^ e by rw [HR0.out, if_neg hq0, he, Nat.add_sub_cancel])
    have HO := hid fun w' => wOf_any w' M (by unfold IsW; omega)
    have HU := hid fun w' v (hv : Wn w' v M) => wUp_any w' false v M e hv (by have := wds_len M 2 (by omega); omega) (by omega)
    rw [← HR.out] at HU
    clear hx hq0 he
    go_enter Tryz.func46, Tryz.ntmps46
    go_wp2_with (first
      | (go_at_call 50; (with_reducible refine (HO.out _).mono ?_); rintro E1 w2 ⟨v1, rfl, hv1, hb1⟩)
      | (go_at_call 72; (with_reducible refine (HU.out _ _ hv1).mono ?_); rintro E3 w3 ⟨v3, rfl, hv3, hb3⟩; obtain ⟨va, vc, rfl⟩ := hv3.sl; have b3 := bla (.cells #[.bool false, .slice va (wds R).length vc] 85) (bl2 (bl2 b0 hb1) hb3); have i3 := ((i0.below hb1).below hb3).alloc (.cells #[.bool false, .slice va (wds R).length vc] 85); have a0 := i3.c0; have a1 := i3.c1; have a2 := i3.fr 0; have a3 := i3.fr 1))
    all_goals
      have z1 := i3.set (.bool false) (.slice va (wds R).length vc)
      have z2 := Wn.set2 (hv3.alloc (.cells #[.bool false, .slice va (wds R).length vc] 85)) i3 (fun d e => by cases e) (fun d e => by cases e) false (.slice va (wds R).length vc)
      have z3 := below_set2i b3 (Nat.le_refl _) (.bool false) (.slice va (wds R).length vc)
      refine bodyPost_ret (results_int rfl _ _ w.heap.size (.bool false) (.slice va (wds R).length vc) rfl z1.c0 z1.c1) rfl ?_
      exact ⟨_, rfl, z2, z3⟩
end Go.Proofs.YtfalbdlfopfgcaaGreatDoor
