/- gridworkwide.Divide, Ten; gridworkref05.Ten. Conditions: neither number stands behind a -; the divisor is not 0, the quotient below 2^64; the rows not too long. -/
import Derived.Test.YtfalbdlfopfgcaaGreatDoorWi
import Derived.Deep.CutRange
import Derived.Deep.RegionLaw
namespace Go.Proofs.YtfalbdlfopfgcaaGreatDoor
open Go.RowKit

theorem bl2 {a b c : World} (h : Below a.heap.size a b) (h2 : Below b.heap.size b c) : Below a.heap.size a c := h.trans (h2.mono h.size)
theorem bla {a b : World} (o : Obj) (h : Below a.heap.size a b) : Below a.heap.size a (b.alloc o) := h.alloc h.size o
theorem bld {a b : World} (h : Below a.heap.size a b) : Below a.heap.size a b.drew := h.drew
theorem bldn {a b : World} (h : Below a.heap.size a b) (n : Nat) : Below a.heap.size a (b.drewN n) := below_drewN' h n
theorem results_ti {fn : Func} {t p : Tmp} (h : fn.results = #[.tmp t, .cell p 85]) (tmps : Array Value) (w : World) (b : Nat) (x y : Value) (hp : tmps.getD p undef = .pointer (some ⟨b, 0, none⟩)) (c0 : w.cell? ⟨b, 0, none⟩ = some x) (c1 : w.cell? ⟨b, 1, none⟩ = some y) : (results fn tmps).run Tryz.prog w = .ok (.tuple #[tmps.getD t undef, .agg #[x, y]]) w := by
  simp only [Array.getD_eq_getD_getElem?] at hp ⊢
  simp [results, h, hp, go_sem, c0, c1, Sem.run_bind, Result.andThen]
@[go_sem high] theorem run_field1 (b : Bool) (a : Option Addr) (n c : Nat) (w : World) : (Instr.field 85 (.agg #[.bool b, .slice a n c]) 1).run Tryz.prog w = .ok (.slice a n c) w := by kernel_rfl
/-- Three boxes laid one behind the other. -/
theorem box3 (w : World) (x0 y0 x1 y1 x2 y2 : Value) : ∃ w1, w1 = ((w.alloc (.cells #[x0, y0] 85)).alloc (.cells #[x1, y1] 85)).alloc (.cells #[x2, y2] 85) ∧ w1.heap.size = w.heap.size + 1 + 1 + 1 ∧ Below w.heap.size w w1 ∧ IntB w1 w.heap.size x0 y0 ∧ IntB w1 (w.heap.size + 1) x1 y1 ∧ IntB w1 (w.heap.size + 1 + 1) x2 y2 := by
  refine ⟨_, rfl, by simp, bla _ (bla _ (bla _ (Below.refl _ w))), ((IntB.new w _ _).alloc _).alloc _, ?_, ?_⟩
  · have := IntB.new (w.alloc (.cells #[x0, y0] 85)) x1 y1
    rw [World.size_alloc] at this
    exact this.alloc _
  · have := IntB.new ((w.alloc (.cells #[x0, y0] 85)).alloc (.cells #[x1, y1] 85)) x2 y2
    rw [World.size_alloc, World.size_alloc] at this
    exact this
theorem cmp_lt0 {a b : Nat} (h : a < b) : cmpN a b = -1 := by unfold cmpN; rw [if_pos h]
theorem cmp_ge0 {a b : Nat} (h : b ≤ a) : 0 ≤ cmpN a b ∧ cmpN a b ≤ 1 := by unfold cmpN; rw [if_neg (by omega)]; split <;> omega
theorem dv_yes {a b o r j : Nat} (h : a = o * 2 ^ (j + 1) * b + r) (hr : r < 2 ^ (j + 1) * b) (ht : b * 2 ^ j ≤ r) : a = (2 * o + 1) * 2 ^ j * b + (r - b * 2 ^ j) ∧ r - b * 2 ^ j < 2 ^ j * b := by
  rw [Nat.pow_succ] at h hr
  have e1 : o * (2 ^ j * 2) * b = 2 * o * (2 ^ j * b) := by rw [Nat.mul_comm (2 ^ j) 2, ← Nat.mul_assoc, Nat.mul_comm o 2, Nat.mul_assoc]
  have e2 : (2 * o + 1) * 2 ^ j * b = 2 * o * (2 ^ j * b) + 2 ^ j * b := by rw [Nat.mul_assoc, Nat.add_mul, Nat.one_mul]
  have e3 : 2 ^ j * 2 * b = 2 * (2 ^ j * b) := by rw [Nat.mul_comm (2 ^ j) 2, Nat.mul_assoc]
  rw [Nat.mul_comm b] at ht ⊢
  rw [e2]
  rw [e1] at h
  rw [e3] at hr
  omega
theorem dv_no {a b o r j : Nat} (h : a = o * 2 ^ (j + 1) * b + r) (ht : r < b * 2 ^ j) : a = 2 * o * 2 ^ j * b + r ∧ r < 2 ^ j * b := by
  rw [Nat.pow_succ] at h
  have e1 : o * (2 ^ j * 2) * b = 2 * o * (2 ^ j * b) := by rw [Nat.mul_comm (2 ^ j) 2, ← Nat.mul_assoc, Nat.mul_comm o 2, Nat.mul_assoc]
  rw [Nat.mul_comm b] at ht
  rw [e1] at h
  rw [Nat.mul_assoc (2 * o)]
  exact ⟨h, ht⟩
theorem dv_o {a b o r j : Nat} (h : a = o * 2 ^ j * b + r) (hb : 0 < b) (hq : a / b < 18446744073709551616) : o * 2 ^ j < 18446744073709551616 := by
  refine Nat.lt_of_le_of_lt ?_ hq
  rw [Nat.le_div_iff_mul_le hb]
  omega
/-- What is left to be done: j bits of the quotient. -/
def DvLoop (w1 : World) (B a b J : Nat) (kv ov rv tv : Value) (w' : World) : Prop := ∃ j o r : Nat, kv = .int .i64 ((j : Int) - 1) ∧ ov = .int .u64 (o : Int) ∧ j ≤ J ∧ a = o * 2 ^ j * b + r ∧ r < 2 ^ j * b ∧ Wn w' rv r ∧ Wn w' tv (b * 2 ^ j / 2) ∧ Below B w1 w'
set_option maxRecDepth 100000 in
set_option maxHeartbeats 4000000 in
theorem wDivide_any (w : World) (va vb : Value) (a b : Nat) (ha : Wn w va a) (hb : Wn w vb b) (hal : (wds a).length ≤ 3000) (hbl : (wds b).length ≤ 3000) (hb0 : 0 < b) (hq : a / b < 18446744073709551616) : Calls Tryz.prog 75 #[.agg #[.bool false, va], .agg #[.bool false, vb]] w fun E w' => ∃ v, E = .returned (.tuple #[.int .u64 ((a / b : Nat) : Int), .agg #[.bool false, v]]) ∧ Wn w' v (a % b) ∧ Below w.heap.size w w' := by
  obtain ⟨aa, ca, rfl⟩ := ha.sl
  obtain ⟨ab, cb, rfl⟩ := hb.sl
  obtain ⟨la, hla⟩ : ∃ n, n = (wds a).length := ⟨_, rfl⟩
  obtain ⟨lb, hlb⟩ : ∃ n, n = (wds b).length := ⟨_, rfl⟩
  rw [← hla] at ha hal ⊢
  rw [← hlb] at hb hbl ⊢
  replace hla := hid hla
  replace hlb := hid hlb
  obtain ⟨w1, hw1, z1, b1, i0, i1, i2⟩ := box3 w (.bool false) (.slice aa la ca) (.bool false) (.slice ab lb cb) (.bool false) (.slice none 0 0)
  have ha1 := ha.below b1
  have hb1 := hb.below b1
  have HBa := hid fun w' (h : Below w1.heap.size w1 w') => wBits_any w' false _ a (ha1.below h) (by have := hla.out; omega)
  have HBb := hid fun w' (h : Below w1.heap.size w1 w') => wBits_any w' false _ b (hb1.below h) (by have := hlb.out; omega)
  obtain ⟨ka, hka⟩ : ∃ k, k = bitsN a := ⟨_, rfl⟩
  obtain ⟨kb, hkb⟩ : ∃ k, k = bitsN b := ⟨_, rfl⟩
  rw [← hka] at HBa
  rw [← hkb] at HBb
  have hka2 : ka ≤ 1600000 := by have := bitsN_le_wds a; have := hla.out; omega
  have hkb2 : kb ≤ 1600000 := by have := bitsN_le_wds b; have := hlb.out; omega
  replace hka := hid hka
  replace hkb := hid hkb
  have a0 := i0.c0
  have a1 := i0.c1
  have a2 := i1.c0
  have a3 := i1.c1
  go_enter Tryz.func75, Tryz.ntmps75
  go_upto_region 1 with (fail)
  rw [← hw1]
  have I0 := hid i0
  have I1 := hid i1
  have I2 := hid i2
  clear i0 i1 i2 hw1
  obtain ⟨kd, hkd⟩ : ∃ kd : Int, kd = (ka : Int) - (kb : Int) := ⟨_, rfl⟩
  have gk : (ka : Int) - (kb : Int) = kd := by omega
  have gw : IntKind.i64.wrap kd = kd := IntWalk.i64_in _ (by omega)
  replace hkd := hid hkd
  go_cut [6] from 10 to 14 (fun x wx => x = .int .i64 kd ∧ Below w1.heap.size w1 wx)
  case first =>
    go_region_law (go_simp; go_at_call 45; first | ((with_reducible refine (HBa.out _ ?hb).mono ?_); (case hb => (repeat (first | with_reducible exact Below.refl _ _ | with_reducible refine bla _ ?_ | with_reducible refine bld ?_ | with_reducible refine bldn ?_ _ | (with_reducible refine bl2 ?_ (by assumption))))); rintro E2 w2 ⟨rfl, hb2⟩; have J0 := I0.out.below (w' := w2) (by (repeat (first | with_reducible exact Below.refl _ _ | with_reducible refine bla _ ?_ | with_reducible refine bld ?_ | with_reducible refine bldn ?_ _ | (with_reducible refine bl2 ?_ (by assumption))))); have J1 := I1.out.below (w' := w2) (by (repeat (first | with_reducible exact Below.refl _ _ | with_reducible refine bla _ ?_ | with_reducible refine bld ?_ | with_reducible refine bldn ?_ _ | (with_reducible refine bl2 ?_ (by assumption))))); have e0 := J0.c0; have e1 := J0.c1; have e2 := J1.c0; have e3 := J1.c1) | ((with_reducible refine (HBb.out _ ?hb).mono ?_); (case hb => (repeat (first | with_reducible exact Below.refl _ _ | with_reducible refine bla _ ?_ | with_reducible refine bld ?_ | with_reducible refine bldn ?_ _ | (with_reducible refine bl2 ?_ (by assumption))))); rintro E3 w3 ⟨rfl, hb3⟩; have J0 := I0.out.below (w' := w3) (by (repeat (first | with_reducible exact Below.refl _ _ | with_reducible refine bla _ ?_ | with_reducible refine bld ?_ | with_reducible refine bldn ?_ _ | (with_reducible refine bl2 ?_ (by assumption))))); have J1 := I1.out.below (w' := w3) (by (repeat (first | with_reducible exact Below.refl _ _ | with_reducible refine bla _ ?_ | with_reducible refine bld ?_ | with_reducible refine bldn ?_ _ | (with_reducible refine bl2 ?_ (by assumption))))); have d0 := J0.c0; have d1 := J0.c1; have d2 := J1.c0; have d3 := J1.c1))
    all_goals
      go_wp2
      go_meet
      exact ⟨rfl, by (repeat (first | with_reducible exact Below.refl _ _ | with_reducible refine bla _ ?_ | with_reducible refine bld ?_ | with_reducible refine bldn ?_ _ | (with_reducible refine bl2 ?_ (by assumption))))⟩
  obtain ⟨rfl, hbc⟩ := hcut
  clear a0 a1 a2 a3 HBa HBb gk
  have hBs : w.heap.size + 1 + 1 + 1 ≤ wc.heap.size := by have := hbc.size; omega
  have J0 := I0.out.below hbc
  have J1 := I1.out.below hbc
  have J2 := I2.out.below hbc
  have a0 := J0.c0
  have a1 := J0.c1
  have a2 := J1.c0
  have a3 := J1.c1
  have a4 := J2.c0
  have a5 := J2.c1
  have a6 := J2.fr 0
  have a7 := J2.fr 1
  by_cases hneg : kd < 0
  · have hlt : a < b := by
      have h1 := bits_lt a
      have h2 := bits_le (Nat.ne_of_gt hb0)
      rw [← hka.out] at h1
      rw [← hkb.out] at h2
      have h3 := Nat.pow_le_pow_right (show 0 < 2 by decide) (show ka ≤ kb - 1 by have := hkd.out; omega)
      omega
    have HD := hid (Nat.div_eq_of_lt hlt)
    have HM := hid (Nat.mod_eq_of_lt hlt)
    have J3 := J2.set (.bool false) (.slice aa la ca)
    have hfin : Wn ((wc.setCell ⟨w.heap.size + 1 + 1, 0, none⟩ (.bool false)).setCell ⟨w.heap.size + 1 + 1, 1, none⟩ (.slice aa la ca)) (.slice aa la ca) a := ha.below (below_set2i (b1.trans (hbc.mono b1.size)) (by omega) _ _)
    have hbf : Below w.heap.size w ((wc.setCell ⟨w.heap.size + 1 + 1, 0, none⟩ (.bool false)).setCell ⟨w.heap.size + 1 + 1, 1, none⟩ (.slice aa la ca)) := below_set2i (b1.trans (hbc.mono b1.size)) (by omega) _ _
    clear hlt J0 J1 J2 I0 I1 I2
    go_wp2
    go_region_law (fail)
    all_goals
      go_wp2
      refine bodyPost_ret (results_ti rfl _ _ (w.heap.size + 1 + 1) (.bool false) (.slice aa la ca) rfl J3.c0 J3.c1) rfl ?_
      exact ⟨_, by rw [HD.out]; rfl, by rw [HM.out]; exact hfin, hbf.drew⟩
  · obtain ⟨K, hK⟩ : ∃ K : Nat, kd = (K : Int) := ⟨kd.toNat, by omega⟩
    subst hK
    have hK2 : K ≤ 96000 := by have := hkd.out; have := hka.out; have := bitsN_le_wds a; have := hla.out; omega
    have hba : b * 2 ^ K < 4294967296 ^ (wds a).length := by
      have h1 := bits_lt b
      have h2 := bitsN_le_wds a
      calc b * 2 ^ K < 2 ^ bitsN b * 2 ^ K := Nat.mul_lt_mul_of_pos_right h1 (Nat.two_pow_pos _)
        _ = 2 ^ (bitsN b + K) := (Nat.pow_add ..).symm
        _ ≤ 2 ^ (32 * (wds a).length) := Nat.pow_le_pow_right (by decide) (by have := hkd.out; have := hka.out; have := hkb.out; omega)
        _ = 4294967296 ^ (wds a).length := by rw [Nat.pow_mul]
    have hrb : a < 2 ^ (K + 1) * b := by
      have h1 := bits_lt a
      have h2 := bits_le (Nat.ne_of_gt hb0)
      have h3 := bits_pos (Nat.ne_of_gt hb0)
      calc a < 2 ^ bitsN a := h1
        _ ≤ 2 ^ (K + 1 + (bitsN b - 1)) := Nat.pow_le_pow_right (by decide) (by have := hkd.out; have := hka.out; have := hkb.out; omega)
        _ = 2 ^ (K + 1) * 2 ^ (bitsN b - 1) := Nat.pow_add ..
        _ ≤ 2 ^ (K + 1) * b := Nat.mul_le_mul_left _ h2
    have hTl : ∀ j, j ≤ K → (wds (b * 2 ^ j)).length ≤ 3000 := fun j hj => by
      have h1 : b * 2 ^ j ≤ b * 2 ^ K := Nat.mul_le_mul_left _ (Nat.pow_le_pow_right (by decide) hj)
      have h2 := wds_len (b * 2 ^ j) (wds a).length (Nat.lt_of_le_of_lt h1 hba)
      have := hla.out
      omega
    have HTL := hid hTl
    have HRB := hid hrb
    have HWa := hid (ha1.below hbc)
    have HUp := hid fun w' (h : Below wc.heap.size wc w') => wUp_any w' false (.slice ab lb cb) b K ((hb1.below hbc).below h) (by have := hlb.out; omega) (by omega)
    clear hTl hrb hba ha1 hb1 ha hb
    have e2 : (b * 2 ^ (K + 1) / 2) = b * 2 ^ K := by rw [Nat.pow_succ, ← Nat.mul_assoc, Nat.mul_div_cancel _ (by decide)]
    replace e2 := hid e2
    go_wp2_with (go_at_call 72; (with_reducible refine (HUp.out _ (Below.refl _ _)).mono ?_); rintro E3 w3 ⟨tv, rfl, ht, hb3⟩; obtain ⟨ta, tc, rfl⟩ := ht.sl)
    have J3 := J2.below hb3
    have HWa3 := hid (HWa.out.below hb3)
    have HT3 := hid ht
    have hB3 : w.heap.size + 1 + 1 + 1 ≤ w3.heap.size := Nat.le_trans hBs hb3.size
    have b3 : Below w.heap.size w w3 := b1.trans ((hbc.trans (hb3.mono hbc.size)).mono b1.size)
    clear HWa HUp J0 J1 J2 I0 I1 I2 a0 a1 a2 a3 a4 a5 a6 a7 hb3 ht
    go_loopw [6, 7, 8, 9] (fun kv ov rv tv w' => DvLoop w3 w3.heap.size a b (K + 1) kv ov rv tv w') (fun kv _ _ _ _ => (intOf kv + 1).toNat)
    case atStart => exact ⟨K + 1, 0, a, by go_num, rfl, Nat.le_refl _, by simp, HRB.out, HWa3.out, by rw [e2.out]; exact HT3.out, Below.refl _ _⟩
    case round =>
      obtain ⟨j, o, r, rfl, rfl, hj, heq, hr, hrv, htv, hbw⟩ := hrel
      obtain ⟨ra, rc, rfl⟩ := hrv.sl
      obtain ⟨sa, sc, rfl⟩ := htv.sl
      have HEQ := hid heq
      have HR := hid hr
      have ho := dv_o heq hb0 hq
      clear heq hr
      match j, hj, HEQ, HR, htv, ho with
      | 0, hj, HEQ, HR, htv, ho =>
        have hdm : a / b = o ∧ a % b = r := by
          have h1 := HEQ.out
          have h2 := HR.out
          rw [Nat.pow_zero, Nat.mul_one] at h1
          rw [Nat.pow_zero, Nat.one_mul] at h2
          rw [h1, Nat.mul_comm o b]
          exact ⟨by rw [Nat.mul_add_div hb0, Nat.div_eq_of_lt h2, Nat.add_zero], by rw [Nat.mul_add_mod, Nat.mod_eq_of_lt h2]⟩
        have HD := hid hdm
        have J4 := J3.below hbw
        have d0 := J4.c0
        have d1 := J4.c1
        have d2 := J4.fr 0
        have d3 := J4.fr 1
        have J5 := J4.set (.bool false) (.slice ra (wds r).length rc)
        have hfin := Sl.setI (Sl.setI hrv J4 (fun d e => by cases e) (fun d e => by cases e) 0 (.bool false)) (show IntB (wr.setCell ⟨w.heap.size + 1 + 1, 0, none⟩ (.bool false)) (w.heap.size + 1 + 1) (.bool false) (.slice none 0 0) from heap_setCell_same wr _ 0 _ _ (.bool false) J4) (fun d e => by cases e) (fun d e => by cases e) 1 (.slice ra (wds r).length rc)
        have hbf : Below w.heap.size w ((wr.setCell ⟨w.heap.size + 1 + 1, 0, none⟩ (.bool false)).setCell ⟨w.heap.size + 1 + 1, 1, none⟩ (.slice ra (wds r).length rc)) := below_set2i (b3.trans (hbw.mono b3.size)) (by omega) _ _
        clear J3 J4 hdm
        go_wp2
        refine bodyPost_ret (results_ti rfl _ _ (w.heap.size + 1 + 1) (.bool false) (.slice ra (wds r).length rc) rfl J5.c0 J5.c1) rfl ?_
        exact ⟨_, by rw [HD.out.1]; rfl, by rw [HD.out.2]; exact hfin, hbf⟩
      | j + 1, hj, HEQ, HR, htv, ho =>
        have e1 : (((j + 1 : Nat) : Int) - 1) = (j : Int) := by omega
        rw [e1]
        have ht2 : b * 2 ^ (j + 1) / 2 = b * 2 ^ j := by rw [Nat.pow_succ, ← Nat.mul_assoc, Nat.mul_div_cancel _ (by decide)]
        rw [ht2] at htv ⊢
        obtain ⟨T, hT⟩ : ∃ T, T = b * 2 ^ j := ⟨_, rfl⟩
        rw [← hT] at htv ⊢
        have hTl : (wds T).length ≤ 3000 := by rw [hT]; exact HTL.out j (by omega)
        have hral : (wds r).length ≤ 3000 := by
          have h1 : r ≤ a := by have := HEQ.out; omega
          have := wds_len_le h1
          have := hla.out
          omega
        have ho2 : 2 * o < 18446744073709551616 := by
          have h1 : o * 2 ≤ o * 2 ^ (j + 1) := Nat.mul_le_mul_left _ (by rw [Nat.pow_succ]; have := Nat.two_pow_pos j; omega)
          omega
        obtain ⟨o2, hoo⟩ : ∃ o2, o2 = 2 * o := ⟨_, rfl⟩
        have m1 : (o : Int) * 2 = (o2 : Int) := by omega
        have m2 : IntKind.u64.wrap (o2 : Int) = (o2 : Int) := by rw [IntKind.wrap_u64]; omega
        have m3 : bits .or .u64 (o2 : Int) 1 = ((o2 + 1 : Nat) : Int) := by
          have h := or_up (c := 1) (X := o2) (s := 1) (by decide) ⟨o, by rw [hoo]; omega⟩ (by omega)
          rw [bits_or_u64_nat 1 o2 (by omega) (by omega), Nat.or_comm] at h
          exact Eq.trans (bits_or_u64_nat o2 1 (by omega) (by omega)) (Eq.trans h (by omega))
        replace hoo := hid hoo
        replace hT := hid hT
        have HCm := hid fun w' (h : Below wr.heap.size wr w') => wcompare_any w' _ _ r T (hrv.below h) (htv.below h) (by omega) (by omega)
        obtain ⟨C, hC⟩ : ∃ C, C = cmpN r T := ⟨_, rfl⟩
        rw [← hC] at HCm
        by_cases hge : T ≤ r
        · have hc0 := cmp_ge0 hge
          rw [← hC] at hc0
          obtain ⟨hc0, -⟩ := hc0
          replace hC := hid hC
          have q := dv_yes HEQ.out HR.out (by rw [← hT.out]; exact hge)
          rw [← hT.out, ← hoo.out] at q
          have HQ := hid q
          clear q
          have HLs := hid fun w' (h : Below wr.heap.size wr w') => wless_any w' _ _ r T hge (hrv.below h) (htv.below h) (by omega)
          have HHf := hid fun w' (h : Below wr.heap.size wr w') => whalf_any w' _ T (htv.below h) (by omega)
          have HHV := hid htv
          have HRV := hid hrv
          clear htv hrv J3
          go_wp2_with (first
            | (go_at_call 76; (with_reducible refine (HCm.out _ (Below.refl _ _)).mono ?_); rintro E5 w5 ⟨rfl, n5, rfl⟩)
            | (go_at_call 98; (with_reducible refine (HLs.out _ (bldn (Below.refl _ _) _)).mono ?_); rintro E6 w6 ⟨v6, rfl, hv6, hb6⟩; obtain ⟨la6, lc6, rfl⟩ := hv6.sl; have c6 : Below wr.heap.size wr w6 := bl2 (bldn (Below.refl _ _) n5) hb6)
            | (go_at_call 99; (with_reducible refine (HHf.out _ c6).mono ?_); rintro E7 w7 ⟨v7, rfl, hv7, hb7⟩; obtain ⟨la7, lc7, rfl⟩ := hv7.sl))
          go_roundw
          case rel => exact ⟨j, o2 + 1, r - T, rfl, by go_num, by omega, HQ.out.1, HQ.out.2, hv6.below hb7, by rw [← hT.out]; exact hv7, hbw.trans ((c6.trans (hb7.mono c6.size)).mono hbw.size)⟩
          case measure => simp [intOf]
        · have hc0 : C = -1 := by rw [hC]; exact cmp_lt0 (by omega)
          subst hc0
          replace hC := hid hC
          have q := dv_no HEQ.out (by rw [← hT.out]; omega)
          rw [← hoo.out] at q
          have HQ := hid q
          clear q
          have HHf := hid fun w' (h : Below wr.heap.size wr w') => whalf_any w' _ T (htv.below h) (by omega)
          have HHV := hid htv
          have HRV := hid hrv
          clear htv hrv J3
          go_wp2_with (first
            | (go_at_call 76; (with_reducible refine (HCm.out _ (Below.refl _ _)).mono ?_); rintro E5 w5 ⟨rfl, n5, rfl⟩)
            | (go_at_call 99; (with_reducible refine (HHf.out _ (bldn (Below.refl _ _) _)).mono ?_); rintro E7 w7 ⟨v7, rfl, hv7, hb7⟩; obtain ⟨la7, lc7, rfl⟩ := hv7.sl; have c7 : Below wr.heap.size wr w7 := bl2 (bldn (Below.refl _ _) n5) hb7))
          go_roundw
          case rel => exact ⟨j, o2, r, rfl, by go_num, by omega, HQ.out.1, HQ.out.2, HRV.out.below c7, by rw [← hT.out]; exact hv7, hbw.trans (c7.mono hbw.size)⟩
          case measure => simp [intOf]
end Go.Proofs.YtfalbdlfopfgcaaGreatDoor

