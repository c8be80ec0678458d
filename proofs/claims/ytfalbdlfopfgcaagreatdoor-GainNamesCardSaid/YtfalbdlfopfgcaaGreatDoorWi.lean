/- gridworkwide.Mul: a product. Conditions: neither number stands behind a -; the rows not too long. -/
import Derived.Test.YtfalbdlfopfgcaaGreatDoorWh
import Derived.Deep.QuietTactic
import Derived.BigQuiet
namespace Go.Proofs.YtfalbdlfopfgcaaGreatDoor
open Go.RowKit

def MulO (w1 : World) (B : Nat) (A Bl : List Nat) (v : Value) (i : Value) (w' : World) : Prop := ∃ (k : Nat) (O : List Nat), i = .int .i64 (k : Int) ∧ k ≤ A.length ∧ Wok O ∧ wv O = wv (A.take k) * wv Bl ∧ (∀ j, k + Bl.length ≤ j → j < A.length + Bl.length → O[j]? = some 0) ∧ w'.ownsRow B 90 1 v (A.length + Bl.length) (O.map wrd) ∧ Below B w1 w'
def MulI (w1 : World) (B : Nat) (A Bl : List Nat) (v : Value) (O0 : List Nat) (i x : Nat) (bo kv : Value) (w' : World) : Prop := ∃ (k c : Nat) (O : List Nat), kv = .int .i64 (k : Int) ∧ bo = .int .u64 (c : Int) ∧ k ≤ Bl.length ∧ c < 4294967296 ∧ Wok O ∧ wv O + c * 4294967296 ^ (i + k) = wv O0 + x * wv (Bl.take k) * 4294967296 ^ i ∧ (∀ j, i + Bl.length ≤ j → j < A.length + Bl.length → O[j]? = some 0) ∧ w'.ownsRow B 90 1 v (A.length + Bl.length) (O.map wrd) ∧ Below B w1 w'
set_option maxRecDepth 100000 in
set_option maxHeartbeats 4000000 in
theorem wMul_any (w : World) (va vb : Value) (a b : Nat) (ha : Wn w va a) (hb : Wn w vb b) (hal : (wds a).length ≤ 100000) (hbl : (wds b).length ≤ 100000) : Calls Tryz.prog 79 #[.agg #[.bool false, va], .agg #[.bool false, vb]] w (RetI w false (a * b)) := by
  obtain ⟨aa, ca, rfl, -, -, hca⟩ := Sl.cw ha
  obtain ⟨ab, cb, rfl, -, -, hcb⟩ := Sl.cw hb
  clear ha hb
  obtain ⟨A, hA⟩ : ∃ l, l = wds a := ⟨_, rfl⟩
  have HA := hid (show wv A = a by rw [hA, wv_wds])
  have HKA := hid (show Wok A by rw [hA]; exact wok_wds a)
  obtain ⟨Bl, hBl⟩ : ∃ l, l = wds b := ⟨_, rfl⟩
  have HB := hid (show wv Bl = b by rw [hBl, wv_wds])
  have HKB := hid (show Wok Bl by rw [hBl]; exact wok_wds b)
  rw [← hA] at hal hca ⊢
  rw [← hBl] at hbl hcb ⊢
  clear hA hBl
  obtain ⟨w1, hw1⟩ : ∃ w1, w1 = ((w.alloc (.cells #[.bool false, .slice aa A.length ca] 85)).alloc (.cells #[.bool false, .slice ab Bl.length cb] 85)).alloc (.cells #[.bool false, .slice none 0 0] 85) := ⟨_, rfl⟩
  have b1 : Below w.heap.size w w1 := by rw [hw1]; exact (((Below.refl _ w).alloc (Nat.le_refl _) _).alloc (by simp) _).alloc (by simp; omega) _
  have z1 : w1.heap.size = w.heap.size + 1 + 1 + 1 := by rw [hw1]; simp
  have i0 : IntB w1 w.heap.size (.bool false) (.slice aa A.length ca) := by rw [hw1]; exact ((IntB.new w _ _).alloc _).alloc _
  have i1 : IntB w1 (w.heap.size + 1) (.bool false) (.slice ab Bl.length cb) := by
    rw [hw1]
    have := IntB.new (w.alloc (.cells #[.bool false, .slice aa A.length ca] 85)) (.bool false) (.slice ab Bl.length cb)
    rw [World.size_alloc] at this
    exact this.alloc _
  have i2 : IntB w1 (w.heap.size + 1 + 1) (.bool false) (.slice none 0 0) := by
    rw [hw1]
    have := IntB.new ((w.alloc (.cells #[.bool false, .slice aa A.length ca] 85)).alloc (.cells #[.bool false, .slice ab Bl.length cb] 85)) (.bool false) (.slice none 0 0)
    rw [World.size_alloc, World.size_alloc] at this
    exact this
  obtain ⟨n, hn⟩ : ∃ n, n = A.length + Bl.length := ⟨_, rfl⟩
  have gn : (A.length : Int) + (Bl.length : Int) = (n : Int) := by omega
  have hn2 : n ≤ 200000 := by omega
  have hmk := made_u32 n (by omega)
  have hown : (w1.alloc (.cells (Array.replicate n (Value.int .u32 0)) 90)).ownsRow (w.heap.size + 1 + 1 + 1) 90 1 (.slice (some ⟨w.heap.size + 1 + 1 + 1, 0, none⟩) n n) n ((List.replicate n 0).map wrd) := by
    refine ⟨by simp, .inr ⟨w.heap.size + 1 + 1 + 1, n, Array.replicate n (Value.int .u32 0), rfl, Nat.le_refl _, ?_, Nat.le_refl _, by simp only [maxLen]; omega, by simp, ?_⟩⟩
    · rw [← z1]
      show (w1.heap.push _)[w1.heap.size]? = _
      simp
    · simp [wrd]
  have bw : Below (w.heap.size + 1 + 1 + 1) w1 (w1.alloc (.cells (Array.replicate n (Value.int .u32 0)) 90)) := (Below.refl _ _).alloc (by omega) _
  have HN := hid hn
  clear hn
  go_enter Tryz.func79, Tryz.ntmps79
  go_wp2
  rw [← hw1]
  have HO0 := hid hown
  have HB0 := hid bw
  obtain ⟨w2, hw2⟩ : ∃ w2, w2 = w1.alloc (.cells (Array.replicate n (Value.int .u32 0)) 90) := ⟨_, rfl⟩
  rw [← hw2] at HO0 HB0 ⊢
  have I0 := hid i0
  have I1 := hid i1
  have I2 := hid i2
  have hz1 := hid z1
  clear hw1 hw2 hmk hown bw i0 i1 i2 z1
  go_loopw [6] (fun i w' => MulO w1 (w.heap.size + 1 + 1 + 1) A Bl (.slice (some ⟨w.heap.size + 1 + 1 + 1, 0, none⟩) n n) i w') (fun i _ => A.length + 1 - (intOf i).toNat)
  case atStart => exact ⟨0, List.replicate n 0, rfl, Nat.zero_le _, wok_rep n, by rw [wv_replicate]; simp [wv], fun j _ hj => by rw [List.getElem?_replicate, if_pos (by rw [HN.out]; exact hj)], by rw [← HN.out]; exact HO0.out, HB0.out⟩
  case round =>
    obtain ⟨i, O0, rfl, hi, hok, hval, hzer, hown, hbw⟩ := hrel
    have hBs : w.heap.size + 1 + 1 + 1 ≤ wr.heap.size := by have := hbw.size; rw [hz1.out] at this; exact this
    have j0 := I0.out.of hbw (by omega)
    have j1 := I1.out.of hbw (by omega)
    have x1 := j0.c1
    have y1 := j1.c1
    by_cases hil : i < A.length
    · obtain ⟨x, hx⟩ : ∃ x, A[i]? = some x := ⟨A[i]'hil, List.getElem?_eq_getElem hil⟩
      obtain ⟨ba, oa, rfl, hcell⟩ := hca i x hx
      have hba := World.block_lt_of_cell? _ _ (hcell i x hx)
      have hxl := wok_get HKA.out hx
      have HX := hid hx
      have HCA := hid (hcell i x hx)
      have HV := hid hval
      have HZ := hid hzer
      have HO := hid hown
      have HB2 := hid hbw
      have HOK := hid hok
      clear hx hcell hca hval hzer hown hbw hok
      go_wp2
      go_loopw [7, 8] (fun bo kv w' => MulI w1 (w.heap.size + 1 + 1 + 1) A Bl (.slice (some ⟨w.heap.size + 1 + 1 + 1, 0, none⟩) n n) O0 i x bo kv w') (fun _ k _ => Bl.length + 1 - (intOf k).toNat)
      case atStart => exact ⟨0, 0, O0, rfl, rfl, Nat.zero_le _, by decide, HOK.out, by simp [wv], HZ.out, HO.out, HB2.out⟩
      case round =>
        clear x1 y1 j0 j1
        obtain ⟨k, c, O, rfl, rfl, hk, hc, hok, heq, hzer, hown, hbw⟩ := hrel
        have j0 := I0.out.of hbw (by omega)
        have j1 := I1.out.of hbw (by omega)
        have x1 := j0.c1
        have y1 := j1.c1
        have hlen := own_len hown
        by_cases hkl : k < Bl.length
        · obtain ⟨y, hy⟩ : ∃ y, Bl[k]? = some y := ⟨Bl[k]'hkl, List.getElem?_eq_getElem hkl⟩
          obtain ⟨bb, ob, rfl, hcellb⟩ := hcb k y hy
          have hbb := World.block_lt_of_cell? _ _ (hcellb k y hy)
          have hyl := wok_get HKB.out hy
          obtain ⟨z, hz⟩ : ∃ z, O[i + k]? = some z := ⟨O[i + k]'(by omega), List.getElem?_eq_getElem (by omega)⟩
          have hzl := wok_get hok hz
          obtain ⟨g, cap, hv, hg, hgl, c3, f3⟩ := own_w hown hz
          have hg2 : w.heap.size + 1 + 1 + 1 = g := by simp at hv; exact hv.1
          subst hg2
          clear hv
          have c1 := ((b1.trans (below_mono' hbw (by omega))).cell (p := ⟨ba, oa + i, none⟩) hba).trans HCA.out
          have c2 := ((b1.trans (below_mono' hbw (by omega))).cell (p := ⟨bb, ob + k, none⟩) hbb).trans (hcellb k y hy)
          obtain ⟨q1, q2, q3, q4⟩ := ml_step hc hxl hz hzl HKB.out hy heq
          have HQ := hid q1
          have HY := hid hy
          have HZ1 := hid hz
          have HOO := hid hown
          have HOK1 := hid hok
          have HZZ := hid hzer
          have HBW := hid hbw
          clear q1 hy hz hown hok hzer hcellb heq hcb
          obtain ⟨p, hp⟩ : ∃ p, p = i + k := ⟨_, rfl⟩
          rw [← hp] at c3 f3
          obtain ⟨P, hP⟩ : ∃ P, P = x * y := ⟨_, rfl⟩
          rw [← hP] at q2 q3 q4
          have m1 : (x : Int) * (y : Int) = (P : Int) := by rw [hP]; push_cast; rfl
          have m2 : IntKind.u64.wrap (P : Int) = (P : Int) := by rw [IntKind.wrap_u64]; omega
          obtain ⟨S1, hS1⟩ : ∃ S1, S1 = c + P := ⟨_, rfl⟩
          rw [← hS1] at q2 q3
          have m3 : (c : Int) + (P : Int) = (S1 : Int) := by omega
          have m4 : IntKind.u64.wrap (S1 : Int) = (S1 : Int) := by rw [IntKind.wrap_u64]; omega
          obtain ⟨S, hS⟩ : ∃ S, S = S1 + z := ⟨_, rfl⟩
          rw [← hS] at q2 q3
          have m5 : (S1 : Int) + (z : Int) = (S : Int) := by omega
          have m6 : IntKind.u64.wrap (S : Int) = (S : Int) := by rw [IntKind.wrap_u64]; omega
          have m7 : (i : Int) + (k : Int) = (p : Int) := by omega
          have m8 : IntKind.i64.wrap (p : Int) = (p : Int) := IntWalk.i64_in _ (by omega)
          obtain ⟨d, hd⟩ : ∃ d, d = S % 4294967296 := ⟨_, rfl⟩
          have g7 : IntKind.u32.wrap (S : Int) = (d : Int) := by rw [IntKind.wrap_u32]; omega
          obtain ⟨e, he⟩ : ∃ e, e = S / 4294967296 := ⟨_, rfl⟩
          have g8 : (S : Int) / 4294967296 = (e : Int) := by omega
          have t1 : (i : Int) < (A.length : Int) := by omega
          have t2 : (k : Int) < (Bl.length : Int) := by omega
          have t3 : (p : Int) < (n : Int) := by have := HN.out; omega
          have t4 : p < n := by omega
          replace hp := hid hp
          replace hP := hid hP
          replace hS1 := hid hS1
          replace hS := hid hS
          replace hd := hid hd
          replace he := hid he
          go_wp2
          go_quiet (fail)
          clear c1 c2 x1 y1 m1 m2 m3 m4 m5 m6 t1 t2
          go_wp2
          have hoo := HOO.out
          rw [← HN.out] at hoo
          have ho2 := (hoo.stored p (wrd d)).1
          rw [← List.map_set] at ho2
          have hdl : d < 4294967296 := by rw [hd.out]; exact Nat.mod_lt _ (by decide)
          have hel : e < 4294967296 := by rw [he.out]; exact q2
          have hS' : c + x * y + z = S := by rw [← hP.out, ← hS1.out, ← hS.out]
          have hq := HQ.out
          rw [hS', ← hd.out, ← he.out, ← hp.out] at hq
          go_roundw
          case rel => exact ⟨k + 1, e, O.set p d, by go_num, rfl, hkl, hel, wok_set HOK1.out p hdl, hq, (fun j h1 h2 => by rw [List.getElem?_set_ne (by have := hp.out; omega)]; exact HZZ.out j h1 h2), by rw [← HN.out]; exact owns_drewN ho2 nq, below_st (below_drewN' HBW.out nq) hg p _⟩
          case measure => simp [intOf]; omega
        · obtain rfl : k = Bl.length := by omega
          have hzc := hzer (i + Bl.length) (Nat.le_refl _) (by omega)
          obtain ⟨g, cap, hv, hg, hgl, c3, f3⟩ := own_w hown hzc
          have hg2 : w.heap.size + 1 + 1 + 1 = g := by simp at hv; exact hv.1
          subst hg2
          clear hv
          have hml := hid (ml_end (A := A) HX.out HV.out hzc heq)
          have HOO := hid hown
          have HOK1 := hid hok
          have HZZ := hid hzer
          have HBW := hid hbw
          clear hown hok hzer heq hzc
          obtain ⟨p, hp⟩ : ∃ p, p = i + Bl.length := ⟨_, rfl⟩
          rw [← hp] at c3 f3 hml
          have m7 : (i : Int) + (Bl.length : Int) = (p : Int) := by omega
          have g7 : IntKind.u32.wrap (c : Int) = (c : Int) := by rw [IntKind.wrap_u32]; omega
          have t4 : p < n := by have := HN.out; omega
          replace hp := hid hp
          have hoo := HOO.out
          rw [← HN.out] at hoo
          have ho2 := (hoo.stored p (wrd c)).1
          clear hoo
          rw [← List.map_set] at ho2
          have HO2 := hid ho2
          clear ho2
          go_wp2
          go_roundw
          case rel => exact ⟨i + 1, O.set p c, by go_num, hil, wok_set HOK1.out p hc, hml.out, (fun j h1 h2 => by rw [List.getElem?_set_ne (by have := hp.out; omega)]; exact HZZ.out j (by omega) h2), by rw [← HN.out]; exact HO2.out, below_st HBW.out hg p _⟩
          case measure => simp [intOf]; omega
    · obtain rfl : i = A.length := by omega
      have j2 := I2.out.of hbw (by omega)
      have e0 := j0.c0
      have e1 := j1.c0
      have d0 := j2.c0
      have d1 := j2.c1
      have d2 := j2.fr 0
      have d3 := j2.fr 1
      rw [List.take_length] at hval
      have hlen := own_len hown
      rw [← HN.out] at hown hlen
      obtain ⟨T, hT⟩ : ∃ T, T = trimN O0 O0.length := ⟨_, rfl⟩
      have HTr := hid (trim_own wr _ _ n O0 (by omega) hown)
      rw [← hT] at HTr
      replace hT := hid hT
      have hfin := hid (int_fin (N := a * b) (b1.trans (below_mono' hbw (by omega))) (show w.heap.size ≤ w.heap.size + 1 + 1 by omega) j2 (fun d e => by cases e) (fun d e => by cases e) false hown hok (by rw [hval, HA.out, HB.out]) hT.out)
      have J7 := j2.set (.bool false) (.slice (some ⟨w.heap.size + 1 + 1 + 1, 0, none⟩) T n)
      clear hown hval hzer hca hcb HO0 j2
      by_cases hT0 : 0 < T
      · go_wp2_with (go_at_call 80; (with_reducible refine HTr.out.mono ?_); rintro E3 w3 ⟨rfl, rfl⟩)
        refine bodyPost_ret (results_int rfl _ _ (w.heap.size + 1 + 1) (.bool false) (.slice (some ⟨w.heap.size + 1 + 1 + 1, 0, none⟩) T n) rfl J7.c0 J7.c1) rfl ?_
        exact hfin.out
      · go_wp2_with (go_at_call 80; (with_reducible refine HTr.out.mono ?_); rintro E3 w3 ⟨rfl, rfl⟩)
        refine bodyPost_ret (results_int rfl _ _ (w.heap.size + 1 + 1) (.bool false) (.slice (some ⟨w.heap.size + 1 + 1 + 1, 0, none⟩) T n) rfl J7.c0 J7.c1) rfl ?_
        exact hfin.out
end Go.Proofs.YtfalbdlfopfgcaaGreatDoor

