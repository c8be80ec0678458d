/- gridworkwide.sum, Add: a sum of two numbers from 0 on. Conditions: the rows not too long. -/
import Derived.Test.YtfalbdlfopfgcaaGreatDoorWjM
namespace Go.Proofs.YtfalbdlfopfgcaaGreatDoor
open Go.RowKit

/-- The word at a place, 0 behind the end. -/
def wat (l : List Nat) (k : Nat) : Nat := (l[k]?).getD 0
theorem wat_lt {l : List Nat} (h : Wok l) (k : Nat) : wat l k < 4294967296 := by
  unfold wat
  cases hk : l[k]? with
  | none => exact (by decide)
  | some d => exact wok_get h hk
theorem wat_in {l : List Nat} {k x : Nat} (h : l[k]? = some x) : wat l k = x := by unfold wat; rw [h]; rfl
theorem wat_out {l : List Nat} {k : Nat} (h : ¬ k < l.length) : wat l k = 0 := by unfold wat; rw [List.getElem?_eq_none (by omega)]; rfl
theorem wv_take_wat (l : List Nat) (k : Nat) : wv (l.take (k + 1)) = wv (l.take k) + wat l k * 4294967296 ^ k := by
  by_cases h : k < l.length
  · have hx : l[k]? = some (wat l k) := by rw [List.getElem?_eq_getElem h]; unfold wat; rw [List.getElem?_eq_getElem h]; rfl
    exact wv_take_succ hx
  · rw [wat_out h, List.take_of_length_le (by omega), List.take_of_length_le (by omega), Nat.zero_mul, Nat.add_zero]
theorem sum_eq {x y c s d e P a b o : Nat} (hs : s = c + x + y) (hd : d = s % 4294967296) (he : e = s / 4294967296) (h : o + c * P = a + b) : o + d * P + e * (P * 4294967296) = a + x * P + (b + y * P) := by
  have h1 : s = 4294967296 * e + d := by rw [hd, he]; exact (Nat.div_add_mod s _).symm
  have h2 : s * P = (c + x + y) * P := by rw [hs]
  rw [h1, Nat.add_mul, Nat.add_mul, Nat.add_mul, Nat.mul_assoc, Nat.mul_comm 4294967296 (e * P), Nat.mul_assoc e P] at h2
  omega
theorem sum_step {A Bl O : List Nat} {k c s d e : Nat} (hO : O.length = k) (hs : s = c + wat A k + wat Bl k) (hd : d = s % 4294967296) (he : e = s / 4294967296) (h : wv O + c * 4294967296 ^ k = wv (A.take k) + wv (Bl.take k)) :
    wv (O ++ [d]) + e * 4294967296 ^ (k + 1) = wv (A.take (k + 1)) + wv (Bl.take (k + 1)) := by
  rw [wv_snoc, hO, wv_take_wat, wv_take_wat, Nat.pow_succ]
  exact sum_eq hs hd he h
def SumL (w1 : World) (B : Nat) (A Bl : List Nat) (N : Nat) (v cr i : Value) (w' : World) : Prop := ∃ (k c : Nat) (O : List Nat), i = .int .i64 (k : Int) ∧ cr = .int .u64 (c : Int) ∧ O.length = k ∧ Wok O ∧ c ≤ 1 ∧ (k ≤ N ∨ k = N + 1 ∧ c = 0) ∧ wv O + c * 4294967296 ^ k = wv (A.take k) + wv (Bl.take k) ∧ w'.ownsRow B 90 1 v k (O.map wrd) ∧ Below B w1 w'
def RetWs (w : World) (n : Nat) (E : Ending) (w' : World) : Prop := ∃ v, E = .returned v ∧ Wn w' v n ∧ Below w.heap.size w w'
set_option maxRecDepth 100000 in
set_option maxHeartbeats 4000000 in
theorem wsum_any (w : World) (va vb : Value) (a b : Nat) (ha : Wn w va a) (hb : Wn w vb b) (hal : (wds a).length ≤ 100000) (hbl : (wds b).length ≤ 100000) : Calls Tryz.prog 125 #[va, vb] w (RetWs w (a + b)) := by
  obtain ⟨aa, ca, rfl, -, -, hca⟩ := Sl.cw ha
  obtain ⟨ab, cb, rfl, -, -, hcb⟩ := Sl.cw hb
  clear ha hb
  obtain ⟨A, hA⟩ : ∃ l, l = wds a := ⟨_, rfl⟩
  have HA := hid (show wv A = a by rw [hA, wv_wds])
  have HKA := hid (show Wok A by rw [hA]; exact wok_wds a)
  obtain ⟨Bl, hBl⟩ : ∃ l, l = wds b := ⟨_, rfl⟩
  have HB := hid (show wv Bl = b by rw [hBl, wv_wds])
  have HKB := hid (show Wok Bl by rw [hBl]; exact wok_wds b)
  rw [← hA] at hal hca ⊢
  rw [← hBl] at hbl hcb ⊢
  clear hA hBl
  obtain ⟨N, hN⟩ : ∃ N, N = max A.length Bl.length := ⟨_, rfl⟩
  have hNA : A.length ≤ N := by omega
  have hNB : Bl.length ≤ N := by omega
  have hNN : N ≤ 100000 := by omega
  have hN' := hid hN
  have HCA := hid hca
  have HCB := hid hcb
  clear hN hca hcb
  go_enter Tryz.func125, Tryz.ntmps125
  go_wp2
  go_loopw [5, 6, 7] (fun v cr i w' => SumL w w.heap.size A Bl N v cr i w') (fun _ _ i _ => N + 1 - (intOf i).toNat)
  case atStart => exact ⟨0, 0, [], rfl, rfl, rfl, fun d hd => absurd hd List.not_mem_nil, Nat.zero_le _, .inl (Nat.zero_le _), by simp [wv], World.ownsRow_nil _ _ _ _, Below.refl _ _⟩
  case round =>
    obtain ⟨k, c, O, rfl, rfl, hO, hok, hc, hkN, heq, hown, hbw⟩ := hrel
    have HEQ := hid heq
    have HOK := hid hok
    have HO := hid hO
    clear heq hok hO
    have hBs := hbw.size
    by_cases hgo : k < A.length ∨ k < Bl.length ∨ 0 < c
    · have hk : k ≤ N := by omega
      obtain ⟨x, hx⟩ : ∃ x, x = wat A k := ⟨_, rfl⟩
      obtain ⟨y, hy⟩ : ∃ y, y = wat Bl k := ⟨_, rfl⟩
      have hxl : x < 4294967296 := by rw [hx]; exact wat_lt HKA.out k
      have hyl : y < 4294967296 := by rw [hy]; exact wat_lt HKB.out k
      obtain ⟨s1, hs1⟩ : ∃ s1, s1 = c + x := ⟨_, rfl⟩
      obtain ⟨s, hs⟩ : ∃ s, s = s1 + y := ⟨_, rfl⟩
      obtain ⟨d, hd⟩ : ∃ d, d = s % 4294967296 := ⟨_, rfl⟩
      obtain ⟨e, he⟩ : ∃ e, e = s / 4294967296 := ⟨_, rfl⟩
      have m1 : (c : Int) + (x : Int) = (s1 : Int) := by omega
      have m2 : IntKind.u64.wrap (s1 : Int) = (s1 : Int) := by rw [IntKind.wrap_u64]; omega
      have m3 : (s1 : Int) + (y : Int) = (s : Int) := by omega
      have m4 : IntKind.u64.wrap (s : Int) = (s : Int) := by rw [IntKind.wrap_u64]; omega
      have m5 : IntKind.u32.wrap (s : Int) = (d : Int) := by rw [IntKind.wrap_u32]; omega
      have m6 : (s : Int) / 4294967296 = (e : Int) := by omega
      have hdl : d < 4294967296 := by rw [hd]; exact Nat.mod_lt _ (by decide)
      have he1 : e ≤ 1 := by omega
      have hlast : k + 1 ≤ N ∨ k + 1 = N + 1 ∧ e = 0 := by
        rcases Nat.lt_or_ge k N with h | h
        · exact .inl h
        · right
          have h1 : x = 0 := by rw [hx]; exact wat_out (by omega)
          have h2 : y = 0 := by rw [hy]; exact wat_out (by omega)
          omega
      have HQ := hid (sum_step (A := A) (Bl := Bl) HO.out (show s = c + wat A k + wat Bl k by rw [hs, hs1, hx, hy]) hd he HEQ.out)
      have hlast' := hid hlast
      have he1' := hid he1
      have hdl' := hid hdl
      have HBW := hid hbw
      have HX : ∀ (h : k < A.length), ∃ ba oa, aa = some ⟨ba, oa, none⟩ ∧ wr.cell? ⟨ba, oa + k, none⟩ = some (.int .u32 (x : Int)) := fun h => by
        have hx2 : A[k]? = some x := by rw [hx, List.getElem?_eq_getElem h]; unfold wat; rw [List.getElem?_eq_getElem h]; rfl
        obtain ⟨ba, oa, h1, hcell⟩ := HCA.out k x hx2
        exact ⟨ba, oa, h1, (hbw.cell (p := ⟨ba, oa + k, none⟩) (World.block_lt_of_cell? _ _ (hcell k x hx2))).trans (hcell k x hx2)⟩
      have HY : ∀ (h : k < Bl.length), ∃ ba oa, ab = some ⟨ba, oa, none⟩ ∧ wr.cell? ⟨ba, oa + k, none⟩ = some (.int .u32 (y : Int)) := fun h => by
        have hx2 : Bl[k]? = some y := by rw [hy, List.getElem?_eq_getElem h]; unfold wat; rw [List.getElem?_eq_getElem h]; rfl
        obtain ⟨ba, oa, h1, hcell⟩ := HCB.out k y hx2
        exact ⟨ba, oa, h1, (hbw.cell (p := ⟨ba, oa + k, none⟩) (World.block_lt_of_cell? _ _ (hcell k y hx2))).trans (hcell k y hx2)⟩
      have hx0 : ¬ k < A.length → x = 0 := fun h => by rw [hx]; exact wat_out h
      have hy0 : ¬ k < Bl.length → y = 0 := fun h => by rw [hy]; exact wat_out h
      clear hx hy hs hs1 hd he hlast hdl he1
      by_cases h1 : k < A.length
      · obtain ⟨ba, oa, rfl, c1⟩ := HX h1
        have t1 : (k : Int) < (A.length : Int) := by omega
        by_cases h2 : k < Bl.length
        · obtain ⟨bb, ob, rfl, c2⟩ := HY h2
          have t2 : (k : Int) < (Bl.length : Int) := by omega
          clear HX HY hx0 hy0 hgo
          go_wp2_with (at_builtin; go_loud (refine wpList_app1 rfl _ _ 83 rfl w.heap.size 90 _ 4 Tryz.underlying83 info_u32 rfl _ k _ (.int .u32 d) rfl rfl rfl (by exact hown) (by first | omega | (simp; omega)) (by first | omega | (simp; omega)) (by first | omega | (simp; omega)) ?_); intro v' w' H1 H2 H3)
          go_roundw
          case rel => exact ⟨k + 1, e, O ++ [d], by go_num, rfl, by simp [HO.out], wok_app HOK.out (wok_one hdl'.out), he1'.out, hlast'.out, HQ.out, by rw [List.map_append]; exact H1, HBW.out.trans H2⟩
          case measure => simp [intOf]; omega
        · have t2 : ¬ (k : Int) < (Bl.length : Int) := by omega
          obtain rfl : s1 = s := by have := hy0 h2; omega
          clear m3 m4 hyl
          clear HX HY hx0 hy0 hgo
          go_wp2_with (at_builtin; go_loud (refine wpList_app1 rfl _ _ 83 rfl w.heap.size 90 _ 4 Tryz.underlying83 info_u32 rfl _ k _ (.int .u32 d) rfl rfl rfl (by exact hown) (by first | omega | (simp; omega)) (by first | omega | (simp; omega)) (by first | omega | (simp; omega)) ?_); intro v' w' H1 H2 H3)
          go_roundw
          case rel => exact ⟨k + 1, e, O ++ [d], by go_num, rfl, by simp [HO.out], wok_app HOK.out (wok_one hdl'.out), he1'.out, hlast'.out, HQ.out, by rw [List.map_append]; exact H1, HBW.out.trans H2⟩
          case measure => simp [intOf]; omega
      · have t1 : ¬ (k : Int) < (A.length : Int) := by omega
        obtain rfl : c = s1 := by have := hx0 h1; omega
        clear m1 m2 hxl
        by_cases h2 : k < Bl.length
        · obtain ⟨bb, ob, rfl, c2⟩ := HY h2
          have t2 : (k : Int) < (Bl.length : Int) := by omega
          clear HX HY hx0 hy0 hgo
          go_wp2_with (at_builtin; go_loud (refine wpList_app1 rfl _ _ 83 rfl w.heap.size 90 _ 4 Tryz.underlying83 info_u32 rfl _ k _ (.int .u32 d) rfl rfl rfl (by exact hown) (by first | omega | (simp; omega)) (by first | omega | (simp; omega)) (by first | omega | (simp; omega)) ?_); intro v' w' H1 H2 H3)
          go_roundw
          case rel => exact ⟨k + 1, e, O ++ [d], by go_num, rfl, by simp [HO.out], wok_app HOK.out (wok_one hdl'.out), he1'.out, hlast'.out, HQ.out, by rw [List.map_append]; exact H1, HBW.out.trans H2⟩
          case measure => simp [intOf]; omega
        · have t2 : ¬ (k : Int) < (Bl.length : Int) := by omega
          obtain rfl : c = s := by have := hy0 h2; omega
          have t3 : (0 : Int) < (c : Int) := by omega
          clear m3 m4 hyl
          clear HX HY hx0 hy0 hgo
          go_wp2_with (at_builtin; go_loud (refine wpList_app1 rfl _ _ 83 rfl w.heap.size 90 _ 4 Tryz.underlying83 info_u32 rfl _ k _ (.int .u32 d) rfl rfl rfl (by exact hown) (by first | omega | (simp; omega)) (by first | omega | (simp; omega)) (by first | omega | (simp; omega)) ?_); intro v' w' H1 H2 H3)
          go_roundw
          case rel => exact ⟨k + 1, e, O ++ [d], by go_num, rfl, by simp [HO.out], wok_app HOK.out (wok_one hdl'.out), he1'.out, hlast'.out, HQ.out, by rw [List.map_append]; exact H1, HBW.out.trans H2⟩
          case measure => simp [intOf]; omega
    · obtain rfl : c = 0 := by omega
      have t1 : ¬ (k : Int) < (A.length : Int) := by omega
      have t2 : ¬ (k : Int) < (Bl.length : Int) := by omega
      obtain ⟨va, vc, rfl⟩ := own_sl hown
      have hval : Hid (wv O = a + b) := hid (by
        have := HEQ.out
        rw [Nat.zero_mul, Nat.add_zero, List.take_of_length_le (by omega), List.take_of_length_le (by omega), HA.out, HB.out] at this
        exact this)
      obtain ⟨T, hT⟩ : ∃ T, T = trimN O O.length := ⟨_, rfl⟩
      have HTr := hid (trim_own wr va vc k O (by rw [HO.out]; omega) hown)
      have hfin : Hid (Wn wr (.slice va T vc) (a + b)) := hid (by
        rw [← hval.out, hT]
        have h9 := Sl.of_owns hown
        rw [← own_len hown] at h9
        exact Wn.trim HOK.out h9)
      rw [← hT] at HTr
      have HBW := hid hbw
      clear hT hown hbw hgo
      go_wp2_with (go_at_call 80; (with_reducible refine HTr.out.mono ?_); rintro E3 w3 ⟨rfl, rfl⟩)
      go_ret
      exact ⟨_, rfl, hfin.out, HBW.out⟩
set_option maxRecDepth 100000 in
set_option maxHeartbeats 4000000 in
theorem wAdd_any (w : World) (va vb : Value) (a b : Nat) (ha : Wn w va a) (hb : Wn w vb b) (hal : (wds a).length ≤ 100000) (hbl : (wds b).length ≤ 100000) : Calls Tryz.prog 105 #[.agg #[.bool false, va], .agg #[.bool false, vb]] w (RetI w false (a + b)) := by
  obtain ⟨aa, ca, rfl⟩ := ha.sl
  obtain ⟨ab, cb, rfl⟩ := hb.sl
  obtain ⟨w1, hw1⟩ : ∃ w1, w1 = ((w.alloc (.cells #[.bool false, .slice aa (wds a).length ca] 85)).alloc (.cells #[.bool false, .slice ab (wds b).length cb] 85)).alloc (.cells #[.bool false, .slice none 0 0] 85) := ⟨_, rfl⟩
  have b1 : Below w.heap.size w w1 := by rw [hw1]; exact bla _ (bla _ (bla _ (Below.refl _ _)))
  have i0 : IntB w1 w.heap.size (.bool false) (.slice aa (wds a).length ca) := by rw [hw1]; exact ((IntB.new w _ _).alloc _).alloc _
  have i1 : IntB w1 (w.heap.size + 1) (.bool false) (.slice ab (wds b).length cb) := by
    rw [hw1]
    have := IntB.new (w.alloc (.cells #[.bool false, .slice aa (wds a).length ca] 85)) (.bool false) (.slice ab (wds b).length cb)
    rw [World.size_alloc] at this
    exact this.alloc _
  have i2 : IntB w1 (w.heap.size + 1 + 1) (.bool false) (.slice none 0 0) := by
    rw [hw1]
    have := IntB.new ((w.alloc (.cells #[.bool false, .slice aa (wds a).length ca] 85)).alloc (.cells #[.bool false, .slice ab (wds b).length cb] 85)) (.bool false) (.slice none 0 0)
    rw [World.size_alloc, World.size_alloc] at this
    exact this
  have HS := hid fun (w' : World) (h : Below w1.heap.size w1 w') => wsum_any w' _ _ a b (ha.below (bl2 b1 h)) (hb.below (bl2 b1 h)) hal hbl
  go_enter Tryz.func105, Tryz.ntmps105
  go_upto_region 1 with (fail)
  rw [← hw1]
  have a0 := i0.c0
  have a1 := i0.c1
  have a2 := i1.c0
  have a3 := i1.c1
  clear hw1
  go_upto_region 2 with (fail)
  go_region_law (go_simp; go_at_call 125; (with_reducible refine (HS.out _ (by (repeat (first | with_reducible exact Below.refl _ _ | with_reducible refine bla _ ?_ | with_reducible refine bld ?_ | with_reducible refine bldn ?_ _ | (with_reducible refine bl2 ?_ (by assumption)))))).mono ?_); rintro E4 w4 ⟨u4, rfl, hu4, hb4⟩; obtain ⟨ya, yc, rfl⟩ := hu4.sl; have k1 := i0.below (w' := w4) (by (repeat (first | with_reducible exact Below.refl _ _ | with_reducible refine bla _ ?_ | with_reducible refine bld ?_ | with_reducible refine bldn ?_ _ | (with_reducible refine bl2 ?_ (by assumption))))); have d0 := k1.c0; have d1 := k1.c1; have k2 := i1.below (w' := w4) (by (repeat (first | with_reducible exact Below.refl _ _ | with_reducible refine bla _ ?_ | with_reducible refine bld ?_ | with_reducible refine bldn ?_ _ | (with_reducible refine bl2 ?_ (by assumption))))); have d2 := k2.c0; have d3 := k2.c1; have k3 := i2.below (w' := w4) (by (repeat (first | with_reducible exact Below.refl _ _ | with_reducible refine bla _ ?_ | with_reducible refine bld ?_ | with_reducible refine bldn ?_ _ | (with_reducible refine bl2 ?_ (by assumption))))); have d4 := k3.c0; have d5 := k3.c1; have d6 := k3.fr 0; have d7 := k3.fr 1)
  all_goals
    have z1 := k3.set (.bool false) (.slice ya (wds (a + b)).length yc)
    have z2 := Wn.set2 hu4 k3 (fun d e => by cases e) (fun d e => by cases e) false (.slice ya (wds (a + b)).length yc)
    have z3 : Below w.heap.size w ((w4.setCell ⟨w.heap.size + 1 + 1, 0, none⟩ (.bool false)).setCell ⟨w.heap.size + 1 + 1, 1, none⟩ (.slice ya (wds (a + b)).length yc)) := below_set2i (bl2 b1 (by (repeat (first | with_reducible exact Below.refl _ _ | with_reducible refine bla _ ?_ | with_reducible refine bld ?_ | with_reducible refine bldn ?_ _ | (with_reducible refine bl2 ?_ (by assumption)))))) (by omega) _ _
    clear a0 a1 a2 a3 d0 d1 d2 d3 d4 d5 d6 d7
    go_wp2
    refine bodyPost_ret (results_int rfl _ _ (w.heap.size + 1 + 1) (.bool false) (.slice ya (wds (a + b)).length yc) rfl z1.c0 z1.c1) rfl ?_
    exact ⟨_, rfl, z2, z3⟩
end Go.Proofs.YtfalbdlfopfgcaaGreatDoor

