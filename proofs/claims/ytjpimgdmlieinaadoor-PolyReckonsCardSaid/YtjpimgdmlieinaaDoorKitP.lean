/- Do lists lie apart? The kit's function returns true. Conditions: lengths as the reach has them. -/
import Derived.Test.YtjpimgdmlieinaaDoorApt
namespace Go.Proofs.YtjpimgdmlieinaaDoor
open Go.RowKit

theorem ofInt_nan (n : Int) : nanB (ofInt n) = false := (write_not_nan (.number (decide (n < 0)) n.natAbs 0) rfl).1
theorem sub_some {a c : Nat} {s : Bool} {m : Nat} {i : Int} (ha : nanB a = false) (hc : Ieee.double.read c = .number s m i) : ∃ r, fsub (val a) (val c) = some r := by
  rw [fsub, val_fop]
  rw [← read_nan] at ha
  show ∃ r, ((Ieee.double.read a).sum (Ieee.double.read c).opposite).map Ieee.double.write = some r
  rw [hc]
  cases hr : Ieee.double.read a with
  | nan => rw [hr] at ha; cases ha
  | infinity s => exact ⟨_, rfl⟩
  | number s m i => exact ⟨_, rfl⟩
theorem markV_some (k i : Int) : ∃ r, markV k i = some r := by
  unfold markV
  refine sub_some (s := false) (m := 8444249301319680) (i := -50) (ofInt_nan _) ?_
  decide +kernel
/-- A mark's words. -/
def mkx (k i : Int) : Nat := (markV k i).getD 0
theorem mkx_val (k i : Int) : markV k i = some (mkx k i) := by
  obtain ⟨r, hr⟩ := markV_some k i
  unfold mkx
  rw [hr]
  rfl
theorem mk_cv (k i : Int) : cv (mkx k i) (ofInt k) = (markV k i, markW k) := by
  have h := mkx_val k i
  unfold cv
  congr 1
  obtain ⟨w, x, hx⟩ : ∃ (w : Unit) (x : Nat), markV k i = val x := ⟨(), _, by unfold markV fsub; rw [val_fop]; exact (by
    rw [markV, fsub, val_fop] at h
    rw [h, val_some (floatBits_parts h).2.2.1])⟩
  rw [h] at hx
  rw [h]
  unfold val at hx ⊢
  split at hx
  · cases hx
  · rename_i hn
    cases hx
    simp only [hn]
    rfl
theorem markNumbers_det (k i : Int) (w : World) (hk0 : 0 ≤ k) (hk : k ≤ 1000) (hi0 : 0 ≤ i) (hi : i ≤ 9007199254740992) : Calls Tryd.prog 69 #[.int .i64 k, .int .i64 i] w fun e w' => e = .returned (.complex .f64 (mkx k i) (ofInt k)) ∧ ∃ m, w' = w.drewN m := by
  refine (markNumbers_any k i w hk0 hk hi0 hi).mono ?_
  rintro e w' ⟨x, y, rfl, hd, hxy, _, _⟩
  refine ⟨?_, hd⟩
  have e1 : x = mkx k i := val_inj ((congrArg Prod.fst hxy).trans (mkx_val k i))
  have e2 : y = ofInt k := val_inj ((congrArg Prod.snd hxy).trans (val_some (ofInt_nan k)))
  rw [e1, e2]
theorem kSame_true {a b c d : Nat} (h : cv a b = cv c d) (w : World) : Calls Tryd.prog 22 #[.complex .f64 a b, .complex .f64 c d] w fun e w' => e = .returned (.bool true) ∧ w' = w := by
  refine (kSame_any a b c d w).mono ?_
  rintro e w' ⟨rfl, rfl⟩
  rw [csame_iff, decide_eq_true h]
  exact ⟨rfl, rfl⟩
theorem Dr.cell {w w' : World} (h : Dr w w') (a : Addr) : w'.cell? a = w.cell? a := by
  obtain ⟨n, rfl⟩ := h
  rfl
theorem mk_same {k i : Nat} {z : Z} {x y : Nat} (h : zv z = mkC k i) (hx : cv x y = mkC k i) : csame (cv z.1 z.2) (cv x y) = true := by
  rw [csame_iff, decide_eq_true_eq, hx]
  exact h
theorem mk_same2 {k i : Nat} {z y : Z} (h : zv z = mkC k i) (hy : zv y = mkC k i) : csame (cv z.1 z.2) (cv y.1 y.2) = true := by
  rw [csame_iff, decide_eq_true_eq]
  exact h.trans hy.symm
def L3o (w0 : World) (n : Nat) (k : Value) (wr : World) : Prop := ∃ m : Nat, k = .int .i64 m ∧ m ≤ n ∧ Dr w0 wr
def L3i (w0 : World) (n : Nat) (i : Value) (wr : World) : Prop := ∃ p : Nat, i = .int .i64 p ∧ p ≤ n ∧ Dr w0 wr

set_option maxRecDepth 100000 in
set_option maxHeartbeats 8000000 in
theorem ApartNumbers_any (B : Nat) (own : Nat → Nat) (w : World) (V : Value) (vs : List Value) (rs : List (List Z)) (h5 : vs.length ≤ 50) (hA : A1 B own w V vs rs w) (hBw : B ≤ w.heap.size) :
    Calls Tryd.prog 38 #[V] w fun e w' => e = .returned (.bool true) ∧ Below B w w' := by
  obtain ⟨Va, Vc, rfl⟩ := hA.out.shape
  obtain ⟨N, hN⟩ : ∃ N, N = vs.length := ⟨_, rfl⟩
  have HN := hid hN
  have hN5 : N ≤ 50 := by omega
  rw [← hN]
  go_enter Tryd.func38, Tryd.ntmps38
  go_wp2
  go_loopw [3] (fun k w' => L1o B own w (.slice Va N Vc) vs k w') (fun k _ => N + 1 - (intOf k).toNat)
  case atStart => exact ⟨0, rs, rfl, by omega, by rw [hN]; exact hA, fun j r h => by omega⟩
  case round =>
    obtain ⟨m, rs1, rfl, hm, hA1, hM⟩ := hrel
    clear hA hN
    by_cases hmN : m < N
    · obtain ⟨v, hv⟩ : ∃ v, vs[m]? = some v := ⟨_, List.getElem?_eq_getElem (by have := HN.out; omega)⟩
      obtain ⟨r, hr⟩ : ∃ r, rs1[m]? = some r := ⟨_, List.getElem?_eq_getElem (by have := HN.out; have := hA1.len; omega)⟩
      obtain ⟨gV, cV, eV, -⟩ := hA1.out.form (by have := HN.out; omega)
      obtain ⟨rfl, rfl⟩ : Va = some ⟨gV, 0, none⟩ ∧ Vc = cV := by injection eV with e1 e2 e3; exact ⟨e1, e3⟩
      clear eV
      obtain ⟨va, vc, rfl⟩ := (hA1.row m v r hv hr).shape
      have hcV : wr.cell? ⟨gV, m, none⟩ = some (.slice va r.length vc) := TR.cell (by have := hA1.out; rw [← HN.out] at this; exact this) hv
      have hrl := hA1.small m r hr
      obtain ⟨n, hn⟩ : ∃ n, n = r.length := ⟨_, rfl⟩
      rw [← hn] at hcV hrl hv
      have H1 := hid (show L1i B own w (.slice (some ⟨gV, 0, none⟩) N Vc) vs m n (.int .i64 0) wr from ⟨0, rs1, r, rfl, by omega, hn.symm, hr, hA1, hM, fun i z h => by omega⟩)
      have HV := hid hv
      clear hM hA1 hr hv hn
      go_wp2
      go_loopw [4] (fun i w' => L1i B own w (.slice (some ⟨gV, 0, none⟩) N Vc) vs m n i w') (fun i _ => n + 1 - (intOf i).toNat)
      case atStart => exact H1.out
      case round =>
        obtain ⟨p, rs2, r2, rfl, hp, hrn, hr2, hA2, hM2, hMk⟩ := hrel
        clear H1 hcV
        have hcV : wr.cell? ⟨gV, m, none⟩ = some (.slice va n vc) := TR.cell (by have := hA2.out; rw [← HN.out] at this; exact this) HV.out
        by_cases hpn : p < n
        · obtain ⟨b, vc', e1, -⟩ := (hA2.row m _ r2 HV.out hr2).form (by omega)
          obtain ⟨rfl, rfl⟩ : va = some ⟨b, 0, none⟩ ∧ vc = vc' := by injection e1 with e1 e2 e3; exact ⟨e1, e3⟩
          have hrow := hA2.row m _ r2 HV.out hr2
          rw [hrn] at hrow
          have hcz : wr.cell? ⟨b, p, none⟩ = some (C (r2[p]'(by omega))) := hrow.cell (by rw [List.getElem?_map, List.getElem?_eq_getElem (by omega)]; rfl)
          have hfz : wr.frozen? ⟨b, p, none⟩ = false := hrow.frozen p
          unfold C at hcz
          generalize r2[p]'(by omega) = z at hcz
          have HA := hid hA2
          have HMM := hid (And.intro hM2 hMk)
          have HR := hid hr2
          have HH5 := hid h5
          have w0 : IntKind.i64.wrap ((m : Int) + 10) = (m : Int) + 10 := IntWalk.i64_in _ (by omega)
          clear hrow hA2 hM2 hMk hr2 e1 h5
          go_wp2
          go_region_law (go_simp; go_at_call 69; (with_reducible refine (markNumbers_any _ _ _ (by omega) (by omega) (by omega) (by omega)).mono ?_); rintro e w' ⟨x, y, rfl, ⟨nd, rfl⟩, hxy, hx, hy⟩)
          all_goals
            go_wp2
            go_roundw
            case rel =>
              refine ⟨p + 1, _, r2.set p (x, y), by go_num, by omega, by rw [List.length_set]; exact hrn, ?_, HA.out.set HH5.out HV.out HR.out, ?_, HMM.out.2.set hxy⟩
              · rw [List.getElem?_set_self (by have := (List.getElem?_eq_some_iff.1 HR.out).1; exact this)]
              · intro j q hj hq
                rw [List.getElem?_set_ne (by omega)] at hq
                exact HMM.out.1 j q hj hq
            case measure => simp [intOf] <;> omega
        · obtain rfl : p = n := by omega
          have H2 := hid (show L1o B own w (.slice (some ⟨gV, 0, none⟩) N Vc) vs (.int .i64 ((m : Int) + 1)) wr from ⟨m + 1, rs2, by go_num, by have := HN.out; omega, hA2, fun j q hj hq => by
            by_cases hjm : j < m
            · exact hM2 j q hjm hq
            · obtain rfl : j = m := by omega
              rw [hr2] at hq
              cases hq
              rw [hrn]
              exact hMk⟩)
          clear hA2 hM2 hMk hr2 hrn
          go_wp2
          go_roundw
          case rel => exact H2.out
          case measure => simp [intOf] <;> omega
    · obtain rfl : m = N := by have := HN.out; omega
      have HA := hid hA1
      have HM := hid (show ∀ (j : Nat) r, rs1[j]? = some r → MkUp j r r.length from fun j r hr => hM j r (by have := (List.getElem?_eq_some_iff.1 hr).1; have := hA1.len; have := HN.out; omega) hr)
      clear hA1 hM
      go_wp2
      go_loopw [6, 5] (fun k G w' => L2o B w (.slice Va m Vc) vs k G w') (fun k _ _ => m + 1 - (intOf k).toNat)
      case atStart => exact ⟨own, 0, rs1, [], [], rfl, by omega, rfl, HA.out, rfl, ⟨World.ownsRow_nil _ _ _ _, fun b hb => by simp [Value.ownBlock] at hb⟩, fun j v r hv => by simp at hv, fun j r hr => by simp at hr, HM.out, fun j r hr => by simp at hr⟩
      case round =>
        clear HA HM
        obtain ⟨own2, m2, rs2, gs, gr, rfl, hm2, hgl, hA2⟩ := hrel
        by_cases hmN : m2 < m
        · obtain ⟨v, hv⟩ : ∃ v, vs[m2]? = some v := ⟨_, List.getElem?_eq_getElem (by have := HN.out; omega)⟩
          obtain ⟨r, hr⟩ : ∃ r, rs2[m2]? = some r := ⟨_, List.getElem?_eq_getElem (by have := HN.out; have := hA2.a1.len; omega)⟩
          obtain ⟨gV, cV, eV, -⟩ := hA2.a1.out.form (by have := HN.out; omega)
          obtain ⟨rfl, rfl⟩ : Va = some ⟨gV, 0, none⟩ ∧ Vc = cV := by injection eV with e1 e2 e3; exact ⟨e1, e3⟩
          clear eV
          obtain ⟨va, vc, rfl⟩ := (hA2.a1.row m2 v r hv hr).shape
          have hcV : wr.cell? ⟨gV, m2, none⟩ = some (.slice va r.length vc) := TR.cell (by have := hA2.a1.out; rw [← HN.out] at this; exact this) hv
          have hrl := hA2.a1.small m2 r hr
          have hvn : m2 < vs.length := by have := HN.out; omega
          obtain ⟨n, hn⟩ : ∃ n, n = r.length := ⟨_, rfl⟩
          rw [← hn] at hcV hrl hv
          have H1 := hid (show L2i B w (.slice (some ⟨gV, 0, none⟩) m Vc) vs rs2 u5 gs gr m2 n (.slice va n vc) (.int .i64 0) wr from ⟨own2, 0, r, rfl, by omega, by omega, hA2, by rw [hn] at hv ⊢; exact hA2.a1.row m2 _ r hv hr, hA2.marks m2 r hr⟩)
          have HV := hid hv
          have HR := hid hr
          have HGL := hid hgl
          have HRN := hid hn
          clear hA2 hr hv hn hgl
          go_wp2
          go_loopw [7, 8] (fun g i w' => L2i B w (.slice (some ⟨gV, 0, none⟩) m Vc) vs rs2 u5 gs gr m2 n g i w') (fun _ i _ => 7 - (intOf i).toNat)
          case atStart => exact H1.out
          case round =>
            obtain ⟨own3, p, q, rfl, hp, hqn, hA3, hT, hMk⟩ := hrel
            clear H1 hcV
            have hcV : wr.cell? ⟨gV, m2, none⟩ = some (.slice va n vc) := TR.cell (by have := hA3.a1.out; rw [← HN.out] at this; exact this) HV.out
            obtain ⟨ga, gc, rfl⟩ := hT.shape
            have hBs := hA3.a1.bl.size
            have hBs2 : B ≤ wr.heap.size := by omega
            have HA := hid hA3
            have HT := hid hT
            have HMK := hid hMk
            have HQN := hid hqn
            have hq7 : q.length ≤ 100010 := by omega
            have HH5 := hid h5
            have w0 : IntKind.i64.wrap ((m2 : Int) + 10) = (m2 : Int) + 10 := IntWalk.i64_in _ (by omega)
            clear hA3 hT hMk h5 hqn
            by_cases hp6 : p < 6
            · have w1 : IntKind.i64.wrap ((n : Int) + (p : Int)) = (n : Int) + (p : Int) := IntWalk.i64_in _ (by omega)
              go_wp2_with (first | (go_at_call 69; (with_reducible refine (markNumbers_any _ _ _ (by omega) (by omega) (by omega) (by omega)).mono ?_); rintro e w' ⟨x, y, rfl, ⟨nd, rfl⟩, hxy, hx, hy⟩) | (at_builtin; refine wpList_app_tag rfl _ _ 57 rfl B 33 _ 16 Tryd.underlying57 info_c rfl own3 m2 _ q.length (q.map C) (.complex .f64 x y) rfl rfl rfl (HT.out.drewN _) (by omega) (by simp only [maxLen]; omega) (by simpa using hBs2) ?_; intro own4 v4 w4 h1 h2 h3))
              go_roundw
              case rel =>
                refine ⟨own4, p + 1, q ++ [(x, y)], by go_num, by omega, by rw [List.length_append, HQN.out]; rfl, (HA.out.drewN nd).step HGL.out HH5.out hvn HR.out (by rw [← HRN.out, HQN.out]; omega) h2 h3, ?_, HMK.out.snoc ?_⟩
                · rw [List.length_append, List.map_append]
                  exact h1
                · show cv x y = _
                  rw [hxy]
                  unfold mkC
                  rw [HQN.out]
                  simp
              case measure => simp [intOf] <;> omega
            · obtain rfl : p = 6 := by omega
              go_wp2_with (first | (at_builtin; have t1 : TR own3 wr B 57 u5 gs.length gs 101 := HA.out.out; refine wpList_app_tag rfl _ _ 74 rfl B 57 _ 24 Tryd.underlying74 info_cs rfl own3 101 u5 gs.length gs (.slice ga q.length gc) rfl rfl rfl t1 (by have := HGL.out; omega) (by simp only [maxLen]; have := HGL.out; omega) hBs2 ?_; intro own4 v4 w4 h1 h2 h3))
              go_roundw
              case rel => exact ⟨own4, m2 + 1, rs2, gs ++ [_], gr ++ [q], by go_num, by omega, by simp [HGL.out], HA.out.push (by have := HGL.out; omega) HH5.out (by rw [HGL.out]; exact HT.out) (by omega) (by rw [HGL.out]; exact HMK.out) h1 h2 h3⟩
              case measure => simp [intOf] <;> omega
        · obtain rfl : m2 = m := by have := HN.out; omega
          have HA := hid hA2
          have hgn : gs.length = m2 := by omega
          obtain ⟨Ga, Gc, hG0⟩ := hA2.out.shape
          rw [hgn] at hG0
          subst hG0
          have HG := hid hgn
          clear hA2 hgn
          go_wp2
          go_loopw [9] (fun k w' => L3o wr m2 k w') (fun k _ => m2 + 1 - (intOf k).toNat)
          case atStart => exact ⟨0, rfl, by omega, Dr.refl _⟩
          case round =>
            obtain ⟨k, rfl, hk, nd, rfl⟩ := hrel
            by_cases hkm : k < m2
            · obtain ⟨v, hv⟩ : ∃ v, vs[k]? = some v := ⟨_, List.getElem?_eq_getElem (by have := HN.out; omega)⟩
              obtain ⟨r, hr⟩ : ∃ r, rs2[k]? = some r := ⟨_, List.getElem?_eq_getElem (by have := HN.out; have := HA.out.a1.len; omega)⟩
              obtain ⟨g, hg⟩ : ∃ g, gs[k]? = some g := ⟨_, List.getElem?_eq_getElem (by have := HG.out; omega)⟩
              obtain ⟨q, hq⟩ : ∃ q, gr[k]? = some q := ⟨_, List.getElem?_eq_getElem (by have := HG.out; have := HA.out.len; omega)⟩
              obtain ⟨gV, cV, eV, -⟩ := HA.out.a1.out.form (by have := HN.out; omega)
              obtain ⟨rfl, rfl⟩ : Va = some ⟨gV, 0, none⟩ ∧ Vc = cV := by injection eV with e1 e2 e3; exact ⟨e1, e3⟩
              obtain ⟨gG, cG, eG, -⟩ := HA.out.out.form (by have := HG.out; omega)
              obtain ⟨rfl, rfl⟩ : Ga = some ⟨gG, 0, none⟩ ∧ Gc = cG := by injection eG with e1 e2 e3; exact ⟨e1, e3⟩
              clear eV eG
              have HTv := hid (HA.out.a1.row k v r hv hr)
              have HTg := hid (HA.out.row k g q hg hq)
              have hMr := HA.out.marks k r hr
              have hMq := HA.out.gmarks k q hq
              obtain ⟨va, vc, rfl⟩ := HTv.out.shape
              obtain ⟨ga, gc, rfl⟩ := HTg.out.shape
              have hcV : wr.cell? ⟨gV, k, none⟩ = some (.slice va r.length vc) := TR.cell (by have := HA.out.a1.out; rw [← HN.out] at this; exact this) hv
              have hcG : wr.cell? ⟨gG, k, none⟩ = some (.slice ga q.length gc) := TR.cell (by have := HA.out.out; rw [HG.out] at this; exact this) hg
              have hrl := HA.out.a1.small k r hr
              have hql := HA.out.small k q hq
              have w0 : IntKind.i64.wrap ((k : Int) + 10) = (k : Int) + 10 := IntWalk.i64_in _ (by omega)
              have HMR := hid hMr
              have HMQ := hid hMq
              clear hv hr hg hq hMr hMq
              go_wp2
              go_loopw [10] (fun i w' => L3i wr q.length i w') (fun i _ => q.length + 1 - (intOf i).toNat)
              case atStart => exact ⟨0, rfl, by omega, _, rfl⟩
              case round =>
                obtain ⟨i, rfl, hi, hd⟩ := hrel
                have hcV5 := (hd.cell _).trans hcV
                have hcG5 := (hd.cell _).trans hcG
                by_cases hiq : i < q.length
                · obtain ⟨z, hz⟩ : ∃ z, q[i]? = some z := ⟨_, List.getElem?_eq_getElem hiq⟩
                  obtain ⟨bg, gc', e1, -⟩ := HTg.out.form (by omega)
                  obtain ⟨rfl, rfl⟩ : ga = some ⟨bg, 0, none⟩ ∧ gc = gc' := by injection e1 with e1 e2 e3; exact ⟨e1, e3⟩
                  have hcz : wr.cell? ⟨bg, i, none⟩ = some (.complex .f64 z.1 z.2) := (hd.cell _).trans (HTg.out.cell (by rw [List.getElem?_map, hz]; rfl))
                  have HZ := hid (HMQ.out i z hiq hz)
                  clear e1 hz
                  by_cases hir : i < r.length
                  · obtain ⟨y, hy⟩ : ∃ y, r[i]? = some y := ⟨_, List.getElem?_eq_getElem hir⟩
                    obtain ⟨bv, vc', e1, -⟩ := HTv.out.form (by omega)
                    obtain ⟨rfl, rfl⟩ : va = some ⟨bv, 0, none⟩ ∧ vc = vc' := by injection e1 with e1 e2 e3; exact ⟨e1, e3⟩
                    have hcy : wr.cell? ⟨bv, i, none⟩ = some (.complex .f64 y.1 y.2) := (hd.cell _).trans (HTv.out.cell (by rw [List.getElem?_map, hy]; rfl))
                    have HY := hid (HMR.out i y hir hy)
                    clear e1 hy
                    have HD := hid hd
                    clear hd
                    have HS1 := hid fun w => kSame_true (a := z.1) (b := z.2) (c := mkx ((k : Int) + 10) (i : Int)) (d := ofInt ((k : Int) + 10)) (by rw [mk_cv]; exact HZ.out) w
                    have HS2 := hid fun w => kSame_true (a := y.1) (b := y.2) (c := z.1) (d := z.2) (HY.out.trans HZ.out.symm) w
                    go_wp2
                    go_quiet ((first | (go_at_call 69; exact Calls.quiet_of (markNumbers_det _ _ _ (by omega) (by omega) (by omega) (by omega))) | (go_at_call 22; first | with_reducible exact Calls.quiet_of_same (HS2.out _) | with_reducible exact Calls.quiet_of_same (HS1.out _))))
                    go_wp2
                    go_roundw
                    case rel => exact ⟨i + 1, by go_num, by omega, HD.out.trans ⟨_, rfl⟩⟩
                    case measure => simp [intOf] <;> omega
                  · have HD := hid hd
                    clear hd
                    have HS1 := hid fun w => kSame_true (a := z.1) (b := z.2) (c := mkx ((k : Int) + 10) (i : Int)) (d := ofInt ((k : Int) + 10)) (by rw [mk_cv]; exact HZ.out) w
                    have HS2 := HS1
                    go_wp2
                    go_quiet ((first | (go_at_call 69; exact Calls.quiet_of (markNumbers_det _ _ _ (by omega) (by omega) (by omega) (by omega))) | (go_at_call 22; first | with_reducible exact Calls.quiet_of_same (HS2.out _) | with_reducible exact Calls.quiet_of_same (HS1.out _))))
                    go_wp2
                    go_roundw
                    case rel => exact ⟨i + 1, by go_num, by omega, HD.out.trans ⟨_, rfl⟩⟩
                    case measure => simp [intOf] <;> omega
                · obtain rfl : i = q.length := by omega
                  have HD := hid (hd : Dr _ _)
                  clear hd
                  go_wp2
                  go_roundw
                  case rel => exact ⟨k + 1, by go_num, by omega, HD.out⟩
                  case measure => simp [intOf] <;> omega
            · obtain rfl : k = m2 := by omega
              go_wp2
              go_ret
              exact ⟨rfl, below_drewN' HA.out.a1.bl _⟩
end Go.Proofs.YtjpimgdmlieinaaDoor
