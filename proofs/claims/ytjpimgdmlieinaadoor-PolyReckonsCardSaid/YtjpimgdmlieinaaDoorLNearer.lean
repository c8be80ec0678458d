/- PolyNearer: the function's walk: it returns true. Conditions: words have 64 bits, lists as long as the form allows. -/
import Derived.Test.YtjpimgdmlieinaaDoorNearL
import Derived.Test.YtjpimgdmlieinaaDoorKitC
import Derived.Test.YtjpimgdmlieinaaDoorLv29
import Derived.Deep.RegionHeld3
import Derived.Deep.CutRange
namespace Go.Proofs.YtjpimgdmlieinaaDoor
open Go.RowKit

theorem SameN_z (xs ys : List Z) (va vb : Value) (w : World) (hn : xs.length ≤ 140737488355328) (h : xs.map zv = ys.map zv) (hx : Sl w va (xs.map C)) (hy : Sl w vb (ys.map C)) : Calls Tryd.prog 37 #[va, vb] w (RetB w true) := by
  have := SameNumbers_any xs ys va vb w hn hx hy
  rw [show sameC xs ys = true from decide_eq_true h] at this
  exact this
theorem plusR_len (p q : List Z) : (plusR p q).1.length ≤ max p.length q.length := by
  unfold plusR
  split
  · have := tol_len (plusV p q)
    have h : (plusV p q).length = max p.length q.length := by unfold plusV; simp
    omega
  · simp
theorem newR_ok {p : List Z} {z : CV} (h : atC (p.map zv) z = 0) {k : Nat} (hk : k ≤ 4096) : newR p z (k : Int) = ((newC (p.map zv) z (k : Int) (derR p)).1, (newC (p.map zv) z (k : Int) (derR p)).2, 0) := by
  unfold atC at h
  unfold newR
  rw [refE_c]
  by_cases h1 : refC (p.map zv) = 0
  · rw [if_pos h1] at h
    by_cases h2 : cfin z = true
    · rw [if_pos h1, if_pos h2, if_neg (by omega)]
    · rw [if_neg h2] at h
      cases h
  · rw [if_neg h1] at h
    exact absurd h h1
/-- Up to the k-th number of steps. -/
def NearLoop (wc : World) (vs : List CV) (z : CV) (d : List CV × Int) (n : Nat) (i b : Value) (w : World) : Prop := ∃ (j : Nat) (wb : Nat), i = .int .i64 ((j : Int) + 1) ∧ j ≤ n ∧ b = .float .f64 wb ∧ val wb = size1 (atV vs (newC vs z (j : Int) d).1) ∧ Below wc.heap.size wc w
set_option maxRecDepth 100000 in
set_option maxHeartbeats 8000000 in
theorem nearer_walk (xs ys : List Z) (f1 f2 : Nat) (m : Nat) (hxs : wfL xs) (hys : wfL ys) (hf1 : IsW f1) (hf2 : IsW f2) (vx vy : Value) (W : World) (hx : NsAt W vx xs) (hy : NsAt W vy ys) (hxn : xs.length * 16 ≤ 140737488351232) (hyn : ys.length * 16 ≤ 140737488351232) :
    Calls Tryd.prog 8 #[vx, vy, .agg #[.int .u64 f1, .int .u64 f2], .int .u8 m] W fun e w' => e = .returned (.bool true) ∧ Below W.heap.size W w' := by
  have hx0 := hx
  have hy0 := hy
  obtain ⟨xa, xc, rfl, -⟩ := hx0
  obtain ⟨ya, yc, rfl, -⟩ := hy0
  have hb0 : Below W.heap.size W (W.alloc (.cells #[.int .u64 f1, .int .u64 f2] 56)) := (Below.refl _ W).alloc (Nat.le_refl _) _
  have hbx : (W.alloc (.cells #[.int .u64 f1, .int .u64 f2] 56)).heap[W.heap.size]? = some (.cells #[.int .u64 f1, .int .u64 f2] 56 (0, 0)) := by
    show (W.heap.push _)[W.heap.size]? = _
    simp
  go_enter Tryd.func8, Tryd.ntmps8
  by_cases hlong : 40 < xs.length ∨ 40 < ys.length
  · rcases (by omega : 40 < xs.length ∨ (¬ 40 < xs.length ∧ 40 < ys.length)) with g1 | ⟨g1, g2⟩
    · have g3 : (40 : Int) < (xs.length : Int) := by omega
      clear hlong
      go_wp2_with (go_at_call 10; (with_reducible refine (lives_any _).mono ?_); rintro e w1 ⟨rfl, hb1⟩)
      go_ret
      exact ⟨rfl, hb0.trans (hb1.mono (by simp))⟩
    · have g3 : ¬ (40 : Int) < (xs.length : Int) := by omega
      have g4 : (40 : Int) < (ys.length : Int) := by omega
      clear hlong
      go_wp2_with (go_at_call 10; (with_reducible refine (lives_any _).mono ?_); rintro e w1 ⟨rfl, hb1⟩)
      go_ret
      exact ⟨rfl, hb0.trans (hb1.mono (by simp))⟩
  · have g3 : ¬ (40 : Int) < (xs.length : Int) := by omega
    have g4 : ¬ (40 : Int) < (ys.length : Int) := by omega
    have hlx : xs.length ≤ 40 := by omega
    have hly : ys.length ≤ 40 := by omega
    clear hlong
    go_wp2_with (go_at_call 10; (with_reducible refine (lives_any _).mono ?_); rintro e w1 ⟨rfl, hb1⟩)
    have b1 : Below W.heap.size W w1 := hb0.trans (hb1.mono (by simp))
    have bx1 := (hb1.block W.heap.size (by simp)).trans hbx
    clear hb1 hb0 hbx
    have k0 : w1.cell? ⟨W.heap.size, 0, none⟩ = some (.int .u64 f1) := by simp [World.cell?, bx1]
    have k1 : w1.cell? ⟨W.heap.size, 1, none⟩ = some (.int .u64 f2) := by simp [World.cell?, bx1]
    have hsz := b1.size
    have hwl : W.heap.size < w1.heap.size := (Array.getElem?_eq_some_iff.1 bx1).1
    have HNX := hid fun w (h : Below W.heap.size W w) => Numbers_any xs _ w hxn (hx.below h)
    have HNY := hid fun w (h : Below W.heap.size W w) => Numbers_any ys _ w hyn (hy.below h)
    go_cut [9, 10, 11] from 36 to 41 (fun p q z wx => z = .complex .f64 f1 f2 ∧ Sl wx p (xs.map C) ∧ Sl wx q (ys.map C) ∧ Below W.heap.size W wx)
    case first =>
      go_region_held3 (fun w' => w'.cell? ⟨W.heap.size, 0, none⟩ = some (.int .u64 f1) ∧ w'.cell? ⟨W.heap.size, 1, none⟩ = some (.int .u64 f2)) (first | exact ⟨k0, k1⟩ | exact ⟨k2, k3⟩ | exact ⟨k4, k5⟩ | exact ⟨k6, k7⟩) (first | (go_at_call 24; first | ((with_reducible refine (HNX.out _ ?hb).mono ?_); (case hb => exact below_drewN' b1 1); rintro e2 w2 ⟨v2, rfl, own2, hb2⟩; have k2 := (hb2.cell (p := ⟨W.heap.size, 0, none⟩) hwl).trans k0; have k3 := (hb2.cell (p := ⟨W.heap.size, 1, none⟩) hwl).trans k1; have b2 : Below W.heap.size W w2 := (below_drewN' b1 1).trans (hb2.mono hsz); have hw2 : W.heap.size < w2.heap.size := Nat.lt_of_lt_of_le hwl hb2.size; have s2 := Sl.of_owns own2) | ((with_reducible refine (HNY.out _ ?hb).mono ?_); (case hb => exact b2); rintro e3 w3 ⟨v3, rfl, own3, hb3⟩; have k4 := (hb3.cell (p := ⟨W.heap.size, 0, none⟩) hw2).trans k2; have k5 := (hb3.cell (p := ⟨W.heap.size, 1, none⟩) hw2).trans k3; have b3 := b2.trans (hb3.mono (Nat.le_of_lt hw2)); have hw3 : W.heap.size < w3.heap.size := Nat.lt_of_lt_of_le hw2 hb3.size; have s3 := Sl.of_owns own3; have s4 := s2.below hb3)) | (go_at_call 25; (with_reducible refine (Number_any _ _ _).mono ?_); rintro e5 w5 ⟨rfl, hb5⟩; have k6 := (hb5.cell (p := ⟨W.heap.size, 0, none⟩) hw3).trans k4; have k7 := (hb5.cell (p := ⟨W.heap.size, 1, none⟩) hw3).trans k5; have b5 := b3.trans (hb5.mono (Nat.le_of_lt hw3)); have s5 := s3.below hb5; have s6 := s4.below hb5))
      all_goals
        go_wp2
        go_meet
        exact ⟨rfl, s6, s5, b5⟩
    case rest =>
      obtain ⟨rfl, hp, hq, hb⟩ := hcut
      have hwx := hxs.wfP
      have hwy := hys.wfP
      have HP1 := hid (Plus_any xs ys hwx hwy _ _ _ hp hq (by omega) (by omega))
      have HP2 := hid fun w (h : Below wc.heap.size wc w) => Plus_any ys xs hwy hwx _ _ w (hq.below h) (hp.below h) (by omega) (by omega)
      have HAT := hid fun w (h : Below wc.heap.size wc w) => At_c xs hwx f1 f2 _ rfl _ w (hp.below h) (by omega)
      have HNEW := hid fun (k : Nat) w (h : Below wc.heap.size wc w) => Newton_any xs hwx f1 f2 hf1 hf2 (k : Int) _ w (hp.below h) (by omega)
      have HAT2 := hid fun c d z (hz : cv c d = z) w (h : Below wc.heap.size wc w) => At_c xs hwx c d z hz _ w (hp.below h) (by omega)
      have hbsz := hb.size
      have bc0 : Below wc.heap.size wc wc := Below.refl _ _
      clear HNX HNY b1 bx1 k0 k1 hsz hwl hx hy hp hq hwx hwy hxs hys
      have hgl : ((xs.length : Int) == (ys.length : Int)) = true ∨ ((xs.length : Int) == (ys.length : Int)) = false := by cases ((xs.length : Int) == (ys.length : Int)) <;> simp
      have hvs : atC (xs.map zv) (cv f1 f2) = 0 ∨ (atC (xs.map zv) (cv f1 f2) == 0) = false ∧ (atC (xs.map zv) (cv f1 f2) = 0) = False := by
        by_cases h : atC (xs.map zv) (cv f1 f2) = 0
        · exact .inl h
        · exact .inr ⟨by rw [beq_eq_false_iff_ne]; exact h, by simp [h]⟩
      rcases hgl with hgl | hgl
      · have hlen : xs.length = ys.length := by have := hgl; rw [beq_iff_eq] at this; omega
        have hpc := plusR_comm xs ys hlen
        have HPL := hid (show (plusR xs ys).1.length ≤ 140737488355328 by have := plusR_len xs ys; omega)
        rw [← hpc] at HP2
        clear hpc hlen
        generalize plusR xs ys = pr at *
        obtain ⟨prv, pre⟩ := pr
        rcases hvs with hv | ⟨hv1, hv2⟩
        · go_wp2_with (first | (go_at_call 29; first | ((with_reducible refine HP1.out.mono ?_); rintro e2 w2 ⟨v2, l2, rfl, own2, ml2, wf2, hb2⟩; have s2 := Sl.of_owns own2; have bc2 := bc0.trans hb2; clear own2 wf2) | ((with_reducible refine (HP2.out _ ?hb).mono ?_); (case hb => exact bc2); rintro e3 w3 ⟨v3, l3, rfl, own3, ml3, wf3, hb3⟩; have s3 := Sl.of_owns own3; have s4 := s2.below hb3; have bc3 := bc2.trans (hb3.mono bc2.size); clear own3 wf3)) | (go_at_call 37; (with_reducible refine (SameN_z _ _ _ _ _ (by have := HPL.out; rw [← ml2, List.length_map] at this; exact this) (by rw [ml2, ml3]) s4 s3).mono ?_); rintro e4 w4 ⟨rfl, n4, rfl⟩) | (go_at_call 27; (with_reducible refine (HAT.out _ ?hb).mono ?_); (case hb => first | exact below_drewN' bc3 _ | exact bc0 | exact bc7); rintro e5 w5 ⟨x5, y5, rfl, ⟨n5, rfl⟩, hv5, hx5, hy5⟩) | (go_at_call 45; (with_reducible refine (Size1_z _ _ _ (by assumption) _).mono ?_); rintro e6 w6 ⟨a6, rfl, ⟨n6, rfl⟩, hv6, ha6⟩))
          have hm8 : ((m : Int).tmod 8) = ((m % 8 : Nat) : Int) := (Int.ofNat_tmod m 8).symm
          go_loopw [19, 18] (fun i b w' => NearLoop wc (xs.map zv) (cv f1 f2) (derR xs) (m % 8) i b w') (fun i _ _ => 9 - (intOf i).toNat)
          case atStart => exact ⟨0, a6, rfl, by omega, rfl, by rw [hv6, show ((0 : Nat) : Int) = 0 from rfl, newC_zero], by first | exact below_drewN' bc3 _ | exact below_drewN' bc0 _⟩
          case round =>
            obtain ⟨j, wb, rfl, hj, rfl, hwb, hbr⟩ := hrel
            by_cases hjm : j < m % 8
            · have g5 : (j : Int) + 1 ≤ ((m % 8 : Nat) : Int) := by omega
              have hnx := newC_next (xs.map zv) (cv f1 f2) (derR xs) j
              have hna := newC_at (xs.map zv) (cv f1 f2) (derR xs) hv (j + 1)
              have hnr := newR_ok (p := xs) hv (k := j + 1) (by omega)
              rw [← hwb] at hnx
              have HN2 : ∀ w, Below wc.heap.size wc w → Calls Tryd.prog 43 #[u9, .complex .f64 f1 f2, .int .i64 ((j : Int) + 1)] w (RetNw w (newR xs (cv f1 f2) ((j + 1 : Nat) : Int))) := HNEW.out (j + 1)
              rw [hnr] at HN2
              have HNEW := hid HN2
              clear HN2 hnr hv6 hv5 HAT HP1 HP2
              generalize hRR : newC (xs.map zv) (cv f1 f2) ((j + 1 : Nat) : Int) (derR xs) = RR at *
              have HRR := hid hRR
              clear hRR
              obtain ⟨rz, rn⟩ := RR
              simp only at hnx hna
              obtain ⟨hle, hA⟩ := hnx
              have g6 : ¬ ((j : Int) + 1 < (rn : Int)) := by omega
              rcases hA with ⟨hne, hz⟩ | hlt
              · have hw2 : val wb = size1 (atV (xs.map zv) rz) := by rw [hwb, ← hz]
                have q1 := ford_lt_irrefl (size1 (atV (xs.map zv) rz))
                have g7 : ((rn : Int) == (j : Int) + 1) = false := by rw [beq_eq_false_iff_ne]; omega
                clear hwb hz hne
                go_wp2_with (first | (go_at_call 43; (with_reducible refine (HNEW.out _ ?hb).mono ?_); (case hb => exact hbr); rintro e7 w7 ⟨x7, y7, rfl, hb7, hv7, hx7, hy7⟩; have bc7 := hbr.trans (hb7.mono hbr.size)) | (go_at_call 27; (with_reducible refine (HAT2.out _ _ _ hv7 _ ?hb).mono ?_); (case hb => exact bc7); rintro e5 w5 ⟨x5, y5, rfl, ⟨n5, rfl⟩, hv5, hx5, hy5⟩) | (go_at_call 45; (with_reducible refine (Size1_z _ _ _ (by assumption) _).mono ?_); rintro e6 w6 ⟨a6, rfl, ⟨n6, rfl⟩, hv6, ha6⟩))
                go_roundw
                case rel => exact ⟨j + 1, a6, by go_num, by omega, rfl, by rw [hv6, HRR.out], below_drewN' bc7 _⟩
                case measure => simp [intOf] <;> omega
              · have q1 := flt_asymm hlt
                clear hwb
                go_wp2_with (first | (go_at_call 43; (with_reducible refine (HNEW.out _ ?hb).mono ?_); (case hb => exact hbr); rintro e7 w7 ⟨x7, y7, rfl, hb7, hv7, hx7, hy7⟩; have bc7 := hbr.trans (hb7.mono hbr.size)) | (go_at_call 27; (with_reducible refine (HAT2.out _ _ _ hv7 _ ?hb).mono ?_); (case hb => exact bc7); rintro e5 w5 ⟨x5, y5, rfl, ⟨n5, rfl⟩, hv5, hx5, hy5⟩) | (go_at_call 45; (with_reducible refine (Size1_z _ _ _ (by assumption) _).mono ?_); rintro e6 w6 ⟨a6, rfl, ⟨n6, rfl⟩, hv6, ha6⟩))
                all_goals
                  go_roundw
                  case rel => exact ⟨j + 1, a6, by go_num, by omega, rfl, by rw [hv6, HRR.out], below_drewN' bc7 _⟩
                  case measure => simp [intOf] <;> omega
            · obtain rfl : j = m % 8 := by omega
              have g5 : ¬ ((m % 8 : Nat) : Int) + 1 ≤ ((m % 8 : Nat) : Int) := by omega
              go_wp2
              go_ret
              exact ⟨rfl, hb.trans (hbr.mono hbsz)⟩
        · go_wp2_with (first | (go_at_call 29; first | ((with_reducible refine HP1.out.mono ?_); rintro e2 w2 ⟨v2, l2, rfl, own2, ml2, wf2, hb2⟩; have s2 := Sl.of_owns own2; have bc2 := bc0.trans hb2; clear own2 wf2) | ((with_reducible refine (HP2.out _ ?hb).mono ?_); (case hb => exact bc2); rintro e3 w3 ⟨v3, l3, rfl, own3, ml3, wf3, hb3⟩; have s3 := Sl.of_owns own3; have s4 := s2.below hb3; have bc3 := bc2.trans (hb3.mono bc2.size); clear own3 wf3)) | (go_at_call 37; (with_reducible refine (SameN_z _ _ _ _ _ (by have := HPL.out; rw [← ml2, List.length_map] at this; exact this) (by rw [ml2, ml3]) s4 s3).mono ?_); rintro e4 w4 ⟨rfl, n4, rfl⟩) | (go_at_call 27; (with_reducible refine (HAT.out _ ?hb).mono ?_); (case hb => first | exact below_drewN' bc3 _ | exact bc0 | exact bc7); rintro e5 w5 ⟨x5, y5, rfl, ⟨n5, rfl⟩, hv5, hx5, hy5⟩) | (go_at_call 45; (with_reducible refine (Size1_z _ _ _ (by assumption) _).mono ?_); rintro e6 w6 ⟨a6, rfl, ⟨n6, rfl⟩, hv6, ha6⟩))
          go_ret
          exact ⟨rfl, below_drewN' (hb.trans ((bc3.mono (Nat.le_refl _)).mono hbsz)) _⟩
      · rcases hvs with hv | ⟨hv1, hv2⟩
        · go_wp2_with (first | (go_at_call 29; first | ((with_reducible refine HP1.out.mono ?_); rintro e2 w2 ⟨v2, l2, rfl, own2, ml2, wf2, hb2⟩; have s2 := Sl.of_owns own2; have bc2 := bc0.trans hb2; clear own2 wf2) | ((with_reducible refine (HP2.out _ ?hb).mono ?_); (case hb => exact bc2); rintro e3 w3 ⟨v3, l3, rfl, own3, ml3, wf3, hb3⟩; have s3 := Sl.of_owns own3; have s4 := s2.below hb3; have bc3 := bc2.trans (hb3.mono bc2.size); clear own3 wf3)) | (go_at_call 37; (with_reducible refine (SameN_z _ _ _ _ _ (by have := HPL.out; rw [← ml2, List.length_map] at this; exact this) (by rw [ml2, ml3]) s4 s3).mono ?_); rintro e4 w4 ⟨rfl, n4, rfl⟩) | (go_at_call 27; (with_reducible refine (HAT.out _ ?hb).mono ?_); (case hb => first | exact below_drewN' bc3 _ | exact bc0 | exact bc7); rintro e5 w5 ⟨x5, y5, rfl, ⟨n5, rfl⟩, hv5, hx5, hy5⟩) | (go_at_call 45; (with_reducible refine (Size1_z _ _ _ (by assumption) _).mono ?_); rintro e6 w6 ⟨a6, rfl, ⟨n6, rfl⟩, hv6, ha6⟩))
          have hm8 : ((m : Int).tmod 8) = ((m % 8 : Nat) : Int) := (Int.ofNat_tmod m 8).symm
          go_loopw [19, 18] (fun i b w' => NearLoop wc (xs.map zv) (cv f1 f2) (derR xs) (m % 8) i b w') (fun i _ _ => 9 - (intOf i).toNat)
          case atStart => exact ⟨0, a6, rfl, by omega, rfl, by rw [hv6, show ((0 : Nat) : Int) = 0 from rfl, newC_zero], by first | exact below_drewN' bc3 _ | exact below_drewN' bc0 _⟩
          case round =>
            obtain ⟨j, wb, rfl, hj, rfl, hwb, hbr⟩ := hrel
            by_cases hjm : j < m % 8
            · have g5 : (j : Int) + 1 ≤ ((m % 8 : Nat) : Int) := by omega
              have hnx := newC_next (xs.map zv) (cv f1 f2) (derR xs) j
              have hna := newC_at (xs.map zv) (cv f1 f2) (derR xs) hv (j + 1)
              have hnr := newR_ok (p := xs) hv (k := j + 1) (by omega)
              rw [← hwb] at hnx
              have HN2 : ∀ w, Below wc.heap.size wc w → Calls Tryd.prog 43 #[u9, .complex .f64 f1 f2, .int .i64 ((j : Int) + 1)] w (RetNw w (newR xs (cv f1 f2) ((j + 1 : Nat) : Int))) := HNEW.out (j + 1)
              rw [hnr] at HN2
              have HNEW := hid HN2
              clear HN2 hnr hv6 hv5 HAT HP1 HP2
              generalize hRR : newC (xs.map zv) (cv f1 f2) ((j + 1 : Nat) : Int) (derR xs) = RR at *
              have HRR := hid hRR
              clear hRR
              obtain ⟨rz, rn⟩ := RR
              simp only at hnx hna
              obtain ⟨hle, hA⟩ := hnx
              have g6 : ¬ ((j : Int) + 1 < (rn : Int)) := by omega
              rcases hA with ⟨hne, hz⟩ | hlt
              · have hw2 : val wb = size1 (atV (xs.map zv) rz) := by rw [hwb, ← hz]
                have q1 := ford_lt_irrefl (size1 (atV (xs.map zv) rz))
                have g7 : ((rn : Int) == (j : Int) + 1) = false := by rw [beq_eq_false_iff_ne]; omega
                clear hwb hz hne
                go_wp2_with (first | (go_at_call 43; (with_reducible refine (HNEW.out _ ?hb).mono ?_); (case hb => exact hbr); rintro e7 w7 ⟨x7, y7, rfl, hb7, hv7, hx7, hy7⟩; have bc7 := hbr.trans (hb7.mono hbr.size)) | (go_at_call 27; (with_reducible refine (HAT2.out _ _ _ hv7 _ ?hb).mono ?_); (case hb => exact bc7); rintro e5 w5 ⟨x5, y5, rfl, ⟨n5, rfl⟩, hv5, hx5, hy5⟩) | (go_at_call 45; (with_reducible refine (Size1_z _ _ _ (by assumption) _).mono ?_); rintro e6 w6 ⟨a6, rfl, ⟨n6, rfl⟩, hv6, ha6⟩))
                go_roundw
                case rel => exact ⟨j + 1, a6, by go_num, by omega, rfl, by rw [hv6, HRR.out], below_drewN' bc7 _⟩
                case measure => simp [intOf] <;> omega
              · have q1 := flt_asymm hlt
                clear hwb
                go_wp2_with (first | (go_at_call 43; (with_reducible refine (HNEW.out _ ?hb).mono ?_); (case hb => exact hbr); rintro e7 w7 ⟨x7, y7, rfl, hb7, hv7, hx7, hy7⟩; have bc7 := hbr.trans (hb7.mono hbr.size)) | (go_at_call 27; (with_reducible refine (HAT2.out _ _ _ hv7 _ ?hb).mono ?_); (case hb => exact bc7); rintro e5 w5 ⟨x5, y5, rfl, ⟨n5, rfl⟩, hv5, hx5, hy5⟩) | (go_at_call 45; (with_reducible refine (Size1_z _ _ _ (by assumption) _).mono ?_); rintro e6 w6 ⟨a6, rfl, ⟨n6, rfl⟩, hv6, ha6⟩))
                all_goals
                  go_roundw
                  case rel => exact ⟨j + 1, a6, by go_num, by omega, rfl, by rw [hv6, HRR.out], below_drewN' bc7 _⟩
                  case measure => simp [intOf] <;> omega
            · obtain rfl : j = m % 8 := by omega
              have g5 : ¬ ((m % 8 : Nat) : Int) + 1 ≤ ((m % 8 : Nat) : Int) := by omega
              go_wp2
              go_ret
              exact ⟨rfl, hb.trans (hbr.mono hbsz)⟩
        · go_wp2_with (first | (go_at_call 29; first | ((with_reducible refine HP1.out.mono ?_); rintro e2 w2 ⟨v2, l2, rfl, own2, ml2, wf2, hb2⟩; have s2 := Sl.of_owns own2; have bc2 := bc0.trans hb2; clear own2 wf2) | ((with_reducible refine (HP2.out _ ?hb).mono ?_); (case hb => exact bc2); rintro e3 w3 ⟨v3, l3, rfl, own3, ml3, wf3, hb3⟩; have s3 := Sl.of_owns own3; have s4 := s2.below hb3; have bc3 := bc2.trans (hb3.mono bc2.size); clear own3 wf3)) | (go_at_call 37; (with_reducible refine (SameN_z _ _ _ _ _ (by have := HPL.out; rw [← ml2, List.length_map] at this; exact this) (by rw [ml2, ml3]) s4 s3).mono ?_); rintro e4 w4 ⟨rfl, n4, rfl⟩) | (go_at_call 27; (with_reducible refine (HAT.out _ ?hb).mono ?_); (case hb => first | exact below_drewN' bc3 _ | exact bc0 | exact bc7); rintro e5 w5 ⟨x5, y5, rfl, ⟨n5, rfl⟩, hv5, hx5, hy5⟩) | (go_at_call 45; (with_reducible refine (Size1_z _ _ _ (by assumption) _).mono ?_); rintro e6 w6 ⟨a6, rfl, ⟨n6, rfl⟩, hv6, ha6⟩))
          go_ret
          exact ⟨rfl, below_drewN' hb _⟩
end Go.Proofs.YtjpimgdmlieinaaDoor
