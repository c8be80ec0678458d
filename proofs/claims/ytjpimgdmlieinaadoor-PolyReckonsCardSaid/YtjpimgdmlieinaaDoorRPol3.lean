/- The reference's polynomials: sums, products. Conditions: words have 64 bits. -/
import Derived.Test.YtjpimgdmlieinaaDoorRPol2
namespace Go.Proofs.YtjpimgdmlieinaaDoor
open Go.RowKit

theorem Ps_two {w : World} {v u : Value} {p q : List Z} (hs : Sl w v (p.map C)) (hu : Sl w u (q.map C)) (hn : p.length ≤ 140737488355328) (hm : q.length ≤ 140737488355328) : Ps (w.alloc (.cells #[v, u] 57)) (.slice (some ⟨w.heap.size, 0, none⟩) 2 2) [p, q] := by
  have hb : Below w.heap.size w (w.alloc (.cells #[v, u] 57)) := (Below.refl _ w).alloc (Nat.le_refl _) _
  refine ⟨[v, u], rfl, ⟨_, 2, rfl, fun _ => ⟨_, 0, rfl, fun i x hx => ?_⟩, (fun h => by cases h), by simp⟩, fun k x r hx hr => ?_⟩
  · match i, hx with
    | 0, hx =>
      simp at hx
      subst hx
      rw [Nat.zero_add, World.cell?_alloc_new]
      rfl
    | 1, hx =>
      simp at hx
      subst hx
      rw [Nat.zero_add, World.cell?_alloc_new]
      rfl
  · match k, hx, hr with
    | 0, hx, hr =>
      simp at hx hr
      subst hx hr
      exact ⟨hs.below hb, hn⟩
    | 1, hx, hr =>
      simp at hx hr
      subst hx hr
      exact ⟨hu.below hb, hm⟩
theorem may_two {w : World} {v u : Value} {p q : List Z} (hs : Sl w v (p.map C)) (hu : Sl w u (q.map C)) (hn : p.length ≤ 140737488355328) (hm : q.length ≤ 140737488355328) : Calls Tryd.prog 71 #[.slice (some ⟨w.heap.size, 0, none⟩) 2 2] (w.alloc (.cells #[v, u] 57)) (fun E w' => E = .returned (.int .i64 (bothE p q)) ∧ Below w.heap.size w w') := by
  refine (may_any [p, q] _ _ (Ps_two hs hu hn hm) (by simp)).mono ?_
  rintro E w' ⟨rfl, n, rfl⟩
  rw [mayE_two]
  exact ⟨rfl, below_drewN' ((Below.refl _ w).alloc (Nat.le_refl _) _) _⟩

set_option maxRecDepth 100000 in
set_option maxHeartbeats 4000000 in
theorem rPlus_any (p q : List Z) (hwp : wfP p) (hwq : wfP q) (vp vq : Value) (w : World) (hp : Sl w vp (p.map C)) (hq : Sl w vq (q.map C)) (hn : p.length ≤ 140737488355328) (hm : q.length ≤ 140737488355328) : Calls Tryd.prog 30 #[vp, vq] w (RetPoly w (plusR p q)) := by
  have HB := hid (may_two hp hq hn hm)
  obtain ⟨a, cap, rfl, hcp⟩ := hp.cz
  obtain ⟨b, cap2, rfl, hcq⟩ := hq.cz
  have HR0 : plusR p q = if bothE p q = 0 then tol (plusV p q) else ([], bothE p q) := rfl
  clear hp hq
  by_cases h0 : bothE p q = 0
  · rw [if_pos h0] at HR0
    have HR := hid HR0
    have hl : p.length ≤ 256 ∧ q.length ≤ 256 := by
      unfold bothE at h0
      split at h0
      · cases h0
      · omega
    obtain ⟨hl1, hl2⟩ := hl
    rw [h0] at HB
    clear HR0 h0
    obtain ⟨iC, hiC, hc0, hc1, hc2⟩ := info_parts info_c
    obtain ⟨N, hN⟩ : ∃ N, N = max p.length q.length := ⟨_, rfl⟩
    have hmx : (if p.length < q.length then (q.length : Int) else (p.length : Int)) = (N : Int) := by split <;> omega
    have hNp : p.length ≤ N := by omega
    have hNq : q.length ≤ N := by omega
    have hN3 : N ≤ 256 := by omega
    have HN := hid hN
    clear hN
    go_enter Tryd.func30, Tryd.ntmps30
    go_wp2_with (first | (go_at_call 71; (with_reducible refine HB.out.mono ?_); rintro E8 w8 ⟨rfl, hb8⟩))
    go_loopw [8, 7] (fun i out w' => PolLoop w (plusA p q) N i out w') (fun i _ _ => N + 1 - (intOf i).toNat)
    case atStart => exact ⟨0, [], rfl, by omega, rfl, rfl, fun k z hz => by simp at hz, World.ownsRow_nil _ _ _ _, hb8⟩
    case round =>
      clear hb8 HB
      obtain ⟨k, l, rfl, hk, hlk, hlm, hlw, hown, hb⟩ := hrel
      have hz := hb.size
      by_cases hkn : k < N
      · have HNX := hid fun (x y : Nat) v wr => PolLoop.next (w := w) (wr := wr) (v := v) (x := x) (y := y) hkn hlk hlm hlw
        rw [hlk] at hown
        by_cases hkq : k < q.length
        · obtain ⟨⟨q1, q2⟩, hq1⟩ : ∃ z, q[k]? = some z := ⟨q[k]'hkq, List.getElem?_eq_getElem hkq⟩
          obtain ⟨b1, off1, rfl, cq⟩ := hcq k _ hq1
          obtain ⟨iw1, iw2⟩ := hwq k _ hq1
          have cq' := (hb.cell (p := ⟨b1, off1 + k, none⟩) (World.block_lt_of_cell? _ _ cq)).trans cq
          by_cases hkp : k < p.length
          · obtain ⟨⟨p1, p2⟩, hp1⟩ : ∃ z, p[k]? = some z := ⟨p[k]'hkp, List.getElem?_eq_getElem hkp⟩
            obtain ⟨b2, off2, rfl, cp⟩ := hcp k _ hp1
            have cp' := (hb.cell (p := ⟨b2, off2 + k, none⟩) (World.block_lt_of_cell? _ _ cp)).trans cp
            have HF := hid (show plusA p q k = cadd (cv p1 p2) (cv q1 q2) by unfold plusA pz; rw [if_neg (by omega), if_neg (by omega), zv_at hp1, zv_at hq1])
            have g1 : ¬ (q.length : Int) ≤ (k : Int) := by omega
            have g2 : ¬ (p.length : Int) ≤ (k : Int) := by omega
            clear hcp hcq hq1 hp1 cp cq
            go_wp2
            go_region_law (first | (refine step_append_lies _ rfl _ _ 57 rfl w.heap.size 33 iC _ 1 16 Tryd.underlying57 hiC hc0 hc1 hc2 rfl (by decide) u7 k (l.map C) rfl (by exact (owns_drewN hown _).alloc _) ⟨_, 0, none⟩ 1 1 [.complex .f64 _ _] rfl rfl (by exact cell_new _ _ _) (by simp [Value.oneCell']) (by decide) (by unfold maxLen; omega) (by omega) (by simp; omega) _ rfl ?_; intro g5 cap5 w5 hown5 hg5 hat5 hlt5) | (go_simp; go_at_call 60; (with_reducible refine (rAdd_z _ _ _ _ _ _ rfl rfl _).mono ?_); rintro E7 w7 ⟨x7, y7, rfl, ⟨n7, rfl⟩, hv7, hx7, hy7⟩))
            all_goals
              have b5 : Below w.heap.size w w5 := Below.grown ((below_drewN' hb _).alloc (by exact hz) _) hg5 (by simp; omega) (fun k hk => (hown.lt k hk).1)
              clear hg5 hat5 hlt5
              go_wp2
              go_roundw
              case rel => exact HNX.out x7 y7 _ _ hx7 hy7 (by rw [HF.out]; exact hv7) hown5 b5
              case measure => simp [intOf] <;> omega
          · have HF := hid (show plusA p q k = cv q1 q2 by unfold plusA pz; rw [if_neg (by omega), if_pos (by omega), zv_at hq1])
            have g1 : ¬ (q.length : Int) ≤ (k : Int) := by omega
            have g2 : (p.length : Int) ≤ (k : Int) := by omega
            clear hcp hcq hq1 cq
            go_wp2_with (at_builtin; refine wpList_app1 rfl _ _ 57 rfl w.heap.size 33 _ 16 Tryd.underlying57 info_c rfl _ k _ (.complex .f64 q1 q2) rfl rfl rfl (by exact hown) (by first | omega | (simp; omega)) (by first | omega | (simp; omega)) (by first | omega | (simp; omega)) ?_; intro v' w' h1 h2 h3)
            go_roundw
            case rel => exact HNX.out q1 q2 _ _ iw1 iw2 HF.out.symm h1 (hb.trans h2)
            case measure => simp [intOf] <;> omega
        · obtain ⟨⟨p1, p2⟩, hp1⟩ : ∃ z, p[k]? = some z := ⟨p[k]'(by have := HN.out; omega), List.getElem?_eq_getElem (by have := HN.out; omega)⟩
          obtain ⟨b2, off2, rfl, cp⟩ := hcp k _ hp1
          obtain ⟨iw1, iw2⟩ := hwp k _ hp1
          have cp' := (hb.cell (p := ⟨b2, off2 + k, none⟩) (World.block_lt_of_cell? _ _ cp)).trans cp
          have HF := hid (show plusA p q k = cv p1 p2 by unfold plusA pz; rw [if_pos (by omega), zv_at hp1])
          have g1 : (q.length : Int) ≤ (k : Int) := by omega
          have g2 : (k : Int) < (p.length : Int) := by have := (List.getElem?_eq_some_iff.1 hp1).1; omega
          clear hcp hcq hp1 cp
          go_wp2_with (at_builtin; refine wpList_app1 rfl _ _ 57 rfl w.heap.size 33 _ 16 Tryd.underlying57 info_c rfl _ k _ (.complex .f64 p1 p2) rfl rfl rfl (by exact hown) (by first | omega | (simp; omega)) (by first | omega | (simp; omega)) (by first | omega | (simp; omega)) ?_; intro v' w' h1 h2 h3)
          go_roundw
          case rel => exact HNX.out p1 p2 _ _ iw1 iw2 HF.out.symm h1 (hb.trans h2)
          case measure => simp [intOf] <;> omega
      · obtain rfl : k = N := by omega
        have hlv : l.map zv = plusV p q := by rw [hlm]; unfold plusV; rw [HN.out]
        have HR2 : plusR p q = tol (l.map zv) := by rw [hlv]; exact HR.out
        have hl256 : l.length ≤ 256 := by omega
        have hsl := Sl.of_owns hown
        clear hlv hcp hcq
        rcases rtol_cases l with ⟨h5, ht⟩ | ⟨h5, ht⟩
        · have HT := hid (rtold_ok hsl (by omega) h5)
          rw [ht] at HR2
          have HR3 := hid HR2
          clear HR2 ht h5
          go_wp2_with (go_at_call 75; (with_reducible refine HT.out.mono ?_); rintro E8 w8 ⟨rfl, n9, rfl⟩)
          go_ret2
          exact RetPoly.ok rfl (owns_drewN hown _) hlw (below_drewN' hb _) HR3.out
        · have HT := hid (rtold_bad hsl (by omega) h5)
          rw [ht] at HR2
          have HR3 := hid HR2
          clear HR2 ht h5
          go_wp2_with (go_at_call 75; (with_reducible refine HT.out.mono ?_); rintro E8 w8 ⟨rfl, n9, rfl⟩)
          go_ret2
          exact RetPoly.none rfl (below_drewN' hb _) HR3.out
  · rw [if_neg h0] at HR0
    have HR := hid HR0
    have g1 : (bothE p q == 0) = false := by rw [beq_eq_false_iff_ne]; exact h0
    have g2 : (bothE p q = 0) = False := by simp [h0]
    clear HR0 hcp hcq h0
    generalize bothE p q = be at *
    go_enter Tryd.func30, Tryd.ntmps30
    go_wp2_with (first | (go_at_call 71; (with_reducible refine HB.out.mono ?_); rintro E8 w8 ⟨rfl, hb8⟩))
    go_ret2
    exact RetPoly.none rfl hb8 HR.out

/-- In the sum of one number of the product. -/
def SumLoop (w0 : World) (p q : List Z) (m : Nat) (i s : Value) (wr : World) : Prop := ∃ (k a b : Nat), i = .int .i64 k ∧ k ≤ p.length ∧ s = .complex .f64 a b ∧ IsW a ∧ IsW b ∧ cv a b = timA p q m k ∧ Dr w0 wr

set_option maxRecDepth 100000 in
set_option maxHeartbeats 4000000 in
theorem rTimes_any (p q : List Z) (vp vq : Value) (w : World) (hp : Sl w vp (p.map C)) (hq : Sl w vq (q.map C)) (hn : p.length ≤ 140737488355328) (hm : q.length ≤ 140737488355328) : Calls Tryd.prog 32 #[vp, vq] w (RetPoly w (timR p q)) := by
  have HB := hid (may_two hp hq hn hm)
  obtain ⟨a, cap, rfl, hcp⟩ := hp.cz
  obtain ⟨b, cap2, rfl, hcq⟩ := hq.cz
  have HR0 : timR p q = if bothE p q = 0 then (if p.length = 0 ∨ q.length = 0 then ([], 0) else if 256 < p.length + q.length - 1 then ([], 3) else tol (timV p q)) else ([], bothE p q) := rfl
  clear hp hq
  by_cases h0 : bothE p q = 0
  · rw [if_pos h0] at HR0
    have hl : p.length ≤ 256 ∧ q.length ≤ 256 := by
      unfold bothE at h0
      split at h0
      · cases h0
      · omega
    obtain ⟨hl1, hl2⟩ := hl
    rw [h0] at HB
    clear h0
    by_cases h1 : p.length = 0
    · rw [if_pos (.inl h1)] at HR0
      have HR := hid HR0
      have g1 : ((p.length : Int) == 0) = true := by rw [h1]; rfl
      clear HR0 hcp hcq h1
      go_enter Tryd.func32, Tryd.ntmps32
      go_wp2_with (first | (go_at_call 71; (with_reducible refine HB.out.mono ?_); rintro E8 w8 ⟨rfl, hb8⟩))
      go_ret2
      exact RetPoly.none rfl hb8 HR.out
    · have g1 : ((p.length : Int) == 0) = false := by rw [beq_eq_false_iff_ne]; omega
      by_cases h2 : q.length = 0
      · rw [if_pos (.inr h2)] at HR0
        have HR := hid HR0
        have g2 : ((q.length : Int) == 0) = true := by rw [h2]; rfl
        clear HR0 hcp hcq h1 h2
        go_enter Tryd.func32, Tryd.ntmps32
        go_wp2_with (first | (go_at_call 71; (with_reducible refine HB.out.mono ?_); rintro E8 w8 ⟨rfl, hb8⟩))
        go_ret2
        exact RetPoly.none rfl hb8 HR.out
      · have g2 : ((q.length : Int) == 0) = false := by rw [beq_eq_false_iff_ne]; omega
        rw [if_neg (by omega)] at HR0
        by_cases h3 : 256 < p.length + q.length - 1
        · rw [if_pos h3] at HR0
          have HR := hid HR0
          have g3 : (256 : Int) < (p.length : Int) + (q.length : Int) - 1 := by omega
          clear HR0 hcp hcq h1 h2
          go_enter Tryd.func32, Tryd.ntmps32
          go_wp2_with (first | (go_at_call 71; (with_reducible refine HB.out.mono ?_); rintro E8 w8 ⟨rfl, hb8⟩))
          go_ret2
          exact RetPoly.none rfl hb8 HR.out
        · rw [if_neg h3] at HR0
          have HR := hid HR0
          obtain ⟨n, hnn⟩ : ∃ n, n = p.length + q.length - 1 := ⟨_, rfl⟩
          have g4 : (p.length : Int) + (q.length : Int) - 1 = (n : Int) := by omega
          have hn256 : n ≤ 256 := by omega
          have g5 : ¬ (256 : Int) < (n : Int) := by omega
          have hnn2 : n + 1 = p.length + q.length := by omega
          obtain ⟨iC, hiC, hc0, hc1, hc2⟩ := info_parts info_c
          have HNN := hid hnn
          clear HR0 h1 h2 hnn h3
          go_enter Tryd.func32, Tryd.ntmps32
          go_wp2_with (first | (go_at_call 71; (with_reducible refine HB.out.mono ?_); rintro E8 w8 ⟨rfl, hb8⟩))
          go_loopw [8, 7] (fun i out w' => PolLoop w (fun m => timA p q m p.length) n i out w') (fun i _ _ => n + 1 - (intOf i).toNat)
          case atStart => exact ⟨0, [], rfl, by omega, rfl, rfl, fun k z hz => by simp at hz, World.ownsRow_nil _ _ _ _, hb8⟩
          case round =>
            clear hb8 HB
            obtain ⟨m, l, rfl, hk, hlk, hlm, hlw, hown, hb⟩ := hrel
            have hz := hb.size
            by_cases hkn : m < n
            · have HNX := hid fun (x y : Nat) v wr => PolLoop.next (w := w) (wr := wr) (v := v) (x := x) (y := y) hkn hlk hlm hlw
              rw [hlk] at hown
              have HO := hid hown
              have HBL := hid hb
              clear hown hb hlm hlw hlk
              go_wp2
              go_loopw [10, 9] (fun i s w' => SumLoop wr p q m i s w') (fun i _ _ => p.length + 1 - (intOf i).toNat)
              case atStart => exact ⟨0, 0, 0, rfl, by omega, rfl, isW_0, isW_0, rfl, Dr.refl _⟩
              case round =>
                obtain ⟨i, s1, s2, rfl, hi, rfl, is1, is2, hs, nd, rfl⟩ := hrel
                by_cases hip : i < p.length
                · by_cases hin : i ≤ m ∧ m - i < q.length
                  · obtain ⟨d, hd⟩ : ∃ d, m = i + d := ⟨m - i, by omega⟩
                    obtain ⟨⟨p1, p2⟩, hp1⟩ : ∃ z, p[i]? = some z := ⟨p[i]'hip, List.getElem?_eq_getElem hip⟩
                    obtain ⟨⟨q1, q2⟩, hq1⟩ : ∃ z, q[d]? = some z := ⟨q[d]'(by omega), List.getElem?_eq_getElem (by omega)⟩
                    obtain ⟨b2, off2, rfl, cp⟩ := hcp i _ hp1
                    obtain ⟨b1, off1, rfl, cq⟩ := hcq d _ hq1
                    have cp' : wr.cell? ⟨b2, off2 + i, none⟩ = some (.complex .f64 p1 p2) := (HBL.out.cell (p := ⟨b2, off2 + i, none⟩) (World.block_lt_of_cell? _ _ cp)).trans cp
                    have cq' : wr.cell? ⟨b1, off1 + d, none⟩ = some (.complex .f64 q1 q2) := (HBL.out.cell (p := ⟨b1, off1 + d, none⟩) (World.block_lt_of_cell? _ _ cq)).trans cq
                    have HST := hid (show timA p q m (i + 1) = cadd (timA p q m i) (cmul (cv p1 p2) (cv q1 q2)) by rw [timA, if_pos hin, pz, pz, zv_at hp1, show m - i = d by omega, zv_at hq1])
                    have w0 : IntKind.i64.wrap (d : Int) = (d : Int) := IntWalk.i64_in _ (by omega)
                    have w1 : (m : Int) - (i : Int) = (d : Int) := by omega
                    have w2 : (d : Int) < (q.length : Int) := by omega
                    have w3 : (0 : Int) ≤ (d : Int) := by omega
                    have HC2 := hid (And.intro hcp hcq)
                    have HS := hid hs
                    have HD := hid hd
                    clear hcp hcq hp1 hq1 cp cq hs hin hd
                    go_wp2
                    go_region_law (first | (go_simp; go_at_call 76; (with_reducible refine (rMul_z _ _ _ _ _ _ rfl rfl _).mono ?_); rintro E6 w6 ⟨x6, y6, rfl, ⟨n6, rfl⟩, hv6, hx6, hy6⟩) | (go_simp; go_at_call 60; (with_reducible refine (rAdd_z _ _ _ _ _ _ HS.out (by first | assumption | rfl) _).mono ?_); rintro E7 w7 ⟨x7, y7, rfl, ⟨n7, rfl⟩, hv7, hx7, hy7⟩))
                    all_goals
                      go_wp2
                      go_roundw
                      case rel => exact ⟨i + 1, x7, y7, by go_num, by omega, rfl, hx7, hy7, by rw [hv7]; exact HST.out.symm, ⟨_, rfl⟩⟩
                      case measure => simp [intOf] <;> omega
                  · have HST := hid (show timA p q m (i + 1) = timA p q m i by rw [timA, if_neg hin])
                    rcases (by omega : m < i ∨ (i ≤ m ∧ q.length ≤ m - i)) with h4 | ⟨h4, h5⟩
                    · have g6 : ¬ ((i : Int) ≤ (m : Int)) := by omega
                      have g7 : ((0 : Int) ≤ (m : Int) - (i : Int)) = False := by simp; omega
                      clear hin
                      go_wp2
                      go_roundw
                      case rel => exact ⟨i + 1, s1, s2, by go_num, by omega, rfl, is1, is2, by rw [hs]; exact HST.out.symm, ⟨_, rfl⟩⟩
                      case measure => simp [intOf] <;> omega
                    · have g6 : ((i : Int) ≤ (m : Int)) := by omega
                      have g7 : ((0 : Int) ≤ (m : Int) - (i : Int)) = True := by simp; omega
                      have g8 : ((m : Int) - (i : Int) < (q.length : Int)) = False := by simp; omega
                      clear hin
                      go_wp2
                      go_roundw
                      case rel => exact ⟨i + 1, s1, s2, by go_num, by omega, rfl, is1, is2, by rw [hs]; exact HST.out.symm, ⟨_, rfl⟩⟩
                      case measure => simp [intOf] <;> omega
                · obtain rfl : i = p.length := by omega
                  have hown := owns_drewN HO.out nd
                  have hb := below_drewN' HBL.out nd
                  have HS := hid hs
                  clear hs
                  go_wp2_with (at_builtin; refine wpList_app1 rfl _ _ 57 rfl w.heap.size 33 _ 16 Tryd.underlying57 info_c rfl _ m _ (.complex .f64 s1 s2) rfl rfl rfl (by exact hown) (by first | omega | (simp; omega)) (by first | omega | (simp; omega)) (by first | omega | (simp; omega)) ?_; intro v' w' h1 h2 h3)
                  go_roundw
                  case rel => exact HNX.out s1 s2 _ _ is1 is2 HS.out h1 (hb.trans h2)
                  case measure => simp [intOf] <;> omega
            · obtain rfl : m = n := by omega
              have hlv : l.map zv = timV p q := by rw [hlm]; unfold timV; rw [HNN.out]
              have HR2 : timR p q = tol (l.map zv) := by rw [hlv]; exact HR.out
              have hl256 : l.length ≤ 256 := by omega
              have hsl := Sl.of_owns hown
              clear hlv hcp hcq hlm
              rcases rtol_cases l with ⟨h5, ht⟩ | ⟨h5, ht⟩
              · have HT := hid (rtold_ok hsl (by omega) h5)
                rw [ht] at HR2
                have HR3 := hid HR2
                clear HR2 ht h5
                go_wp2_with (go_at_call 75; (with_reducible refine HT.out.mono ?_); rintro E8 w8 ⟨rfl, n9, rfl⟩)
                go_ret2
                exact RetPoly.ok rfl (owns_drewN hown _) hlw (below_drewN' hb _) HR3.out
              · have HT := hid (rtold_bad hsl (by omega) h5)
                rw [ht] at HR2
                have HR3 := hid HR2
                clear HR2 ht h5
                go_wp2_with (go_at_call 75; (with_reducible refine HT.out.mono ?_); rintro E8 w8 ⟨rfl, n9, rfl⟩)
                go_ret2
                exact RetPoly.none rfl (below_drewN' hb _) HR3.out
  · rw [if_neg h0] at HR0
    have HR := hid HR0
    have g1 : (bothE p q == 0) = false := by rw [beq_eq_false_iff_ne]; exact h0
    have g2 : (bothE p q = 0) = False := by simp [h0]
    clear HR0 hcp hcq h0
    generalize bothE p q = be at *
    go_enter Tryd.func32, Tryd.ntmps32
    go_wp2_with (first | (go_at_call 71; (with_reducible refine HB.out.mono ?_); rintro E8 w8 ⟨rfl, hb8⟩))
    go_ret2
    exact RetPoly.none rfl hb8 HR.out
end Go.Proofs.YtjpimgdmlieinaaDoor
