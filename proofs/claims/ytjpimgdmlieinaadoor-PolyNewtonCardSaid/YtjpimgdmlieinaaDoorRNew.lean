/- Newton by the reference: the same as Newton. Conditions: words have 64 bits. -/
import Derived.Test.YtjpimgdmlieinaaDoorRPol2
namespace Go.Proofs.YtjpimgdmlieinaaDoor
open Go.RowKit

theorem rZero_z (a b : Nat) (z : CV) (h : cv a b = z) (w : World) : Calls Tryd.prog 82 #[.complex .f64 a b] w (fun e w' => e = .returned (.bool (czero z)) ∧ w = w') := h ▸ rZero_any a b w
theorem rDiv_z (a b c d : Nat) (p q : CV) (h : cv a b = p) (h' : cv c d = q) (w : World) : Calls Tryd.prog 84 #[.complex .f64 a b, .complex .f64 c d] w (RetC w (cdiv p q)) := h ▸ h' ▸ rDiv_any a b c d w
theorem rSub_z (a b c d : Nat) (p q : CV) (h : cv a b = p) (h' : cv c d = q) (w : World) : Calls Tryd.prog 83 #[.complex .f64 a b, .complex .f64 c d] w (RetC w (csub p q)) := h ▸ h' ▸ rSub_any a b c d w
theorem rSize1_z (a b : Nat) (z : CV) (h : cv a b = z) (w : World) : Calls Tryd.prog 85 #[.complex .f64 a b] w (RetF w (size1 z)) := h ▸ rSize1_any a b w
/-- In a round: z, s; the steps left k. -/
def RNwLoop (W : World) (vs : List CV) (d : List CV × Int) (m : Nat) (r : CV × Nat) (n z : Value) (w : World) : Prop := ∃ (k s x y : Nat), n = .int .i64 s ∧ s + k = m ∧ z = .complex .f64 x y ∧ IsW x ∧ IsW y ∧ (if d.2 = 0 then nwt vs d.1 k (cv x y) s else (cv x y, s)) = r ∧ Below W.heap.size W w
theorem atC_notfin {vs : List CV} {z : CV} (h : cfin z = false) : (atC vs z == 0) = false ∧ (atC vs z = 0) = False := by
  have : atC vs z ≠ 0 := by
    unfold atC
    rw [h]
    split
    · simp
    · assumption
  exact ⟨by rw [beq_eq_false_iff_ne]; exact this, by simp [this]⟩

set_option maxRecDepth 100000 in
set_option maxHeartbeats 8000000 in
theorem rNewton_any (p : List Z) (hwp : wfP p) (c d : Nat) (hc : IsW c) (hd : IsW d) (m : Int) (vp : Value) (w : World) (hp : Sl w vp (p.map C)) (hn : p.length ≤ 140737488355328) : Calls Tryd.prog 44 #[vp, .complex .f64 c d, .int .i64 m] w (RetNw w (newR p (cv c d) m)) := by
  have HB := hid (may_one hp hn)
  have HP := hid hp
  obtain ⟨a, cap, rfl, -⟩ := hp.cz
  clear hp
  have HR0 : newR p (cv c d) m = if refE p = 0 then (if cfin (cv c d) = true then (if m < 0 ∨ 4096 < m then (Z0, 0, 2) else ((newC (p.map zv) (cv c d) m (derR p)).1, (newC (p.map zv) (cv c d) m (derR p)).2, 0)) else (Z0, 0, 5)) else (Z0, 0, refE p) := rfl
  generalize newR p (cv c d) m = nr at *
  by_cases h0 : refE p = 0
  · rw [if_pos h0] at HR0
    rw [h0] at HB
    cases h1 : cfin (cv c d) with
    | false =>
      rw [h1, if_neg (by simp)] at HR0
      have HR := hid HR0
      have H1 := hid h1
      clear HR0 h0 h1
      go_enter Tryd.func44, Tryd.ntmps44
      go_wp2_with (first | (go_at_call 71; (with_reducible refine HB.out.mono ?_); rintro E8 w8 ⟨rfl, hb8⟩) | (go_at_call 62; (with_reducible refine (rFinite_any _ _ _).mono ?_); rintro E8 w9 ⟨rfl, n9, rfl⟩; rw [H1.out]))
      go_ret3
      exact RetNw.mk (x := 0) (y := 0) (n := 0) rfl (below_drewN' hb8 _) isW_0 isW_0 HR.out
    | true =>
      rw [h1, if_pos rfl] at HR0
      have H1 := hid h1
      clear h1
      by_cases h2 : m < 0 ∨ 4096 < m
      · rw [if_pos h2] at HR0
        have HR := hid HR0
        clear HR0 h0
        rcases (by omega : m < 0 ∨ (¬ m < 0 ∧ 4096 < m)) with g1 | ⟨g1, g2⟩
        all_goals
          clear h2
          go_enter Tryd.func44, Tryd.ntmps44
          go_wp2_with (first | (go_at_call 71; (with_reducible refine HB.out.mono ?_); rintro E8 w8 ⟨rfl, hb8⟩) | (go_at_call 62; (with_reducible refine (rFinite_any _ _ _).mono ?_); rintro E8 w9 ⟨rfl, n9, rfl⟩; rw [H1.out]))
          go_ret3
          exact RetNw.mk (x := 0) (y := 0) (n := 0) rfl (below_drewN' hb8 _) isW_0 isW_0 HR.out
      · rw [if_neg h2] at HR0
        have g1 : ¬ m < 0 := by omega
        have g2 : ¬ 4096 < m := by omega
        clear h2 h0
        obtain ⟨dr, hdr⟩ : ∃ dr, dr = derR p := ⟨_, rfl⟩
        have HDL0 := derR_len p
        have HD := hid fun w' (hb : Below w.heap.size w w') => (hdr ▸ rDerived_any p (.slice a p.length cap) w' (HP.out.below hb) hn : Calls Tryd.prog 34 #[.slice a p.length cap] w' (RetPoly w' dr))
        rw [← hdr] at HR0 HDL0
        clear hdr
        obtain ⟨ds, de⟩ := dr
        have HDL := hid HDL0
        obtain ⟨M, rfl⟩ : ∃ M : Nat, m = (M : Int) := ⟨m.toNat, by omega⟩
        have gA : (((M : Int)) < 0) = False := by simp
        have gB : ((4096 : Int) < (M : Int)) = False := by simp; omega
        have hM4 : M ≤ 4096 := by omega
        clear g1 g2 HDL0
        obtain ⟨rr, hrr⟩ : ∃ rr, rr = newC (p.map zv) (cv c d) M (ds, de) := ⟨_, rfl⟩
        rw [← hrr] at HR0
        have HR := hid HR0
        have HRR := hid (show (if (ds, de).2 = 0 then nwt (p.map zv) (ds, de).1 M (cv c d) 0 else (cv c d, 0)) = rr by rw [hrr]; unfold newC; rw [Int.toNat_natCast])
        clear hrr HR0
        go_enter Tryd.func44, Tryd.ntmps44
        go_wp2_with (first | (go_at_call 71; (with_reducible refine HB.out.mono ?_); rintro E8 w8 ⟨rfl, hb8⟩) | (go_at_call 62; (with_reducible refine (rFinite_any _ _ _).mono ?_); rintro E8 w9 ⟨rfl, n9, rfl⟩; rw [H1.out]))
        go_loopw [10, 1] (fun n z w' => RNwLoop w (p.map zv) (ds, de) M rr n z w') (fun n _ _ => M + 1 - (intOf n).toNat)
        case atStart => exact ⟨M, 0, c, d, rfl, by omega, rfl, hc, hd, HRR.out, below_drewN' hb8 _⟩
        case round =>
          clear hb8 HB
          obtain ⟨k, s, x, y, rfl, hsk, rfl, hx, hy, hnw, hbl⟩ := hrel
          have hpw := HP.out.below hbl
          cases k with
          | zero =>
            have HNW := hid (show (cv x y, s) = rr by rw [← hnw]; simp only [nwt]; split <;> rfl)
            have g3 : ((s : Int) < (M : Int)) = False := by simp; omega
            clear hnw hpw
            go_wp2
            go_ret3
            exact RetNw.mk (n := s) rfl hbl hx hy (by rw [HR.out, ← HNW.out])
          | succ k =>
            have g3 : ((s : Int) < (M : Int)) = True := by simp; omega
            have HA1 := hid fun w' (hb : Below w.heap.size w w') => rAt_c p hwp x y _ rfl _ w' (HP.out.below hb) hn
            have HA3 := hid fun w' (hb : Below w.heap.size w w') a b z (h : cv a b = z) => rAt_c p hwp a b z h _ w' (HP.out.below hb) hn
            have HA2 := hid fun w' v (l : List Z) (h : wfP l) (hs : Sl w' v (l.map C)) (hl : l.length ≤ 140737488355328) => rAt_c l h x y _ rfl v w' hs hl
            by_cases h3 : de = 0
            · subst h3
              have HNW0 : (if nwOk (p.map zv) ds (cv x y) = true then nwt (p.map zv) ds k (csub (cv x y) (cdiv (atV (p.map zv) (cv x y)) (atV ds (cv x y)))) (s + 1) else (cv x y, s)) = rr := hnw
              clear hnw hpw
              have hcs := nw_cases (p.map zv) ds (cv x y)
              have HNF := hid fun z (h : cfin z = false) => atC_notfin (vs := p.map zv) h
              have HDL2 := hid (show ∀ l : List Z, l.map zv = ds → l.length ≤ 140737488355328 from fun l h => by have := HDL.out; rw [← h, List.length_map] at this; omega)
              generalize p.map zv = vs at *
              generalize nwOk vs ds (cv x y) = ok at *
              rcases hcs with ⟨rfl, q1, q1'⟩ | ⟨q1, ⟨rfl, q2, q2'⟩ | ⟨q2, ⟨rfl, q3⟩ | ⟨q3, ⟨rfl, q4, q4'⟩ | ⟨q4, ⟨rfl, q5⟩ | ⟨rfl, q5⟩⟩⟩⟩⟩
              · rw [if_neg (by simp)] at HNW0
                have HNW := hid HNW0
                clear HNW0
                go_wp2_with (first | (go_at_call 28; (first | ((with_reducible refine (HA1.out _ ?hb).mono ?_); (case hb => exact hbl); (rintro E1 v1 ⟨a1, b1, rfl, hb1, hv1, ia1, ib1⟩); have hc1 := hbl.trans (hb1.mono hbl.size); clear hbl hb1) | ((with_reducible refine (HA2.out _ _ _ dwf hds (HDL2.out _ dlv)).mono ?_); (rintro E2 v2 ⟨a2, b2, rfl, hb2, hv2, ia2, ib2⟩); rw [dlv] at hv2; have hc2 := hcd.trans (hb2.mono hcd.size); clear hcd hb2 hds) | ((with_reducible refine (HA3.out _ ?hb _ _ _ (by first | assumption | rfl)).mono ?_); (case hb => exact below_drewN' hc2 _); (rintro E3 v3 ⟨a3, b3, rfl, hb3, hv3, ia3, ib3⟩); have hc3 := (below_drewN' hc2 _).trans (hb3.mono (below_drewN' hc2 _).size); clear hc2 hb3))) | (go_at_call 34; (with_reducible refine (HD.out _ ?hb).mono ?_); (case hb => exact hc1); rintro E8 w1 ⟨dv, dl, rfl, down, dlv, dwf, db⟩; have hcd := hc1.trans (db.mono hc1.size); have hds := Sl.of_owns down; clear down db hc1) | (go_at_call 82; (with_reducible refine (rZero_z _ _ _ (by first | assumption | rfl) _).mono ?_); rintro E4 v4 ⟨rfl, rfl⟩) | (go_at_call 84; (with_reducible refine (rDiv_z _ _ _ _ _ _ (by first | assumption | rfl) (by first | assumption | rfl) _).mono ?_); rintro E5 v5 ⟨a5, b5, rfl, ⟨m5, rfl⟩, hv5, ia5, ib5⟩) | (go_at_call 83; (with_reducible refine (rSub_z _ _ _ _ _ _ rfl (by first | assumption | rfl) _).mono ?_); rintro E6 v6 ⟨a6, b6, rfl, ⟨m6, rfl⟩, hv6, ia6, ib6⟩) | (go_at_call 62; (with_reducible refine (rFinite_z _ _ _ hv6 _).mono ?_); rintro E9 w9 ⟨rfl, n9, rfl⟩) | (go_at_call 85; (with_reducible refine (rSize1_z _ _ _ (by first | assumption | rfl) _).mono ?_); rintro E7 v7 ⟨a7, rfl, ⟨m7, rfl⟩, hv7, ia7⟩))
                go_ret3
                exact RetNw.mk (n := s) rfl (by first | assumption | exact below_drewN' (by assumption) _) hx hy (by rw [HR.out, ← HNW.out])
              · rw [if_neg (by simp)] at HNW0
                have HNW := hid HNW0
                clear HNW0
                go_wp2_with (first | (go_at_call 28; (first | ((with_reducible refine (HA1.out _ ?hb).mono ?_); (case hb => exact hbl); (rintro E1 v1 ⟨a1, b1, rfl, hb1, hv1, ia1, ib1⟩); have hc1 := hbl.trans (hb1.mono hbl.size); clear hbl hb1) | ((with_reducible refine (HA2.out _ _ _ dwf hds (HDL2.out _ dlv)).mono ?_); (rintro E2 v2 ⟨a2, b2, rfl, hb2, hv2, ia2, ib2⟩); rw [dlv] at hv2; have hc2 := hcd.trans (hb2.mono hcd.size); clear hcd hb2 hds) | ((with_reducible refine (HA3.out _ ?hb _ _ _ (by first | assumption | rfl)).mono ?_); (case hb => exact below_drewN' hc2 _); (rintro E3 v3 ⟨a3, b3, rfl, hb3, hv3, ia3, ib3⟩); have hc3 := (below_drewN' hc2 _).trans (hb3.mono (below_drewN' hc2 _).size); clear hc2 hb3))) | (go_at_call 34; (with_reducible refine (HD.out _ ?hb).mono ?_); (case hb => exact hc1); rintro E8 w1 ⟨dv, dl, rfl, down, dlv, dwf, db⟩; have hcd := hc1.trans (db.mono hc1.size); have hds := Sl.of_owns down; clear down db hc1) | (go_at_call 82; (with_reducible refine (rZero_z _ _ _ (by first | assumption | rfl) _).mono ?_); rintro E4 v4 ⟨rfl, rfl⟩) | (go_at_call 84; (with_reducible refine (rDiv_z _ _ _ _ _ _ (by first | assumption | rfl) (by first | assumption | rfl) _).mono ?_); rintro E5 v5 ⟨a5, b5, rfl, ⟨m5, rfl⟩, hv5, ia5, ib5⟩) | (go_at_call 83; (with_reducible refine (rSub_z _ _ _ _ _ _ rfl (by first | assumption | rfl) _).mono ?_); rintro E6 v6 ⟨a6, b6, rfl, ⟨m6, rfl⟩, hv6, ia6, ib6⟩) | (go_at_call 62; (with_reducible refine (rFinite_z _ _ _ hv6 _).mono ?_); rintro E9 w9 ⟨rfl, n9, rfl⟩) | (go_at_call 85; (with_reducible refine (rSize1_z _ _ _ (by first | assumption | rfl) _).mono ?_); rintro E7 v7 ⟨a7, rfl, ⟨m7, rfl⟩, hv7, ia7⟩))
                go_ret3
                exact RetNw.mk (n := s) rfl (by first | assumption | exact below_drewN' (by assumption) _) hx hy (by rw [HR.out, ← HNW.out])
              · rw [if_neg (by simp)] at HNW0
                have HNW := hid HNW0
                clear HNW0
                go_wp2_with (first | (go_at_call 28; (first | ((with_reducible refine (HA1.out _ ?hb).mono ?_); (case hb => exact hbl); (rintro E1 v1 ⟨a1, b1, rfl, hb1, hv1, ia1, ib1⟩); have hc1 := hbl.trans (hb1.mono hbl.size); clear hbl hb1) | ((with_reducible refine (HA2.out _ _ _ dwf hds (HDL2.out _ dlv)).mono ?_); (rintro E2 v2 ⟨a2, b2, rfl, hb2, hv2, ia2, ib2⟩); rw [dlv] at hv2; have hc2 := hcd.trans (hb2.mono hcd.size); clear hcd hb2 hds) | ((with_reducible refine (HA3.out _ ?hb _ _ _ (by first | assumption | rfl)).mono ?_); (case hb => exact below_drewN' hc2 _); (rintro E3 v3 ⟨a3, b3, rfl, hb3, hv3, ia3, ib3⟩); have hc3 := (below_drewN' hc2 _).trans (hb3.mono (below_drewN' hc2 _).size); clear hc2 hb3))) | (go_at_call 34; (with_reducible refine (HD.out _ ?hb).mono ?_); (case hb => exact hc1); rintro E8 w1 ⟨dv, dl, rfl, down, dlv, dwf, db⟩; have hcd := hc1.trans (db.mono hc1.size); have hds := Sl.of_owns down; clear down db hc1) | (go_at_call 82; (with_reducible refine (rZero_z _ _ _ (by first | assumption | rfl) _).mono ?_); rintro E4 v4 ⟨rfl, rfl⟩) | (go_at_call 84; (with_reducible refine (rDiv_z _ _ _ _ _ _ (by first | assumption | rfl) (by first | assumption | rfl) _).mono ?_); rintro E5 v5 ⟨a5, b5, rfl, ⟨m5, rfl⟩, hv5, ia5, ib5⟩) | (go_at_call 83; (with_reducible refine (rSub_z _ _ _ _ _ _ rfl (by first | assumption | rfl) _).mono ?_); rintro E6 v6 ⟨a6, b6, rfl, ⟨m6, rfl⟩, hv6, ia6, ib6⟩) | (go_at_call 62; (with_reducible refine (rFinite_z _ _ _ hv6 _).mono ?_); rintro E9 w9 ⟨rfl, n9, rfl⟩) | (go_at_call 85; (with_reducible refine (rSize1_z _ _ _ (by first | assumption | rfl) _).mono ?_); rintro E7 v7 ⟨a7, rfl, ⟨m7, rfl⟩, hv7, ia7⟩))
                go_ret3
                exact RetNw.mk (n := s) rfl (by first | assumption | exact below_drewN' (by assumption) _) hx hy (by rw [HR.out, ← HNW.out])
              · rw [if_neg (by simp)] at HNW0
                have HNW := hid HNW0
                clear HNW0
                cases q6 : cfin (csub (cv x y) (cdiv (atV vs (cv x y)) (atV ds (cv x y))))
                all_goals
                  go_wp2_with (first | (go_at_call 28; (first | ((with_reducible refine (HA1.out _ ?hb).mono ?_); (case hb => exact hbl); (rintro E1 v1 ⟨a1, b1, rfl, hb1, hv1, ia1, ib1⟩); have hc1 := hbl.trans (hb1.mono hbl.size); clear hbl hb1) | ((with_reducible refine (HA2.out _ _ _ dwf hds (HDL2.out _ dlv)).mono ?_); (rintro E2 v2 ⟨a2, b2, rfl, hb2, hv2, ia2, ib2⟩); rw [dlv] at hv2; have hc2 := hcd.trans (hb2.mono hcd.size); clear hcd hb2 hds) | ((with_reducible refine (HA3.out _ ?hb _ _ _ (by first | assumption | rfl)).mono ?_); (case hb => exact below_drewN' hc2 _); (rintro E3 v3 ⟨a3, b3, rfl, hb3, hv3, ia3, ib3⟩); have hc3 := (below_drewN' hc2 _).trans (hb3.mono (below_drewN' hc2 _).size); clear hc2 hb3))) | (go_at_call 34; (with_reducible refine (HD.out _ ?hb).mono ?_); (case hb => exact hc1); rintro E8 w1 ⟨dv, dl, rfl, down, dlv, dwf, db⟩; have hcd := hc1.trans (db.mono hc1.size); have hds := Sl.of_owns down; clear down db hc1) | (go_at_call 82; (with_reducible refine (rZero_z _ _ _ (by first | assumption | rfl) _).mono ?_); rintro E4 v4 ⟨rfl, rfl⟩) | (go_at_call 84; (with_reducible refine (rDiv_z _ _ _ _ _ _ (by first | assumption | rfl) (by first | assumption | rfl) _).mono ?_); rintro E5 v5 ⟨a5, b5, rfl, ⟨m5, rfl⟩, hv5, ia5, ib5⟩) | (go_at_call 83; (with_reducible refine (rSub_z _ _ _ _ _ _ rfl (by first | assumption | rfl) _).mono ?_); rintro E6 v6 ⟨a6, b6, rfl, ⟨m6, rfl⟩, hv6, ia6, ib6⟩) | (go_at_call 62; (with_reducible refine (rFinite_z _ _ _ hv6 _).mono ?_); rintro E9 w9 ⟨rfl, n9, rfl⟩) | (go_at_call 85; (with_reducible refine (rSize1_z _ _ _ (by first | assumption | rfl) _).mono ?_); rintro E7 v7 ⟨a7, rfl, ⟨m7, rfl⟩, hv7, ia7⟩))
                  go_ret3
                  exact RetNw.mk (n := s) rfl (by first | assumption | exact below_drewN' (by assumption) _) hx hy (by rw [HR.out, ← HNW.out])
              · rw [if_neg (by simp)] at HNW0
                have HNW := hid HNW0
                clear HNW0
                have q6 : cfin (csub (cv x y) (cdiv (atV vs (cv x y)) (atV ds (cv x y)))) = true := by
                  cases h : cfin (csub (cv x y) (cdiv (atV vs (cv x y)) (atV ds (cv x y)))) with
                  | true => rfl
                  | false => have := (HNF.out _ h).2; rw [q4] at this; simp at this
                go_wp2_with (first | (go_at_call 28; (first | ((with_reducible refine (HA1.out _ ?hb).mono ?_); (case hb => exact hbl); (rintro E1 v1 ⟨a1, b1, rfl, hb1, hv1, ia1, ib1⟩); have hc1 := hbl.trans (hb1.mono hbl.size); clear hbl hb1) | ((with_reducible refine (HA2.out _ _ _ dwf hds (HDL2.out _ dlv)).mono ?_); (rintro E2 v2 ⟨a2, b2, rfl, hb2, hv2, ia2, ib2⟩); rw [dlv] at hv2; have hc2 := hcd.trans (hb2.mono hcd.size); clear hcd hb2 hds) | ((with_reducible refine (HA3.out _ ?hb _ _ _ (by first | assumption | rfl)).mono ?_); (case hb => exact below_drewN' hc2 _); (rintro E3 v3 ⟨a3, b3, rfl, hb3, hv3, ia3, ib3⟩); have hc3 := (below_drewN' hc2 _).trans (hb3.mono (below_drewN' hc2 _).size); clear hc2 hb3))) | (go_at_call 34; (with_reducible refine (HD.out _ ?hb).mono ?_); (case hb => exact hc1); rintro E8 w1 ⟨dv, dl, rfl, down, dlv, dwf, db⟩; have hcd := hc1.trans (db.mono hc1.size); have hds := Sl.of_owns down; clear down db hc1) | (go_at_call 82; (with_reducible refine (rZero_z _ _ _ (by first | assumption | rfl) _).mono ?_); rintro E4 v4 ⟨rfl, rfl⟩) | (go_at_call 84; (with_reducible refine (rDiv_z _ _ _ _ _ _ (by first | assumption | rfl) (by first | assumption | rfl) _).mono ?_); rintro E5 v5 ⟨a5, b5, rfl, ⟨m5, rfl⟩, hv5, ia5, ib5⟩) | (go_at_call 83; (with_reducible refine (rSub_z _ _ _ _ _ _ rfl (by first | assumption | rfl) _).mono ?_); rintro E6 v6 ⟨a6, b6, rfl, ⟨m6, rfl⟩, hv6, ia6, ib6⟩) | (go_at_call 62; (with_reducible refine (rFinite_z _ _ _ hv6 _).mono ?_); rintro E9 w9 ⟨rfl, n9, rfl⟩) | (go_at_call 85; (with_reducible refine (rSize1_z _ _ _ (by first | assumption | rfl) _).mono ?_); rintro E7 v7 ⟨a7, rfl, ⟨m7, rfl⟩, hv7, ia7⟩))
                go_ret3
                exact RetNw.mk (n := s) rfl (by first | assumption | exact below_drewN' (by assumption) _) hx hy (by rw [HR.out, ← HNW.out])
              · rw [if_pos rfl] at HNW0
                have HNW := hid HNW0
                clear HNW0
                have q6 : cfin (csub (cv x y) (cdiv (atV vs (cv x y)) (atV ds (cv x y)))) = true := by
                  cases h : cfin (csub (cv x y) (cdiv (atV vs (cv x y)) (atV ds (cv x y)))) with
                  | true => rfl
                  | false => have := (HNF.out _ h).2; rw [q4] at this; simp at this
                go_wp2_with (first | (go_at_call 28; (first | ((with_reducible refine (HA1.out _ ?hb).mono ?_); (case hb => exact hbl); (rintro E1 v1 ⟨a1, b1, rfl, hb1, hv1, ia1, ib1⟩); have hc1 := hbl.trans (hb1.mono hbl.size); clear hbl hb1) | ((with_reducible refine (HA2.out _ _ _ dwf hds (HDL2.out _ dlv)).mono ?_); (rintro E2 v2 ⟨a2, b2, rfl, hb2, hv2, ia2, ib2⟩); rw [dlv] at hv2; have hc2 := hcd.trans (hb2.mono hcd.size); clear hcd hb2 hds) | ((with_reducible refine (HA3.out _ ?hb _ _ _ (by first | assumption | rfl)).mono ?_); (case hb => exact below_drewN' hc2 _); (rintro E3 v3 ⟨a3, b3, rfl, hb3, hv3, ia3, ib3⟩); have hc3 := (below_drewN' hc2 _).trans (hb3.mono (below_drewN' hc2 _).size); clear hc2 hb3))) | (go_at_call 34; (with_reducible refine (HD.out _ ?hb).mono ?_); (case hb => exact hc1); rintro E8 w1 ⟨dv, dl, rfl, down, dlv, dwf, db⟩; have hcd := hc1.trans (db.mono hc1.size); have hds := Sl.of_owns down; clear down db hc1) | (go_at_call 82; (with_reducible refine (rZero_z _ _ _ (by first | assumption | rfl) _).mono ?_); rintro E4 v4 ⟨rfl, rfl⟩) | (go_at_call 84; (with_reducible refine (rDiv_z _ _ _ _ _ _ (by first | assumption | rfl) (by first | assumption | rfl) _).mono ?_); rintro E5 v5 ⟨a5, b5, rfl, ⟨m5, rfl⟩, hv5, ia5, ib5⟩) | (go_at_call 83; (with_reducible refine (rSub_z _ _ _ _ _ _ rfl (by first | assumption | rfl) _).mono ?_); rintro E6 v6 ⟨a6, b6, rfl, ⟨m6, rfl⟩, hv6, ia6, ib6⟩) | (go_at_call 62; (with_reducible refine (rFinite_z _ _ _ hv6 _).mono ?_); rintro E9 w9 ⟨rfl, n9, rfl⟩) | (go_at_call 85; (with_reducible refine (rSize1_z _ _ _ (by first | assumption | rfl) _).mono ?_); rintro E7 v7 ⟨a7, rfl, ⟨m7, rfl⟩, hv7, ia7⟩))
                go_roundw
                case rel => exact ⟨k, s + 1, a6, b6, by go_num, by omega, rfl, ia6, ib6, by rw [hv6]; exact HNW.out, below_drewN' (by assumption) _⟩
                case measure => simp [intOf] <;> omega
            · rw [if_neg h3] at hnw
              have HNW := hid hnw
              have g4 : (de == 0) = false := by rw [beq_eq_false_iff_ne]; exact h3
              have g5 : (de = 0) = False := by simp [h3]
              have HDL2 := hid (show ∀ l : List Z, l.map zv = ds → l.length ≤ 140737488355328 from fun l h => by have := HDL.out; rw [← h, List.length_map] at this; omega)
              clear hnw hpw h3
              generalize p.map zv = vs at *
              by_cases q1 : atC vs (cv x y) = 0
              · go_wp2_with (first | (go_at_call 28; (first | ((with_reducible refine (HA1.out _ ?hb).mono ?_); (case hb => exact hbl); (rintro E1 v1 ⟨a1, b1, rfl, hb1, hv1, ia1, ib1⟩); have hc1 := hbl.trans (hb1.mono hbl.size); clear hbl hb1) | ((with_reducible refine (HA2.out _ _ _ dwf hds (HDL2.out _ dlv)).mono ?_); (rintro E2 v2 ⟨a2, b2, rfl, hb2, hv2, ia2, ib2⟩); rw [dlv] at hv2; have hc2 := hcd.trans (hb2.mono hcd.size); clear hcd hb2 hds) | ((with_reducible refine (HA3.out _ ?hb _ _ _ (by first | assumption | rfl)).mono ?_); (case hb => exact below_drewN' hc2 _); (rintro E3 v3 ⟨a3, b3, rfl, hb3, hv3, ia3, ib3⟩); have hc3 := (below_drewN' hc2 _).trans (hb3.mono (below_drewN' hc2 _).size); clear hc2 hb3))) | (go_at_call 34; (with_reducible refine (HD.out _ ?hb).mono ?_); (case hb => exact hc1); rintro E8 w1 ⟨dv, dl, rfl, down, dlv, dwf, db⟩; have hcd := hc1.trans (db.mono hc1.size); have hds := Sl.of_owns down; clear down db hc1) | (go_at_call 82; (with_reducible refine (rZero_z _ _ _ (by first | assumption | rfl) _).mono ?_); rintro E4 v4 ⟨rfl, rfl⟩) | (go_at_call 84; (with_reducible refine (rDiv_z _ _ _ _ _ _ (by first | assumption | rfl) (by first | assumption | rfl) _).mono ?_); rintro E5 v5 ⟨a5, b5, rfl, ⟨m5, rfl⟩, hv5, ia5, ib5⟩) | (go_at_call 83; (with_reducible refine (rSub_z _ _ _ _ _ _ rfl (by first | assumption | rfl) _).mono ?_); rintro E6 v6 ⟨a6, b6, rfl, ⟨m6, rfl⟩, hv6, ia6, ib6⟩) | (go_at_call 62; (with_reducible refine (rFinite_z _ _ _ hv6 _).mono ?_); rintro E9 w9 ⟨rfl, n9, rfl⟩) | (go_at_call 85; (with_reducible refine (rSize1_z _ _ _ (by first | assumption | rfl) _).mono ?_); rintro E7 v7 ⟨a7, rfl, ⟨m7, rfl⟩, hv7, ia7⟩))
                go_ret3
                exact RetNw.mk (n := s) rfl (by first | assumption | exact below_drewN' (by assumption) _) hx hy (by rw [HR.out, ← HNW.out])
              · have q1' : (atC vs (cv x y) == 0) = false := by rw [beq_eq_false_iff_ne]; exact q1
                have q1'' : (atC vs (cv x y) = 0) = False := by simp [q1]
                clear q1
                go_wp2_with (first | (go_at_call 28; (first | ((with_reducible refine (HA1.out _ ?hb).mono ?_); (case hb => exact hbl); (rintro E1 v1 ⟨a1, b1, rfl, hb1, hv1, ia1, ib1⟩); have hc1 := hbl.trans (hb1.mono hbl.size); clear hbl hb1) | ((with_reducible refine (HA2.out _ _ _ dwf hds (HDL2.out _ dlv)).mono ?_); (rintro E2 v2 ⟨a2, b2, rfl, hb2, hv2, ia2, ib2⟩); rw [dlv] at hv2; have hc2 := hcd.trans (hb2.mono hcd.size); clear hcd hb2 hds) | ((with_reducible refine (HA3.out _ ?hb _ _ _ (by first | assumption | rfl)).mono ?_); (case hb => exact below_drewN' hc2 _); (rintro E3 v3 ⟨a3, b3, rfl, hb3, hv3, ia3, ib3⟩); have hc3 := (below_drewN' hc2 _).trans (hb3.mono (below_drewN' hc2 _).size); clear hc2 hb3))) | (go_at_call 34; (with_reducible refine (HD.out _ ?hb).mono ?_); (case hb => exact hc1); rintro E8 w1 ⟨dv, dl, rfl, down, dlv, dwf, db⟩; have hcd := hc1.trans (db.mono hc1.size); have hds := Sl.of_owns down; clear down db hc1) | (go_at_call 82; (with_reducible refine (rZero_z _ _ _ (by first | assumption | rfl) _).mono ?_); rintro E4 v4 ⟨rfl, rfl⟩) | (go_at_call 84; (with_reducible refine (rDiv_z _ _ _ _ _ _ (by first | assumption | rfl) (by first | assumption | rfl) _).mono ?_); rintro E5 v5 ⟨a5, b5, rfl, ⟨m5, rfl⟩, hv5, ia5, ib5⟩) | (go_at_call 83; (with_reducible refine (rSub_z _ _ _ _ _ _ rfl (by first | assumption | rfl) _).mono ?_); rintro E6 v6 ⟨a6, b6, rfl, ⟨m6, rfl⟩, hv6, ia6, ib6⟩) | (go_at_call 62; (with_reducible refine (rFinite_z _ _ _ hv6 _).mono ?_); rintro E9 w9 ⟨rfl, n9, rfl⟩) | (go_at_call 85; (with_reducible refine (rSize1_z _ _ _ (by first | assumption | rfl) _).mono ?_); rintro E7 v7 ⟨a7, rfl, ⟨m7, rfl⟩, hv7, ia7⟩))
                go_ret3
                exact RetNw.mk (n := s) rfl (by first | assumption | exact below_drewN' (by assumption) _) hx hy (by rw [HR.out, ← HNW.out])
  · rw [if_neg h0] at HR0
    have HR := hid HR0
    have g1 : (refE p == 0) = false := by rw [beq_eq_false_iff_ne]; exact h0
    have g2 : (refE p = 0) = False := by simp [h0]
    clear HR0 h0
    generalize refE p = be at *
    go_enter Tryd.func44, Tryd.ntmps44
    go_wp2_with (first | (go_at_call 71; (with_reducible refine HB.out.mono ?_); rintro E8 w8 ⟨rfl, hb8⟩))
    go_ret3
    exact RetNw.mk (x := 0) (y := 0) (n := 0) rfl hb8 isW_0 isW_0 HR.out
end Go.Proofs.YtjpimgdmlieinaaDoor
