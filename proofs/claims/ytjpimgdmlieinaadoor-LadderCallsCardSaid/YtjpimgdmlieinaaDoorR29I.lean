/- gridworkref29.Input: what one sees of a ladder, as the document answers. Condition: kinds are bytes, Values have 64 bits. -/
import Derived.Test.YtjpimgdmlieinaaDoorR29L
import Derived.Test.YtjpimgdmlieinaaDoorR17T
namespace Go.Proofs.YtjpimgdmlieinaaDoor
open Go.RowKit Go.Maps

theorem RetRf.weak {w : World} {L : List El} {r : (Int × Int) × Option NetS} {E : Ending} {w' : World} (h : RetRf w L r E w') : RetNW w r.1 E w' := by
  obtain ⟨f, os⟩ := r
  cases os with
  | none => exact ⟨none, h.1, h.2⟩
  | some s =>
    obtain ⟨n, h1, _, h2⟩ := h
    exact ⟨_, h1, h2⟩
theorem rInv_z (a b : Nat) (p : CV) (h : cv a b = p) (w : World) : Calls Tryd.prog 61 #[.complex .f64 a b] w (RetC w (cinv p)) := h ▸ rInv_any a b w
theorem rAdd_z (a b c d : Nat) (p q : CV) (h : cv a b = p) (h' : cv c d = q) (w : World) : Calls Tryd.prog 60 #[.complex .f64 a b, .complex .f64 c d] w (RetC w (cadd p q)) := h ▸ h' ▸ rAdd_any a b c d w
theorem rFinite_y (a b : Nat) (z : CV) (h : cv a b = z) (w : World) : Calls Tryd.prog 62 #[.complex .f64 a b] w (RetB w (cfin z)) := h ▸ rFinite_any a b w
set_option maxRecDepth 100000 in
set_option maxHeartbeats 8000000 in
theorem rInput29_any (S T : List El) (hs : ∀ e ∈ S, e.kind < 256 ∧ IsW e.v) (ht : ∀ e ∈ T, e.kind < 256 ∧ IsW e.v) (o : Nat) (vs vt : Value) (w : World) (hS : ElsAt w vs S) (hT : ElsAt w vt T) : Calls Tryd.prog 18 #[vs, vt, .float .f64 o] w (RetIn w (inF S T (val o))) := by
  obtain ⟨sa, sc, rfl⟩ := hS.form
  obtain ⟨ta, tc, rfl⟩ := hT.form
  have hF := FltAt.new w 0 0
  have hb0 : Below w.heap.size w (w.alloc (.cells #[.int .i64 0, .int .i64 0] 36)) := (Below.refl _ w).alloc (Nat.le_refl _) _
  have HIN : inF S T (val o) = if aboveE (val o) = 0 then (if (ladNetF S T).1 = (0, 0) then inN (ladN S T S.length) S.length (val o) S.length (val 0, val 0) else ((val 0, val 0), (ladNetF S T).1)) else ((val 0, val 0), (aboveE (val o), -1)) := rfl
  rcases aboveE_cases (val o) with ⟨g1, ha⟩ | ⟨g1, ⟨g2, ha⟩ | ⟨g2, ha⟩⟩
  · rw [ha, if_neg (by decide)] at HIN
    have HI := hid HIN
    have HG := hid fun w => (rAng_any o w)
    rw [ha] at HG
    clear HIN ha g1
    go_enter Tryd.func18, Tryd.ntmps18
    go_wp2_with (go_at_call 58; (with_reducible refine (HG.out _).mono ?_); rintro E0 w0 ⟨rfl, n, rfl⟩)
    have hF1 : FltAt ((w.alloc (.cells #[.int .i64 0, .int .i64 0] 36)).drewN n) w.heap.size 0 0 := hF
    refine bodyPost_ret (results_flt rfl _ _ w.heap.size 5 (-1) rfl (hF1.set2 _ _)) rfl ?_
    exact RetIn.mk (x := 0) (y := 0) rfl (below_set2 (below_drewN' hb0 n) _ _ (Nat.le_refl _)) isW_0 isW_0 HI.out
  · rw [ha, if_neg (by decide)] at HIN
    have HI := hid HIN
    have HG := hid fun w => (rAng_any o w)
    rw [ha] at HG
    clear HIN ha g1
    go_enter Tryd.func18, Tryd.ntmps18
    go_wp2_with (go_at_call 58; (with_reducible refine (HG.out _).mono ?_); rintro E0 w0 ⟨rfl, n, rfl⟩)
    have hF1 : FltAt ((w.alloc (.cells #[.int .i64 0, .int .i64 0] 36)).drewN n) w.heap.size 0 0 := hF
    refine bodyPost_ret (results_flt rfl _ _ w.heap.size 2 (-1) rfl (hF1.set2 _ _)) rfl ?_
    exact RetIn.mk (x := 0) (y := 0) rfl (below_set2 (below_drewN' hb0 n) _ _ (Nat.le_refl _)) isW_0 isW_0 HI.out
  · rw [ha, if_pos rfl] at HIN
    have HG := hid fun w => (rAng_any o w)
    rw [ha] at HG
    have HN := hid fun n => (rLNet_any S T hs ht _ _ ((w.alloc (.cells #[.int .i64 0, .int .i64 0] 36)).drewN n) (hS.below (below_drewN' hb0 n)) (hT.below (below_drewN' hb0 n))).mono fun E w' h => h.weak
    obtain ⟨f1, f2, hf⟩ : ∃ f1 f2, (ladNetF S T).1 = (f1, f2) := ⟨_, _, rfl⟩
    rw [hf] at HN HIN
    by_cases hz : f1 = 0 ∧ f2 = 0
    · obtain ⟨rfl, rfl⟩ := hz
      rw [if_pos rfl] at HIN
      obtain ⟨hlen, hpos, hle⟩ := ladNetF_ok hf
      obtain ⟨L, hL⟩ : ∃ L, L = ladN S T S.length := ⟨_, rfl⟩
      have hLl : L.length = 2 * S.length := by rw [hL]; exact ladN_len S T _
      have hLk : ∀ e ∈ L, e.kind < 256 ∧ IsW e.v := by rw [hL]; exact ladN_good hs ht _
      rw [← hL] at HIN
      have HI := hid HIN
      have HE := hid fun (w3 : World) (h : Below w.heap.size w w3) => (rElements29_any S T _ _ w3 (hS.below h) (hT.below h) hlen.symm hle)
      rw [← hL, ← hlen] at HE
      rw [← hlen] at HN ⊢
      clear HIN ha hf hL hlen
      obtain ⟨N, hNn⟩ : ∃ N, N = S.length := ⟨_, rfl⟩
      rw [← hNn] at HN HE HI hle hpos hLl ⊢
      clear hNn hS hT
      go_enter Tryd.func18, Tryd.ntmps18
      go_wp2_with (first | (go_at_call 58; (with_reducible refine (HG.out _).mono ?_); rintro E0 w0 ⟨rfl, n, rfl⟩) | (go_at_call 17; (with_reducible refine (HN.out _).mono ?_); rintro E1 w1 ⟨p, rfl, hb1⟩; have hF1 : FltAt w1 w.heap.size 0 0 := FltAt.below (w := (w.alloc (.cells #[.int .i64 0, .int .i64 0] 36)).drewN n) hF hb1 (by simp); have hbw : Below w.heap.size w w1 := (below_drewN' hb0 n).trans (hb1.mono (by simp)); have hbw2 := hbw.alloc hbw.size (.cells #[.int .i64 0, .int .i64 0] 36); have hF2 : FltAt (w1.alloc (.cells #[.int .i64 0, .int .i64 0] 36)) w.heap.size 0 0 := hF1.below ((Below.refl _ w1).alloc (Nat.le_refl _) _) hF1.lt) | (go_at_call 57; (with_reducible refine (HE.out _ hbw2).mono ?_); rintro E2 w3 ⟨lv, rfl, hown, hb3⟩; have hb3w := hbw2.trans (hb3.mono hbw2.size); have hF3 := hF2.below hb3 hF2.lt; have hE3 := ElsAt.of_owns hown))
      obtain ⟨la, lc, rfl⟩ := hE3.form
      go_loopw [13, 12] (fun i z w' => InLoop w L N (val o) (.slice la L.length lc) (inF S T (val o)) i z w') (fun i _ _ => (intOf i + 1).toNat)
      case atStart => exact ⟨N, _, 0, 0, rfl, rfl, Nat.le_refl _, rfl, isW_0, isW_0, HI.out.symm, hE3, hF3, hb3w⟩
      case round =>
        obtain ⟨k, iv, x, y, rfl, hiv, hk, rfl, hx, hy, hin, hE, hFl, hbl⟩ := hrel
        have K : InW w (.slice la L.length lc) L wr := ⟨hE, hFl, hbl⟩
        clear hE3 hF3 hb3w hown hb3 hF2 hbw hbw2 hb1 hF1 HN HE HI hE hFl hbl hF hb0
        cases k with
        | zero =>
          have HI := hid hin
          obtain rfl : iv = -1 := by omega
          have d0 := K.2.1.c0
          have d1 := K.2.1.c1
          have d2 := K.2.1.fr 0
          have d3 := K.2.1.fr 1
          clear hin hiv
          go_wp2
          refine bodyPost_ret (results_flt rfl _ _ w.heap.size 0 0 rfl (K.2.1.set2 _ _)) rfl ?_
          exact RetIn.mk (x := x) (y := y) rfl (below_set2 K.2.2 _ _ (Nat.le_refl _)) hx hy HI.out.symm
        | succ j =>
          obtain rfl : iv = (j : Int) := by omega
          obtain ⟨s, hs1⟩ : ∃ s, L[2 * j]? = some s := ⟨L[2 * j]'(by omega), List.getElem?_eq_getElem (by omega)⟩
          obtain ⟨t, ht1⟩ : ∃ t, L[2 * j + 1]? = some t := ⟨L[2 * j + 1]'(by omega), List.getElem?_eq_getElem (by omega)⟩
          have hgs : L.getD (2 * j) el0 = s := by rw [List.getD_eq_getElem?_getD, hs1]; rfl
          have hgt : L.getD (2 * j + 1) el0 = t := by rw [List.getD_eq_getElem?_getD, ht1]; rfl
          have hin2 : (if (inStep N j s t (val o) (cv x y)).1 = 0 then inN L N (val o) j (inStep N j s t (val o) (cv x y)).2 else ((val 0, val 0), ((inStep N j s t (val o) (cv x y)).1, (j : Int)))) = inF S T (val o) := by rw [← hin, inN, hgs, hgt]
          obtain ⟨hsk, hsv⟩ := hLk s (List.mem_of_getElem? hs1)
          obtain ⟨htk, htv⟩ := hLk t (List.mem_of_getElem? ht1)
          have HA := hid (show ∀ w, Calls Tryd.prog 59 #[.agg #[.int .u8 t.kind, .string t.name, .string t.a, .string t.b, .string t.c, .string t.d, .float .f64 t.v, .int .i64 t.ph], .float .f64 o] w (RetCB w (recG true t (val o)) (recE true t (val o))) from fun w => rOf17_any t htk htv o w)
          have HB := hid (show ∀ w, Calls Tryd.prog 63 #[.agg #[.int .u8 s.kind, .string s.name, .string s.a, .string s.b, .string s.c, .string s.d, .float .f64 s.v, .int .i64 s.ph], .float .f64 o] w (RetCB w (recG false s (val o)) (recE false s (val o))) from fun w => rImp17_any s hsk hsv o w)
          obtain ⟨b, off, rfl, -, a0, a1, a2, a3, a4, a5, a6, a7⟩ := K.1.at ht1
          have HS0 := hid hs1
          have hst : inStep N j s t (val o) (cv x y) = if recE true t (val o) = 0 then (if cfin (inY N j t (val o) (cv x y)) = true then (if recE false s (val o) = 0 then (if cfin (cadd (recG false s (val o)) (cinv (inY N j t (val o) (cv x y)))) = true then (0, cadd (recG false s (val o)) (cinv (inY N j t (val o) (cv x y)))) else (6, (val 0, val 0))) else (recE false s (val o), (val 0, val 0))) else (6, (val 0, val 0))) else (recE true t (val o), (val 0, val 0)) := rfl
          have hyy : inY N j t (val o) (cv x y) = if j + 1 < N then cadd (recG true t (val o)) (cinv (cv x y)) else recG true t (val o) := rfl
          have i1 : (2 * (j : Int) + 1) < (L.length : Int) := by omega
          have i2 : (2 * (j : Int)) < (L.length : Int) := by omega
          clear hs1 ht1 hgs hgt hin hiv hsk hsv htk htv hLk
          generalize recE true t (val o) = e0 at *
          generalize recE false s (val o) = e1 at *
          generalize recG true t (val o) = z0 at *
          generalize recG false s (val o) = z1 at *
          generalize inStep N j s t (val o) (cv x y) = st at *
          generalize inY N j t (val o) (cv x y) = yy at *
          have HLl := hid hLl
          clear hLl
          by_cases q0 : e0 = 0
          · subst q0
            rw [if_pos rfl] at hst
            by_cases q1 : j + 1 < N
            · rw [if_pos q1] at hyy
              subst hyy
              have i3 : (j : Int) < (N : Int) - 1 := by omega
              by_cases q2 : cfin (cadd z0 (cinv (cv x y))) = true
              · rw [if_pos q2] at hst
                by_cases q3 : e1 = 0
                · subst q3
                  rw [if_pos rfl] at hst
                  by_cases q4 : cfin (cadd z1 (cinv (cadd z0 (cinv (cv x y))))) = true
                  · rw [if_pos q4] at hst
                    subst hst
                    rw [if_pos rfl] at hin2
                    have HI := hid hin2
                    clear hin2
                    go_wp2_with (first | (go_at_call 59; (with_reducible refine (HA.out _).mono ?_); rintro E4 w4 ⟨x4, y4, rfl, hb4, hv4, hx4, hy4⟩; replace K := K.below hb4; clear a0 a1 a2 a3 a4 a5 a6 a7 hb4; obtain ⟨a0, a1, a2, a3, a4, a5, a6, a7⟩ := K.1.cellsAt HS0.out; have d0 := K.2.1.c0; have d1 := K.2.1.c1; have d2 := K.2.1.fr 0; have d3 := K.2.1.fr 1) | (go_at_call 63; (with_reducible refine (HB.out _).mono ?_); rintro E6 w6 ⟨x6, y6, rfl, hb6, hv6, hx6, hy6⟩; replace K := InW.below (by first | with_reducible exact K | with_reducible exact K.drewN _) hb6; clear a0 a1 a2 a3 a4 a5 a6 a7 hb6 d0 d1 d2 d3; have d0 := K.2.1.c0; have d1 := K.2.1.c1; have d2 := K.2.1.fr 0; have d3 := K.2.1.fr 1) | (go_at_call 61; (with_reducible refine (rInv_z _ _ _ (by first | assumption | rfl) _).mono ?_); rintro E5 w5 ⟨x5, y5, rfl, ⟨n5, rfl⟩, hv5, hx5, hy5⟩) | (go_at_call 60; (with_reducible refine (rAdd_z _ _ _ _ _ _ (by first | assumption | rfl) (by first | assumption | rfl) _).mono ?_); rintro E7 w7 ⟨x7, y7, rfl, ⟨n7, rfl⟩, hv7, hx7, hy7⟩) | (go_at_call 62; (with_reducible refine (rFinite_y _ _ _ (by first | assumption | rfl) _).mono ?_); rintro E8 w8 ⟨rfl, n8, rfl⟩))
                    (go_roundw; (case rel => exact ⟨j, _, x7, y7, rfl, rfl, by omega, rfl, hx7, hy7, by rw [hv7]; exact HI.out, K.1, K.2.1, below_drewN' K.2.2 _⟩); (case measure => (simp [intOf] <;> omega)))
                  · rw [if_neg q4] at hst
                    subst hst
                    rw [if_neg (by decide)] at hin2
                    have HI := hid hin2
                    clear hin2
                    simp only [Bool.not_eq_true] at q4
                    go_wp2_with (first | (go_at_call 59; (with_reducible refine (HA.out _).mono ?_); rintro E4 w4 ⟨x4, y4, rfl, hb4, hv4, hx4, hy4⟩; replace K := K.below hb4; clear a0 a1 a2 a3 a4 a5 a6 a7 hb4; obtain ⟨a0, a1, a2, a3, a4, a5, a6, a7⟩ := K.1.cellsAt HS0.out; have d0 := K.2.1.c0; have d1 := K.2.1.c1; have d2 := K.2.1.fr 0; have d3 := K.2.1.fr 1) | (go_at_call 63; (with_reducible refine (HB.out _).mono ?_); rintro E6 w6 ⟨x6, y6, rfl, hb6, hv6, hx6, hy6⟩; replace K := InW.below (by first | with_reducible exact K | with_reducible exact K.drewN _) hb6; clear a0 a1 a2 a3 a4 a5 a6 a7 hb6 d0 d1 d2 d3; have d0 := K.2.1.c0; have d1 := K.2.1.c1; have d2 := K.2.1.fr 0; have d3 := K.2.1.fr 1) | (go_at_call 61; (with_reducible refine (rInv_z _ _ _ (by first | assumption | rfl) _).mono ?_); rintro E5 w5 ⟨x5, y5, rfl, ⟨n5, rfl⟩, hv5, hx5, hy5⟩) | (go_at_call 60; (with_reducible refine (rAdd_z _ _ _ _ _ _ (by first | assumption | rfl) (by first | assumption | rfl) _).mono ?_); rintro E7 w7 ⟨x7, y7, rfl, ⟨n7, rfl⟩, hv7, hx7, hy7⟩) | (go_at_call 62; (with_reducible refine (rFinite_y _ _ _ (by first | assumption | rfl) _).mono ?_); rintro E8 w8 ⟨rfl, n8, rfl⟩))
                    (refine bodyPost_ret (results_flt rfl _ _ w.heap.size 6 j rfl (FltAt.set2 (InW.flt (W := w) (lv := .slice (some ⟨b, off, none⟩) L.length lc) (L := L) (by first | with_reducible exact K | with_reducible exact K.drewN _)) _ _)) rfl ?_; exact RetIn.mk (x := 0) (y := 0) rfl (below_set2 (InW.bl (W := w) (lv := .slice (some ⟨b, off, none⟩) L.length lc) (L := L) (by first | with_reducible exact K | with_reducible exact K.drewN _)) _ _ (Nat.le_refl _)) isW_0 isW_0 HI.out.symm)
                · rw [if_neg q3] at hst
                  subst hst
                  rw [if_neg q3] at hin2
                  have HI := hid hin2
                  clear hin2
                  go_wp2_with (first | (go_at_call 59; (with_reducible refine (HA.out _).mono ?_); rintro E4 w4 ⟨x4, y4, rfl, hb4, hv4, hx4, hy4⟩; replace K := K.below hb4; clear a0 a1 a2 a3 a4 a5 a6 a7 hb4; obtain ⟨a0, a1, a2, a3, a4, a5, a6, a7⟩ := K.1.cellsAt HS0.out; have d0 := K.2.1.c0; have d1 := K.2.1.c1; have d2 := K.2.1.fr 0; have d3 := K.2.1.fr 1) | (go_at_call 63; (with_reducible refine (HB.out _).mono ?_); rintro E6 w6 ⟨x6, y6, rfl, hb6, hv6, hx6, hy6⟩; replace K := InW.below (by first | with_reducible exact K | with_reducible exact K.drewN _) hb6; clear a0 a1 a2 a3 a4 a5 a6 a7 hb6 d0 d1 d2 d3; have d0 := K.2.1.c0; have d1 := K.2.1.c1; have d2 := K.2.1.fr 0; have d3 := K.2.1.fr 1) | (go_at_call 61; (with_reducible refine (rInv_z _ _ _ (by first | assumption | rfl) _).mono ?_); rintro E5 w5 ⟨x5, y5, rfl, ⟨n5, rfl⟩, hv5, hx5, hy5⟩) | (go_at_call 60; (with_reducible refine (rAdd_z _ _ _ _ _ _ (by first | assumption | rfl) (by first | assumption | rfl) _).mono ?_); rintro E7 w7 ⟨x7, y7, rfl, ⟨n7, rfl⟩, hv7, hx7, hy7⟩) | (go_at_call 62; (with_reducible refine (rFinite_y _ _ _ (by first | assumption | rfl) _).mono ?_); rintro E8 w8 ⟨rfl, n8, rfl⟩))
                  (refine bodyPost_ret (results_flt rfl _ _ w.heap.size e1 j rfl (FltAt.set2 (InW.flt (W := w) (lv := .slice (some ⟨b, off, none⟩) L.length lc) (L := L) (by first | with_reducible exact K | with_reducible exact K.drewN _)) _ _)) rfl ?_; exact RetIn.mk (x := 0) (y := 0) rfl (below_set2 (InW.bl (W := w) (lv := .slice (some ⟨b, off, none⟩) L.length lc) (L := L) (by first | with_reducible exact K | with_reducible exact K.drewN _)) _ _ (Nat.le_refl _)) isW_0 isW_0 HI.out.symm)
              · rw [if_neg q2] at hst
                subst hst
                rw [if_neg (by decide)] at hin2
                have HI := hid hin2
                clear hin2
                simp only [Bool.not_eq_true] at q2
                go_wp2_with (first | (go_at_call 59; (with_reducible refine (HA.out _).mono ?_); rintro E4 w4 ⟨x4, y4, rfl, hb4, hv4, hx4, hy4⟩; replace K := K.below hb4; clear a0 a1 a2 a3 a4 a5 a6 a7 hb4; obtain ⟨a0, a1, a2, a3, a4, a5, a6, a7⟩ := K.1.cellsAt HS0.out; have d0 := K.2.1.c0; have d1 := K.2.1.c1; have d2 := K.2.1.fr 0; have d3 := K.2.1.fr 1) | (go_at_call 63; (with_reducible refine (HB.out _).mono ?_); rintro E6 w6 ⟨x6, y6, rfl, hb6, hv6, hx6, hy6⟩; replace K := InW.below (by first | with_reducible exact K | with_reducible exact K.drewN _) hb6; clear a0 a1 a2 a3 a4 a5 a6 a7 hb6 d0 d1 d2 d3; have d0 := K.2.1.c0; have d1 := K.2.1.c1; have d2 := K.2.1.fr 0; have d3 := K.2.1.fr 1) | (go_at_call 61; (with_reducible refine (rInv_z _ _ _ (by first | assumption | rfl) _).mono ?_); rintro E5 w5 ⟨x5, y5, rfl, ⟨n5, rfl⟩, hv5, hx5, hy5⟩) | (go_at_call 60; (with_reducible refine (rAdd_z _ _ _ _ _ _ (by first | assumption | rfl) (by first | assumption | rfl) _).mono ?_); rintro E7 w7 ⟨x7, y7, rfl, ⟨n7, rfl⟩, hv7, hx7, hy7⟩) | (go_at_call 62; (with_reducible refine (rFinite_y _ _ _ (by first | assumption | rfl) _).mono ?_); rintro E8 w8 ⟨rfl, n8, rfl⟩))
                (refine bodyPost_ret (results_flt rfl _ _ w.heap.size 6 j rfl (FltAt.set2 (InW.flt (W := w) (lv := .slice (some ⟨b, off, none⟩) L.length lc) (L := L) (by first | with_reducible exact K | with_reducible exact K.drewN _)) _ _)) rfl ?_; exact RetIn.mk (x := 0) (y := 0) rfl (below_set2 (InW.bl (W := w) (lv := .slice (some ⟨b, off, none⟩) L.length lc) (L := L) (by first | with_reducible exact K | with_reducible exact K.drewN _)) _ _ (Nat.le_refl _)) isW_0 isW_0 HI.out.symm)
            · rw [if_neg q1] at hyy
              subst hyy
              have i3 : ¬ (j : Int) < (N : Int) - 1 := by omega
              by_cases q2 : cfin (yy) = true
              · rw [if_pos q2] at hst
                by_cases q3 : e1 = 0
                · subst q3
                  rw [if_pos rfl] at hst
                  by_cases q4 : cfin (cadd z1 (cinv (yy))) = true
                  · rw [if_pos q4] at hst
                    subst hst
                    rw [if_pos rfl] at hin2
                    have HI := hid hin2
                    clear hin2
                    go_wp2_with (first | (go_at_call 59; (with_reducible refine (HA.out _).mono ?_); rintro E4 w4 ⟨x4, y4, rfl, hb4, hv4, hx4, hy4⟩; replace K := K.below hb4; clear a0 a1 a2 a3 a4 a5 a6 a7 hb4; obtain ⟨a0, a1, a2, a3, a4, a5, a6, a7⟩ := K.1.cellsAt HS0.out; have d0 := K.2.1.c0; have d1 := K.2.1.c1; have d2 := K.2.1.fr 0; have d3 := K.2.1.fr 1) | (go_at_call 63; (with_reducible refine (HB.out _).mono ?_); rintro E6 w6 ⟨x6, y6, rfl, hb6, hv6, hx6, hy6⟩; replace K := InW.below (by first | with_reducible exact K | with_reducible exact K.drewN _) hb6; clear a0 a1 a2 a3 a4 a5 a6 a7 hb6 d0 d1 d2 d3; have d0 := K.2.1.c0; have d1 := K.2.1.c1; have d2 := K.2.1.fr 0; have d3 := K.2.1.fr 1) | (go_at_call 61; (with_reducible refine (rInv_z _ _ _ (by first | assumption | rfl) _).mono ?_); rintro E5 w5 ⟨x5, y5, rfl, ⟨n5, rfl⟩, hv5, hx5, hy5⟩) | (go_at_call 60; (with_reducible refine (rAdd_z _ _ _ _ _ _ (by first | assumption | rfl) (by first | assumption | rfl) _).mono ?_); rintro E7 w7 ⟨x7, y7, rfl, ⟨n7, rfl⟩, hv7, hx7, hy7⟩) | (go_at_call 62; (with_reducible refine (rFinite_y _ _ _ (by first | assumption | rfl) _).mono ?_); rintro E8 w8 ⟨rfl, n8, rfl⟩))
                    (go_roundw; (case rel => exact ⟨j, _, x7, y7, rfl, rfl, by omega, rfl, hx7, hy7, by rw [hv7]; exact HI.out, K.1, K.2.1, below_drewN' K.2.2 _⟩); (case measure => (simp [intOf] <;> omega)))
                  · rw [if_neg q4] at hst
                    subst hst
                    rw [if_neg (by decide)] at hin2
                    have HI := hid hin2
                    clear hin2
                    simp only [Bool.not_eq_true] at q4
                    go_wp2_with (first | (go_at_call 59; (with_reducible refine (HA.out _).mono ?_); rintro E4 w4 ⟨x4, y4, rfl, hb4, hv4, hx4, hy4⟩; replace K := K.below hb4; clear a0 a1 a2 a3 a4 a5 a6 a7 hb4; obtain ⟨a0, a1, a2, a3, a4, a5, a6, a7⟩ := K.1.cellsAt HS0.out; have d0 := K.2.1.c0; have d1 := K.2.1.c1; have d2 := K.2.1.fr 0; have d3 := K.2.1.fr 1) | (go_at_call 63; (with_reducible refine (HB.out _).mono ?_); rintro E6 w6 ⟨x6, y6, rfl, hb6, hv6, hx6, hy6⟩; replace K := InW.below (by first | with_reducible exact K | with_reducible exact K.drewN _) hb6; clear a0 a1 a2 a3 a4 a5 a6 a7 hb6 d0 d1 d2 d3; have d0 := K.2.1.c0; have d1 := K.2.1.c1; have d2 := K.2.1.fr 0; have d3 := K.2.1.fr 1) | (go_at_call 61; (with_reducible refine (rInv_z _ _ _ (by first | assumption | rfl) _).mono ?_); rintro E5 w5 ⟨x5, y5, rfl, ⟨n5, rfl⟩, hv5, hx5, hy5⟩) | (go_at_call 60; (with_reducible refine (rAdd_z _ _ _ _ _ _ (by first | assumption | rfl) (by first | assumption | rfl) _).mono ?_); rintro E7 w7 ⟨x7, y7, rfl, ⟨n7, rfl⟩, hv7, hx7, hy7⟩) | (go_at_call 62; (with_reducible refine (rFinite_y _ _ _ (by first | assumption | rfl) _).mono ?_); rintro E8 w8 ⟨rfl, n8, rfl⟩))
                    (refine bodyPost_ret (results_flt rfl _ _ w.heap.size 6 j rfl (FltAt.set2 (InW.flt (W := w) (lv := .slice (some ⟨b, off, none⟩) L.length lc) (L := L) (by first | with_reducible exact K | with_reducible exact K.drewN _)) _ _)) rfl ?_; exact RetIn.mk (x := 0) (y := 0) rfl (below_set2 (InW.bl (W := w) (lv := .slice (some ⟨b, off, none⟩) L.length lc) (L := L) (by first | with_reducible exact K | with_reducible exact K.drewN _)) _ _ (Nat.le_refl _)) isW_0 isW_0 HI.out.symm)
                · rw [if_neg q3] at hst
                  subst hst
                  rw [if_neg q3] at hin2
                  have HI := hid hin2
                  clear hin2
                  go_wp2_with (first | (go_at_call 59; (with_reducible refine (HA.out _).mono ?_); rintro E4 w4 ⟨x4, y4, rfl, hb4, hv4, hx4, hy4⟩; replace K := K.below hb4; clear a0 a1 a2 a3 a4 a5 a6 a7 hb4; obtain ⟨a0, a1, a2, a3, a4, a5, a6, a7⟩ := K.1.cellsAt HS0.out; have d0 := K.2.1.c0; have d1 := K.2.1.c1; have d2 := K.2.1.fr 0; have d3 := K.2.1.fr 1) | (go_at_call 63; (with_reducible refine (HB.out _).mono ?_); rintro E6 w6 ⟨x6, y6, rfl, hb6, hv6, hx6, hy6⟩; replace K := InW.below (by first | with_reducible exact K | with_reducible exact K.drewN _) hb6; clear a0 a1 a2 a3 a4 a5 a6 a7 hb6 d0 d1 d2 d3; have d0 := K.2.1.c0; have d1 := K.2.1.c1; have d2 := K.2.1.fr 0; have d3 := K.2.1.fr 1) | (go_at_call 61; (with_reducible refine (rInv_z _ _ _ (by first | assumption | rfl) _).mono ?_); rintro E5 w5 ⟨x5, y5, rfl, ⟨n5, rfl⟩, hv5, hx5, hy5⟩) | (go_at_call 60; (with_reducible refine (rAdd_z _ _ _ _ _ _ (by first | assumption | rfl) (by first | assumption | rfl) _).mono ?_); rintro E7 w7 ⟨x7, y7, rfl, ⟨n7, rfl⟩, hv7, hx7, hy7⟩) | (go_at_call 62; (with_reducible refine (rFinite_y _ _ _ (by first | assumption | rfl) _).mono ?_); rintro E8 w8 ⟨rfl, n8, rfl⟩))
                  (refine bodyPost_ret (results_flt rfl _ _ w.heap.size e1 j rfl (FltAt.set2 (InW.flt (W := w) (lv := .slice (some ⟨b, off, none⟩) L.length lc) (L := L) (by first | with_reducible exact K | with_reducible exact K.drewN _)) _ _)) rfl ?_; exact RetIn.mk (x := 0) (y := 0) rfl (below_set2 (InW.bl (W := w) (lv := .slice (some ⟨b, off, none⟩) L.length lc) (L := L) (by first | with_reducible exact K | with_reducible exact K.drewN _)) _ _ (Nat.le_refl _)) isW_0 isW_0 HI.out.symm)
              · rw [if_neg q2] at hst
                subst hst
                rw [if_neg (by decide)] at hin2
                have HI := hid hin2
                clear hin2
                simp only [Bool.not_eq_true] at q2
                go_wp2_with (first | (go_at_call 59; (with_reducible refine (HA.out _).mono ?_); rintro E4 w4 ⟨x4, y4, rfl, hb4, hv4, hx4, hy4⟩; replace K := K.below hb4; clear a0 a1 a2 a3 a4 a5 a6 a7 hb4; obtain ⟨a0, a1, a2, a3, a4, a5, a6, a7⟩ := K.1.cellsAt HS0.out; have d0 := K.2.1.c0; have d1 := K.2.1.c1; have d2 := K.2.1.fr 0; have d3 := K.2.1.fr 1) | (go_at_call 63; (with_reducible refine (HB.out _).mono ?_); rintro E6 w6 ⟨x6, y6, rfl, hb6, hv6, hx6, hy6⟩; replace K := InW.below (by first | with_reducible exact K | with_reducible exact K.drewN _) hb6; clear a0 a1 a2 a3 a4 a5 a6 a7 hb6 d0 d1 d2 d3; have d0 := K.2.1.c0; have d1 := K.2.1.c1; have d2 := K.2.1.fr 0; have d3 := K.2.1.fr 1) | (go_at_call 61; (with_reducible refine (rInv_z _ _ _ (by first | assumption | rfl) _).mono ?_); rintro E5 w5 ⟨x5, y5, rfl, ⟨n5, rfl⟩, hv5, hx5, hy5⟩) | (go_at_call 60; (with_reducible refine (rAdd_z _ _ _ _ _ _ (by first | assumption | rfl) (by first | assumption | rfl) _).mono ?_); rintro E7 w7 ⟨x7, y7, rfl, ⟨n7, rfl⟩, hv7, hx7, hy7⟩) | (go_at_call 62; (with_reducible refine (rFinite_y _ _ _ (by first | assumption | rfl) _).mono ?_); rintro E8 w8 ⟨rfl, n8, rfl⟩))
                (refine bodyPost_ret (results_flt rfl _ _ w.heap.size 6 j rfl (FltAt.set2 (InW.flt (W := w) (lv := .slice (some ⟨b, off, none⟩) L.length lc) (L := L) (by first | with_reducible exact K | with_reducible exact K.drewN _)) _ _)) rfl ?_; exact RetIn.mk (x := 0) (y := 0) rfl (below_set2 (InW.bl (W := w) (lv := .slice (some ⟨b, off, none⟩) L.length lc) (L := L) (by first | with_reducible exact K | with_reducible exact K.drewN _)) _ _ (Nat.le_refl _)) isW_0 isW_0 HI.out.symm)
          · rw [if_neg q0] at hst
            subst hst
            rw [if_neg q0] at hin2
            have HI := hid hin2
            clear hin2
            go_wp2_with (first | (go_at_call 59; (with_reducible refine (HA.out _).mono ?_); rintro E4 w4 ⟨x4, y4, rfl, hb4, hv4, hx4, hy4⟩; replace K := K.below hb4; clear a0 a1 a2 a3 a4 a5 a6 a7 hb4; obtain ⟨a0, a1, a2, a3, a4, a5, a6, a7⟩ := K.1.cellsAt HS0.out; have d0 := K.2.1.c0; have d1 := K.2.1.c1; have d2 := K.2.1.fr 0; have d3 := K.2.1.fr 1) | (go_at_call 63; (with_reducible refine (HB.out _).mono ?_); rintro E6 w6 ⟨x6, y6, rfl, hb6, hv6, hx6, hy6⟩; replace K := InW.below (by first | with_reducible exact K | with_reducible exact K.drewN _) hb6; clear a0 a1 a2 a3 a4 a5 a6 a7 hb6 d0 d1 d2 d3; have d0 := K.2.1.c0; have d1 := K.2.1.c1; have d2 := K.2.1.fr 0; have d3 := K.2.1.fr 1) | (go_at_call 61; (with_reducible refine (rInv_z _ _ _ (by first | assumption | rfl) _).mono ?_); rintro E5 w5 ⟨x5, y5, rfl, ⟨n5, rfl⟩, hv5, hx5, hy5⟩) | (go_at_call 60; (with_reducible refine (rAdd_z _ _ _ _ _ _ (by first | assumption | rfl) (by first | assumption | rfl) _).mono ?_); rintro E7 w7 ⟨x7, y7, rfl, ⟨n7, rfl⟩, hv7, hx7, hy7⟩) | (go_at_call 62; (with_reducible refine (rFinite_y _ _ _ (by first | assumption | rfl) _).mono ?_); rintro E8 w8 ⟨rfl, n8, rfl⟩))
            (refine bodyPost_ret (results_flt rfl _ _ w.heap.size e0 j rfl (FltAt.set2 (InW.flt (W := w) (lv := .slice (some ⟨b, off, none⟩) L.length lc) (L := L) (by first | with_reducible exact K | with_reducible exact K.drewN _)) _ _)) rfl ?_; exact RetIn.mk (x := 0) (y := 0) rfl (below_set2 (InW.bl (W := w) (lv := .slice (some ⟨b, off, none⟩) L.length lc) (L := L) (by first | with_reducible exact K | with_reducible exact K.drewN _)) _ _ (Nat.le_refl _)) isW_0 isW_0 HI.out.symm)
    · have hne : ¬ ((f1, f2) : Int × Int) = (0, 0) := by
        intro h
        injection h with h1 h2
        exact hz ⟨h1, h2⟩
      rw [if_neg hne] at HIN
      have HI := hid HIN
      clear HIN ha hne hf
      have hz2 : (f1 = 0) = False ∨ (f1 = 0 ∧ (f2 = 0) = False) := by
        by_cases h : f1 = 0
        · exact .inr ⟨h, by simp; exact fun h2 => hz ⟨h, h2⟩⟩
        · exact .inl (by simp [h])
      clear hz
      rcases hz2 with hz1 | ⟨rfl, hz1⟩
      · go_enter Tryd.func18, Tryd.ntmps18
        go_wp2_with (first | (go_at_call 58; (with_reducible refine (HG.out _).mono ?_); rintro E0 w0 ⟨rfl, n, rfl⟩) | (go_at_call 17; (with_reducible refine (HN.out _).mono ?_); rintro E1 w1 ⟨p, rfl, hb1⟩))
        have hF1 : FltAt w1 w.heap.size 0 0 := FltAt.below (w := (w.alloc (.cells #[.int .i64 0, .int .i64 0] 36)).drewN n) hF hb1 (by simp)
        have hbw : Below w.heap.size w w1 := (below_drewN' hb0 n).trans (hb1.mono (by simp))
        obtain ⟨w2, hw2⟩ : ∃ w2, w2 = World.drew (w1.alloc (.cells #[.int .i64 f1, .int .i64 f2] 36)) := ⟨_, rfl⟩
        have hF9 : FltAt w2 w1.heap.size f1 f2 := by rw [hw2]; exact FltAt.new w1 f1 f2
        have hbn : Below w1.heap.size w1 w2 := by rw [hw2]; exact below_drewN' ((Below.refl _ w1).alloc (Nat.le_refl _) _) 1
        have hF2 := hF1.below hbn hF1.lt
        have hb2 := hbw.trans (hbn.mono hbw.size)
        have c0 := hF9.c0
        have c1 := hF9.c1
        have d0 := hF2.c0
        have d1 := hF2.c1
        have d2 := hF2.fr 0
        have d3 := hF2.fr 1
        (refine wp_region_still_tail 2 (by kernel_rfl) (by kernel_rfl) ?_; simp only [List.take_succ_cons, List.take_zero, List.drop_succ_cons, List.drop_zero]; change wpStill _ _ (World.drew (w1.alloc (.cells #[.int .i64 f1, .int .i64 f2] 36))) (fun a' => wpList _ _ _ _ a' (World.drew (w1.alloc (.cells #[.int .i64 f1, .int .i64 f2] 36)))) _ _; rw [← hw2]; clear hw2; (repeat still_step); (try refine wpStill_nil ?_))
        go_wp2
        refine bodyPost_ret (results_flt rfl _ _ w.heap.size f1 f2 rfl (hF2.set2 _ _)) rfl ?_
        exact RetIn.mk (x := 0) (y := 0) rfl (below_set2 hb2 _ _ (Nat.le_refl _)) isW_0 isW_0 HI.out
      · go_enter Tryd.func18, Tryd.ntmps18
        go_wp2_with (first | (go_at_call 58; (with_reducible refine (HG.out _).mono ?_); rintro E0 w0 ⟨rfl, n, rfl⟩) | (go_at_call 17; (with_reducible refine (HN.out _).mono ?_); rintro E1 w1 ⟨p, rfl, hb1⟩))
        have hF1 : FltAt w1 w.heap.size 0 0 := FltAt.below (w := (w.alloc (.cells #[.int .i64 0, .int .i64 0] 36)).drewN n) hF hb1 (by simp)
        have hbw : Below w.heap.size w w1 := (below_drewN' hb0 n).trans (hb1.mono (by simp))
        obtain ⟨w2, hw2⟩ : ∃ w2, w2 = World.drew (w1.alloc (.cells #[.int .i64 0, .int .i64 f2] 36)) := ⟨_, rfl⟩
        have hF9 : FltAt w2 w1.heap.size 0 f2 := by rw [hw2]; exact FltAt.new w1 0 f2
        have hbn : Below w1.heap.size w1 w2 := by rw [hw2]; exact below_drewN' ((Below.refl _ w1).alloc (Nat.le_refl _) _) 1
        have hF2 := hF1.below hbn hF1.lt
        have hb2 := hbw.trans (hbn.mono hbw.size)
        have c0 := hF9.c0
        have c1 := hF9.c1
        have d0 := hF2.c0
        have d1 := hF2.c1
        have d2 := hF2.fr 0
        have d3 := hF2.fr 1
        (refine wp_region_still_tail 2 (by kernel_rfl) (by kernel_rfl) ?_; simp only [List.take_succ_cons, List.take_zero, List.drop_succ_cons, List.drop_zero]; change wpStill _ _ (World.drew (w1.alloc (.cells #[.int .i64 0, .int .i64 f2] 36))) (fun a' => wpList _ _ _ _ a' (World.drew (w1.alloc (.cells #[.int .i64 0, .int .i64 f2] 36)))) _ _; rw [← hw2]; clear hw2; (repeat still_step); (try refine wpStill_nil ?_))
        go_wp2
        refine bodyPost_ret (results_flt rfl _ _ w.heap.size 0 f2 rfl (hF2.set2 _ _)) rfl ?_
        exact RetIn.mk (x := 0) (y := 0) rfl (below_set2 hb2 _ _ (Nat.le_refl _)) isW_0 isW_0 HI.out
end Go.Proofs.YtjpimgdmlieinaaDoor
