/- PolyReckons: the walk: the statement's function returns true. Conditions: words have 64 bits, lists as long as the form allows. -/
import Derived.Test.YtjpimgdmlieinaaDoorIns
import Derived.Test.YtjpimgdmlieinaaDoorLNearer
namespace Go.Proofs.YtjpimgdmlieinaaDoor
open Go.RowKit

theorem csame_zz {x y u v : Nat} {z : CV} (h1 : cv x y = z) (h2 : cv u v = z) : csame (cv x y) (cv u v) = true := by rw [h1, h2]; simp [csame, same]
theorem Sl.capL {w : World} {a : Option Addr} {n cap : Nat} {xs : List Value} (h : Sl w (.slice a n cap) xs) : n ≤ cap := by
  obtain ⟨a', c', e, _, _, hl⟩ := h
  cases e
  exact hl
theorem tol_le (vs : List CV) : (tol vs).1.length ≤ vs.length := by
  unfold tol
  split <;> simp
theorem timR_len (p q : List Z) : (timR p q).1.length ≤ 256 := by
  unfold timR
  split
  · split
    · simp
    · split
      · simp
      · rename_i h
        have := tol_le (timV p q)
        have h2 : (timV p q).length = p.length + q.length - 1 := by unfold timV; simp
        omega
  · simp
/-- What holds between the calls. -/
structure Kx (wc : World) (vp vq : Value) (xs ys : List Z) (L : List Made) (w : World) : Prop where
  sp : Sl w vp (xs.map C)
  sq : Sl w vq (ys.map C)
  ins : Ins wc.heap.size L w
  bl : Below wc.heap.size wc w
variable {wc w w' : World} {vp vq v : Value} {xs ys : List Z} {L : List Made} {l : List Z}
theorem Kx.drewN (h : Kx wc vp vq xs ys L w) (n : Nat) : Kx wc vp vq xs ys L (w.drewN n) := ⟨h.sp, h.sq, h.ins.drewN n, below_drewN' h.bl n⟩
theorem Kx.below (h : Kx wc vp vq xs ys L w) (hb : Below w.heap.size w w') : Kx wc vp vq xs ys L w' := ⟨h.sp.below hb, h.sq.below hb, h.ins.below hb, h.bl.trans (hb.mono h.bl.size)⟩
theorem Kx.push (h : Kx wc vp vq xs ys L w) (hown : w'.ownsRow w.heap.size 33 1 v l.length (l.map C)) (hb : Below w.heap.size w w') : Kx wc vp vq xs ys (⟨w.heap.size, w'.heap.size, v, l⟩ :: L) w' := ⟨h.sp.below hb, h.sq.below hb, h.ins.push h.bl.size hown hb, h.bl.trans (hb.mono h.bl.size)⟩
/-- The beginning of one that was lent. -/
theorem Kx.lead (h : Kx wc vp vq xs ys L w) {lo hi n c : Nat} {a : Option Addr} (hm : (⟨lo, hi, .slice a n c, lent l⟩ : Made) ∈ L) (hn : n = l.length + 6) : Sl w (.slice a l.length c) (l.map C) := by
  have h1 : Sl w (.slice a n c) ((lent l).map C) := h.ins.sl hm
  have h2 := h1.take (k := l.length) (by omega)
  rw [← List.map_take, lent_take] at h2
  exact h2
theorem owns_shape {w : World} {B e : Nat} {v : Value} {n : Nat} {xs : List Value} (h : w.ownsRow B e 1 v n xs) : ∃ a c, v = .slice a n c ∧ n ≤ c := by
  rcases h.2 with ⟨rfl, rfl⟩ | ⟨g, cap, cur, rfl, _, _, h, _⟩
  · exact ⟨_, _, rfl, Nat.le_refl _⟩
  · exact ⟨_, _, rfl, h⟩

theorem Ins.over_f {B : Nat} {c d n m t s g f : Made} {w w' : World} (h : Ins B [c, d, n, m, t, s, g, f] w) (ho : Oth w w' f.v) (hn : ∃ l' : List Z, w'.ownsRow B 33 1 f.v f.l.length (l'.map C)) : ∃ l' : List Z, l'.length = f.l.length ∧ Ins B [c, d, n, m, t, s, g, ⟨f.lo, f.hi, f.v, l'⟩] w' := Ins.over (L1 := [c, d, n, m, t, s, g]) (L2 := []) h ho hn
theorem Ins.over_g {B : Nat} {c d n m t s g f : Made} {w w' : World} (h : Ins B [c, d, n, m, t, s, g, f] w) (ho : Oth w w' g.v) (hn : ∃ l' : List Z, w'.ownsRow B 33 1 g.v g.l.length (l'.map C)) : ∃ l' : List Z, l'.length = g.l.length ∧ Ins B [c, d, n, m, t, s, ⟨g.lo, g.hi, g.v, l'⟩, f] w' := Ins.over (L1 := [c, d, n, m, t, s]) (L2 := [f]) h ho hn
theorem Ins.start {B : Nat} {L : List Made} {w : World} (h : Ins B L w) {x : Made} (hx : x ∈ L) : ∀ b, x.v.ownBlock = some b → B ≤ b := fun b hb => ((h.own x hx).1.lt b hb).1
theorem apart_calls {B : Nat} {f g s m d t n c : Made} {w : World} (h : Ins B [c, d, n, m, t, s, g, f] w) (hB : B ≤ w.heap.size) (hl : ∀ x ∈ [f, g, s, m, d], x.l.length ≤ 100000) (k : Nat) :
    Calls Tryd.prog 38 #[.slice (some ⟨w.heap.size, 0, none⟩) 5 5] ((w.drewN k).alloc (.cells #[f.v, g.v, s.v, m.v, d.v] 57)) fun e w' => e = .returned (.bool true) ∧ Below B w w' := by
  obtain ⟨own, HA⟩ := apart_start (h.drewN k) hB hl
  refine (ApartNumbers_any B own _ _ _ _ (by simp) HA (by simp; omega)).mono ?_
  rintro e w' ⟨rfl, hb⟩
  exact ⟨rfl, below_of_drewN (((Below.refl B (w.drewN k)).alloc hB _).trans hb)⟩

set_option maxRecDepth 100000 in
set_option maxHeartbeats 8000000 in
theorem reckons_walk (xs ys : List Z) (f1 f2 : Nat) (hxs : wfL xs) (hys : wfL ys) (vx vy : Value) (W : World) (hx : NsAt W vx xs) (hy : NsAt W vy ys) (hxn : xs.length * 16 ≤ 140737488351232) (hyn : ys.length * 16 ≤ 140737488351232) :
    Calls Tryd.prog 5 #[vx, vy, .agg #[.int .u64 f1, .int .u64 f2]] W fun e w' => e = .returned (.bool true) ∧ Below W.heap.size W w' := by
  have hx0 := hx
  have hy0 := hy
  obtain ⟨xa, xc, rfl, -⟩ := hx0
  obtain ⟨ya, yc, rfl, -⟩ := hy0
  have hb0 : Below W.heap.size W (W.alloc (.cells #[.int .u64 f1, .int .u64 f2] 56)) := (Below.refl _ W).alloc (Nat.le_refl _) _
  have hbx : (W.alloc (.cells #[.int .u64 f1, .int .u64 f2] 56)).heap[W.heap.size]? = some (.cells #[.int .u64 f1, .int .u64 f2] 56 (0, 0)) := by
    show (W.heap.push _)[W.heap.size]? = _
    simp
  go_enter Tryd.func5, Tryd.ntmps5
  by_cases hlong : 300 < xs.length ∨ 300 < ys.length
  · rcases (by omega : 300 < xs.length ∨ (¬ 300 < xs.length ∧ 300 < ys.length)) with g1 | ⟨g1, g2⟩
    · have g3 : (300 : Int) < (xs.length : Int) := by omega
      clear hlong
      go_wp2_with (go_at_call 10; (with_reducible refine (lives_any _).mono ?_); rintro e w1 ⟨rfl, hb1⟩)
      go_ret
      exact ⟨rfl, hb0.trans (hb1.mono (by simp))⟩
    · have g3 : ¬ (300 : Int) < (xs.length : Int) := by omega
      have g4 : (300 : Int) < (ys.length : Int) := by omega
      clear hlong
      go_wp2_with (go_at_call 10; (with_reducible refine (lives_any _).mono ?_); rintro e w1 ⟨rfl, hb1⟩)
      go_ret
      exact ⟨rfl, hb0.trans (hb1.mono (by simp))⟩
  · have g3 : ¬ (300 : Int) < (xs.length : Int) := by omega
    have g4 : ¬ (300 : Int) < (ys.length : Int) := by omega
    have hlx : xs.length ≤ 300 := by omega
    have hly : ys.length ≤ 300 := by omega
    clear hlong
    go_wp2_with (go_at_call 10; (with_reducible refine (lives_any _).mono ?_); rintro e w1 ⟨rfl, hb1⟩)
    have b1 : Below W.heap.size W w1 := hb0.trans (hb1.mono (by simp))
    have bx1 := (hb1.block W.heap.size (by simp)).trans hbx
    clear hb1 hb0 hbx
    have k0 : w1.cell? ⟨W.heap.size, 0, none⟩ = some (.int .u64 f1) := by simp [World.cell?, bx1]
    have k1 : w1.cell? ⟨W.heap.size, 1, none⟩ = some (.int .u64 f2) := by simp [World.cell?, bx1]
    have hsz := b1.size
    have hwl : W.heap.size < w1.heap.size := (Array.getElem?_eq_some_iff.1 bx1).1
    have HNX := hid fun w (h : Below W.heap.size W w) => Numbers_any xs _ w hxn (hx.below h)
    have HNY := hid fun w (h : Below W.heap.size W w) => Numbers_any ys _ w hyn (hy.below h)
    go_cut [7, 8, 9] from 40 to 45 (fun p q z wx => z = .complex .f64 f1 f2 ∧ Sl wx p (xs.map C) ∧ Sl wx q (ys.map C) ∧ Below W.heap.size W wx)
    case first =>
      go_region_held3 (fun w' => w'.cell? ⟨W.heap.size, 0, none⟩ = some (.int .u64 f1) ∧ w'.cell? ⟨W.heap.size, 1, none⟩ = some (.int .u64 f2)) (first | exact ⟨k0, k1⟩ | exact ⟨k2, k3⟩ | exact ⟨k4, k5⟩ | exact ⟨k6, k7⟩) (first | (go_at_call 24; first | ((with_reducible refine (HNX.out _ ?hb).mono ?_); (case hb => exact below_drewN' b1 1); rintro e2 w2 ⟨v2, rfl, own2, hb2⟩; have k2 := (hb2.cell (p := ⟨W.heap.size, 0, none⟩) hwl).trans k0; have k3 := (hb2.cell (p := ⟨W.heap.size, 1, none⟩) hwl).trans k1; have b2 : Below W.heap.size W w2 := (below_drewN' b1 1).trans (hb2.mono hsz); have hw2 : W.heap.size < w2.heap.size := Nat.lt_of_lt_of_le hwl hb2.size; have s2 := Sl.of_owns own2) | ((with_reducible refine (HNY.out _ ?hb).mono ?_); (case hb => exact b2); rintro e3 w3 ⟨v3, rfl, own3, hb3⟩; have k4 := (hb3.cell (p := ⟨W.heap.size, 0, none⟩) hw2).trans k2; have k5 := (hb3.cell (p := ⟨W.heap.size, 1, none⟩) hw2).trans k3; have b3 := b2.trans (hb3.mono (Nat.le_of_lt hw2)); have hw3 : W.heap.size < w3.heap.size := Nat.lt_of_lt_of_le hw2 hb3.size; have s3 := Sl.of_owns own3; have s4 := s2.below hb3)) | (go_at_call 25; (with_reducible refine (Number_any _ _ _).mono ?_); rintro e5 w5 ⟨rfl, hb5⟩; have k6 := (hb5.cell (p := ⟨W.heap.size, 0, none⟩) hw3).trans k4; have k7 := (hb5.cell (p := ⟨W.heap.size, 1, none⟩) hw3).trans k5; have b5 := b3.trans (hb5.mono (Nat.le_of_lt hw3)); have s5 := s3.below hb5; have s6 := s4.below hb5))
      all_goals
        go_wp2
        go_meet
        exact ⟨rfl, s6, s5, b5⟩
    case rest =>
      obtain ⟨rfl, hp, hq, hb⟩ := hcut
      have hwx := hxs.wfP
      have hwy := hys.wfP
      obtain ⟨pa, pc, rfl, -⟩ := hp.cz
      obtain ⟨qa, qc, rfl, -⟩ := hq.cz
      have HLE1 := hid (LentNumbers_any xs _ wc (by omega) hp)
      have HLE2 := hid fun w (h : Sl w (.slice qa ys.length qc) (ys.map C)) => LentNumbers_any ys _ w (by omega) h
      have HAT := hid fun v w (h : Sl w v (xs.map C)) => At_c xs hwx f1 f2 _ rfl v w h (by omega)
      have HRA := hid fun w (h : Sl w (.slice pa xs.length pc) (xs.map C)) => rAt_c xs hwx f1 f2 _ rfl _ w h (by omega)
      have HPL := hid fun v u w (h : Sl w v (xs.map C)) (h2 : Sl w u (ys.map C)) => Plus_any xs ys hwx hwy v u w h h2 (by omega) (by omega)
      have HRP := hid fun w (h : Sl w (.slice pa xs.length pc) (xs.map C)) (h2 : Sl w (.slice qa ys.length qc) (ys.map C)) => rPlus_any xs ys hwx hwy _ _ w h h2 (by omega) (by omega)
      have HTI := hid fun v u w (h : Sl w v (xs.map C)) (h2 : Sl w u (ys.map C)) => Times_any xs ys v u w h h2 (by omega) (by omega)
      have HRT := hid fun w (h : Sl w (.slice pa xs.length pc) (xs.map C)) (h2 : Sl w (.slice qa ys.length qc) (ys.map C)) => rTimes_any xs ys _ _ w h h2 (by omega) (by omega)
      have HDE := hid fun v w (h : Sl w v (xs.map C)) => Derived_any xs v w h (by omega)
      have HRD := hid fun w (h : Sl w (.slice pa xs.length pc) (xs.map C)) => rDerived_any xs _ w h (by omega)
      have HK1 := hid fun v w (h : Sl w v ((lent xs).map C)) (h2 : Sl w (.slice pa xs.length pc) (xs.map C)) => KeptNumbers_any (lent xs) xs v _ w (by rw [lent_length]; omega) (by omega) h h2
      have HK2 := hid fun v w (h : Sl w v ((lent ys).map C)) (h2 : Sl w (.slice qa ys.length qc) (ys.map C)) => KeptNumbers_any (lent ys) ys v _ w (by rw [lent_length]; omega) (by omega) h h2
      have HQ1 := hid (show (plusR xs ys).1.length ≤ 600 by have := plusR_len xs ys; omega)
      have HQ2 := hid (timR_len xs ys)
      have HQ3 := hid (show (derR xs).1.length ≤ 600 by have := derR_len xs; omega)
      have K : Kx wc (.slice pa xs.length pc) (.slice qa ys.length qc) xs ys [] wc := ⟨hp, hq, Ins.nil _ _, Below.refl _ _⟩
      have hbsz := hb.size
      clear HNX HNY b1 bx1 k0 k1 hsz hwl hx hy hp hq hwx hwy hxs hys
      generalize plusR xs ys = pr at *
      generalize timR xs ys = tr at *
      generalize derR xs = dr at *
      generalize atV (xs.map zv) (cv f1 f2) = av at *
      generalize atC (xs.map zv) (cv f1 f2) = ae at *
      obtain ⟨prv, pre⟩ := pr
      obtain ⟨trv, tre⟩ := tr
      obtain ⟨drv, dre⟩ := dr
      go_wp2_with (first
        | (go_at_call 26; first
            | ((with_reducible refine HLE1.out.mono ?_); rintro E2 w2 ⟨v2, rfl, own2, hb2⟩; rw [List.length_map] at own2; replace K := K.push own2 hb2; obtain ⟨fa, fc, rfl, hfc⟩ := owns_shape own2; rw [lent_length] at K hfc ⊢; clear own2)
            | ((with_reducible refine (HLE2.out _ K.sq).mono ?_); rintro E3 w3 ⟨v3, rfl, own3, hb3⟩; rw [List.length_map] at own3; replace K := K.push own3 hb3; obtain ⟨ga, gc, rfl, hgc⟩ := owns_shape own3; rw [lent_length] at K hgc ⊢; clear own3)))
      have hlf : xs.length ≤ fc := by omega
      have hlg : ys.length ≤ gc := by omega
      clear hb2 hb3
      generalize w2.heap.size = h2 at *
      go_quiet (fail)
      replace K := K.drewN nq
      generalize w3.heap.size = h3 at *
      generalize w3.drewN nq = w4 at *
      have MF : (⟨wc.heap.size, h2, .slice fa (xs.length + 6) fc, lent xs⟩ : Made) ∈ [(⟨h2, h3, .slice ga (ys.length + 6) gc, lent ys⟩ : Made), ⟨wc.heap.size, h2, .slice fa (xs.length + 6) fc, lent xs⟩] := by simp
      have MG : (⟨h2, h3, .slice ga (ys.length + 6) gc, lent ys⟩ : Made) ∈ [(⟨h2, h3, .slice ga (ys.length + 6) gc, lent ys⟩ : Made), ⟨wc.heap.size, h2, .slice fa (xs.length + 6) fc, lent xs⟩] := by simp
      have A := K.lead MF rfl
      have G := K.lead MG rfl
      clear MF MG
      go_wp2_with (first
        | (go_at_call 27; (with_reducible refine (HAT.out _ _ A).mono ?_); rintro E5 w5 ⟨x5, y5, rfl, ⟨n5, rfl⟩, hv5, hx5, hy5⟩)
        | (go_at_call 28; (with_reducible refine (HRA.out _ (K.drewN _).sp).mono ?_); rintro E6 w6 ⟨x6, y6, rfl, hb6, hv6, hx6, hy6⟩; replace K := (K.drewN _).below hb6; replace A := (A.drewN _).below hb6; replace G := (G.drewN _).below hb6; clear hb6)
        | (go_at_call 29; (with_reducible refine (HPL.out _ _ _ A G).mono ?_); rintro E7 w7 ⟨v7, l7, rfl, own7, ml7, wf7, hb7⟩; replace K := K.push own7 hb7; replace A := A.below hb7; replace G := G.below hb7; obtain ⟨a7, c7, rfl, -⟩ := owns_shape own7; clear own7 wf7 hb7)
        | (go_at_call 30; (with_reducible refine (HRP.out _ K.sp K.sq).mono ?_); rintro E8 w8 ⟨v8, l8, rfl, own8, ml8, wf8, hb8⟩; replace K := K.push own8 hb8; replace A := A.below hb8; replace G := G.below hb8; obtain ⟨a8, c8, rfl, -⟩ := owns_shape own8; clear own8 wf8 hb8)
        | (go_at_call 31; (with_reducible refine (HTI.out _ _ _ A G).mono ?_); rintro E9 w9 ⟨v9, l9, rfl, own9, ml9, wf9, hb9⟩; replace K := K.push own9 hb9; replace A := A.below hb9; replace G := G.below hb9; obtain ⟨a9, c9, rfl, -⟩ := owns_shape own9; clear own9 wf9 hb9)
        | (go_at_call 32; (with_reducible refine (HRT.out _ K.sp K.sq).mono ?_); rintro E10 w10 ⟨v10, l10, rfl, own10, ml10, wf10, hb10⟩; replace K := K.push own10 hb10; replace A := A.below hb10; replace G := G.below hb10; obtain ⟨a10, c10, rfl, -⟩ := owns_shape own10; clear own10 wf10 hb10)
        | (go_at_call 33; (with_reducible refine (HDE.out _ _ A).mono ?_); rintro E11 w11 ⟨v11, l11, rfl, own11, ml11, wf11, hb11⟩; replace K := K.push own11 hb11; obtain ⟨a11, c11, rfl, -⟩ := owns_shape own11; clear own11 wf11 hb11)
        | (go_at_call 34; (with_reducible refine (HRD.out _ K.sp).mono ?_); rintro E12 w12 ⟨v12, l12, rfl, own12, ml12, wf12, hb12⟩; replace K := K.push own12 hb12; obtain ⟨a12, c12, rfl, -⟩ := owns_shape own12; have SF := K.ins.sl (x := ⟨wc.heap.size, h2, .slice fa (xs.length + 6) fc, lent xs⟩) (by simp); have SG := K.ins.sl (x := ⟨h2, h3, .slice ga (ys.length + 6) gc, lent ys⟩) (by simp); clear own12 wf12 hb12)
        | (go_at_call 22; (with_reducible refine (kSame_any _ _ _ _ _).mono ?_); rintro E13 w13 ⟨rfl, rfl⟩; rw [csame_zz hv5 hv6])
        | (go_at_call 35; first
            | ((with_reducible refine (HK1.out _ _ SF K.sp).mono ?_); rintro E14 w14 ⟨rfl, hb14⟩; rw [sameC_self]; replace K := K.below hb14; replace SG := SG.below hb14; clear hb14 SF)
            | ((with_reducible refine (HK2.out _ _ SG K.sq).mono ?_); rintro E15 w15 ⟨rfl, hb15⟩; rw [sameC_self]; replace K := K.below hb15; have OF := K.ins.own ⟨wc.heap.size, h2, .slice fa (xs.length + 6) fc, lent xs⟩ (by simp); have OG := K.ins.start (x := ⟨wc.heap.size, h2, .slice fa (xs.length + 6) fc, lent xs⟩) (by simp); clear hb15 SG))
        | (go_at_call 36; first
            | ((with_reducible refine (OverNumbers_any (lent xs) (.slice fa (xs.length + 6) fc) wc.heap.size _ ?h1 ?h2).mono ?_); (case h1 => rw [lent_length]; omega); (case h2 => exact OF.1); rintro E16 w16 ⟨rfl, hn16, ho16⟩; obtain ⟨lf, elf, I⟩ := K.ins.over_f ho16 hn16; have BL := K.bl.trans (ho16.below OG); clear OF OG hn16 ho16; have OF := I.own ⟨h2, h3, .slice ga (ys.length + 6) gc, lent ys⟩ (by simp); have OG := I.start (x := ⟨h2, h3, .slice ga (ys.length + 6) gc, lent ys⟩) (by simp))
            | ((with_reducible refine (OverNumbers_any (lent ys) (.slice ga (ys.length + 6) gc) wc.heap.size _ ?h1 ?h2).mono ?_); (case h1 => rw [lent_length]; omega); (case h2 => exact OF.1); rintro E17 w17 ⟨rfl, hn17, ho17⟩; obtain ⟨lg, elg, J⟩ := I.over_g ho17 hn17; replace BL := BL.trans (ho17.below OG); clear OF OG hn17 ho17 I; have S7 := J.sl (x := ⟨w6.heap.size, w7.heap.size, .slice a7 l7.length c7, l7⟩) (by simp); have S8 := J.sl (x := ⟨w7.heap.size, w8.heap.size, .slice a8 l8.length c8, l8⟩) (by simp); have S9 := J.sl (x := ⟨w8.heap.size, w9.heap.size, .slice a9 l9.length c9, l9⟩) (by simp); have S10 := J.sl (x := ⟨w9.heap.size, w10.heap.size, .slice a10 l10.length c10, l10⟩) (by simp); have S11 := J.sl (x := ⟨w10.heap.size, w11.heap.size, .slice a11 l11.length c11, l11⟩) (by simp); have S12 := J.sl (x := ⟨w11.heap.size, w12.heap.size, .slice a12 l12.length c12, l12⟩) (by simp)))
        | (go_at_call 37; first
            | ((with_reducible refine (SameN_z l7 l8 _ _ _ ?h1 (ml7.trans ml8.symm) (S7.drewN _) (S8.drewN _)).mono ?_); (case h1 => have := HQ1.out; rw [← ml7, List.length_map] at this; omega); rintro E18 w18 ⟨rfl, n18, rfl⟩)
            | ((with_reducible refine (SameN_z l7 l8 _ _ _ ?h1 (ml7.trans ml8.symm) S7 S8).mono ?_); (case h1 => have := HQ1.out; rw [← ml7, List.length_map] at this; omega); rintro E18 w18 ⟨rfl, n18, rfl⟩)
            | ((with_reducible refine (SameN_z l9 l10 _ _ _ ?h1 (ml9.trans ml10.symm) (S9.drewN _) (S10.drewN _)).mono ?_); (case h1 => have := HQ2.out; rw [← ml9, List.length_map] at this; omega); rintro E19 w19 ⟨rfl, n19, rfl⟩)
            | ((with_reducible refine (SameN_z l11 l12 _ _ _ ?h1 (ml11.trans ml12.symm) (S11.drewN _) (S12.drewN _)).mono ?_); (case h1 => have := HQ3.out; rw [← ml11, List.length_map] at this; omega); rintro E20 w20 ⟨rfl, n20, rfl⟩; have HAP := hid (apart_calls J BL.size (by
                have q1 := HQ1.out
                have q2 := HQ2.out
                have q3 := HQ3.out
                rw [← ml7, List.length_map] at q1
                rw [← ml9, List.length_map] at q2
                rw [← ml11, List.length_map] at q3
                have e1 : lf.length = (lent xs).length := elf
                have e2 : lg.length = (lent ys).length := elg
                rw [lent_length] at e1 e2
                intro x hx
                simp only [List.mem_cons, List.not_mem_nil, or_false] at hx
                rcases hx with rfl | rfl | rfl | rfl | rfl <;> (try dsimp only) <;> omega))))
        | (go_at_call 38; (with_reducible refine (HAP.out _).mono ?_); rintro E21 w21 ⟨rfl, hb21⟩))
      go_ret
      exact ⟨rfl, hb.trans ((BL.trans hb21).mono hbsz)⟩
end Go.Proofs.YtjpimgdmlieinaaDoor
