/- The reference's polynomials: a value, derived. Conditions: words have 64 bits. -/
import Derived.Test.YtjpimgdmlieinaaDoorRPol1
namespace Go.Proofs.YtjpimgdmlieinaaDoor
open Go.RowKit

theorem rMul_z (a b c d : Nat) (p q : CV) (h : cv a b = p) (h' : cv c d = q) (w : World) : Calls Tryd.prog 76 #[.complex .f64 a b, .complex .f64 c d] w (RetC w (cmul p q)) := h ▸ h' ▸ rMul_any a b c d w
theorem rAdd_z (a b c d : Nat) (p q : CV) (h : cv a b = p) (h' : cv c d = q) (w : World) : Calls Tryd.prog 60 #[.complex .f64 a b, .complex .f64 c d] w (RetC w (cadd p q)) := h ▸ h' ▸ rAdd_any a b c d w
theorem rFinite_z (a b : Nat) (z : CV) (h : cv a b = z) (w : World) : Calls Tryd.prog 62 #[.complex .f64 a b] w (RetB w (cfin z)) := h ▸ rFinite_any a b w

set_option maxRecDepth 100000 in
set_option maxHeartbeats 4000000 in
theorem value_any (p : List Z) (hw : wfP p) (c d : Nat) (v : Value) (w : World) (hs : Sl w v (p.map C)) (hn : p.length ≤ 140737488355328) : Calls Tryd.prog 72 #[v, .complex .f64 c d] w (RetC w (horner p (cv c d))) := by
  obtain ⟨a, cap, rfl, hc⟩ := hs.cz
  have hho : horner p (cv c d) = if p.length = 0 then (val 0, val 0) else horN p (cv c d) (p.length - 1) (zv (p.getD (p.length - 1) (0, 0))) := rfl
  by_cases h3 : p.length = 0
  · rw [if_pos h3] at hho
    have HH := hid hho
    have hg : ((p.length : Int) == 0) = true := by rw [h3]; rfl
    clear hc hho h3
    go_enter Tryd.func72, Tryd.ntmps72
    go_wp2
    go_ret
    exact ⟨0, 0, rfl, Dr.refl _, HH.out.symm, isW_0, isW_0⟩
  · rw [if_neg h3] at hho
    obtain ⟨m, hm⟩ : ∃ m, p.length = m + 1 := ⟨p.length - 1, by omega⟩
    obtain ⟨x0, hx0⟩ : ∃ x0, p[m]? = some x0 := ⟨p[m]'(by omega), List.getElem?_eq_getElem (by omega)⟩
    obtain ⟨b, off, rfl, hcm⟩ := hc m x0 hx0
    obtain ⟨hw1, hw2⟩ := hw m x0 hx0
    rw [hm, Nat.add_sub_cancel, zv_at hx0] at hho
    have hg : ((m : Int) + 1 == 0) = false := by rw [beq_eq_false_iff_ne]; omega
    obtain ⟨x1, x2⟩ := x0
    obtain ⟨r, hr⟩ : ∃ r, r = horner p (cv c d) := ⟨_, rfl⟩
    rw [← hr] at hho ⊢
    have hmn : m < p.length := by omega
    rw [hm] at hn ⊢
    have HH := hid hho
    have HM := hid hm
    clear hr hho hm h3 hx0
    go_enter Tryd.func72, Tryd.ntmps72
    go_wp2
    go_loopw [6, 5] (fun i x w' => AtLoop w p (cv c d) r i x w') (fun i _ _ => (intOf i + 1).toNat)
    case atStart => exact ⟨m, _, x1, x2, rfl, by omega, hmn, rfl, hw1, hw2, HH.out.symm, Dr.refl _⟩
    case round =>
      obtain ⟨k, iv, y1, y2, rfl, hiv, hk, rfl, hy1, hy2, hrr, nd, rfl⟩ := hrel
      clear hcm hw1 hw2
      cases k with
      | zero =>
        obtain rfl : iv = -1 := by omega
        have HRR := hid (show cv y1 y2 = r from hrr)
        clear hrr hiv
        go_wp2
        go_ret
        exact ⟨y1, y2, rfl, ⟨_, rfl⟩, HRR.out, hy1, hy2⟩
      | succ j =>
        obtain rfl : iv = (j : Int) := by omega
        obtain ⟨⟨q1, q2⟩, hq⟩ : ∃ q, p[j]? = some q := ⟨p[j]'(by omega), List.getElem?_eq_getElem (by omega)⟩
        obtain ⟨b', off', e1, hcj⟩ := hc j _ hq
        cases e1
        have hr2 : horN p (cv c d) j (cadd (cmul (cv y1 y2) (cv c d)) (cv q1 q2)) = r := by rw [← hrr, horN, zv_at hq]
        have HR2 := hid hr2
        have hjm : (j : Int) < (m : Int) + 1 := by have := HM.out; omega
        have hcw : (w.drewN nd).cell? ⟨b, off + j, none⟩ = some (.complex .f64 q1 q2) := hcj
        clear hr2 hrr hc hq hiv
        have HC := hid fun n => (show (w.drewN n).cell? ⟨b, off + j, none⟩ = some (.complex .f64 q1 q2) from hcj)
        go_wp2
        go_region_held3 (fun w' => w'.cell? ⟨b, off + j, none⟩ = some (.complex .f64 q1 q2)) (first | exact hcj | exact HC.out _) (first | (go_at_call 76; (with_reducible refine (rMul_z _ _ _ _ _ _ rfl rfl _).mono ?_); rintro E5 w5 ⟨x5, y5, rfl, ⟨n5, rfl⟩, hv5, hx5, hy5⟩) | (go_at_call 60; (with_reducible refine (rAdd_z _ _ _ _ _ _ (by first | assumption | rfl) rfl _).mono ?_); rintro E7 w7 ⟨x7, y7, rfl, ⟨n7, rfl⟩, hv7, hx7, hy7⟩))
        rename_i hHeld
        clear hHeld
        go_wp2
        go_roundw
        case rel => exact ⟨j, _, x7, y7, rfl, rfl, by omega, rfl, hx7, hy7, by rw [hv7]; exact HR2.out, _, rfl⟩
        case measure => simp [intOf] <;> omega

/-- One slice in a new block. -/
theorem Ps_one {w : World} {v : Value} {p : List Z} (hs : Sl w v (p.map C)) (hn : p.length ≤ 140737488355328) : Ps (w.alloc (.cells #[v] 57)) (.slice (some ⟨w.heap.size, 0, none⟩) 1 1) [p] := by
  refine ⟨[v], rfl, ⟨_, 1, rfl, fun _ => ⟨_, 0, rfl, fun i x hx => ?_⟩, (fun h => by cases h), by simp⟩, fun k u q hu hq => ?_⟩
  · match i, hx with
    | 0, hx =>
      simp at hx
      subst hx
      rw [Nat.zero_add, World.cell?_alloc_new]
      rfl
  · match k, hu, hq with
    | 0, hu, hq =>
      simp at hu hq
      subst hu hq
      exact ⟨hs.below ((Below.refl _ w).alloc (Nat.le_refl _) _), hn⟩
/-- Behind what the reference refuses. -/
theorem may_one {w : World} {v : Value} {p : List Z} (hs : Sl w v (p.map C)) (hn : p.length ≤ 140737488355328) : Calls Tryd.prog 71 #[.slice (some ⟨w.heap.size, 0, none⟩) 1 1] (w.alloc (.cells #[v] 57)) (fun E w' => E = .returned (.int .i64 (refE p)) ∧ Below w.heap.size w w') := by
  refine (may_any [p] _ _ (Ps_one hs hn) (by simp)).mono ?_
  rintro E w' ⟨rfl, n, rfl⟩
  rw [mayE_one]
  exact ⟨rfl, below_drewN' ((Below.refl _ w).alloc (Nat.le_refl _) _) _⟩
def RetCEB (w : World) (z : CV) (n : Int) (e : Ending) (w' : World) : Prop := ∃ x y, e = .returned (.tuple #[.complex .f64 x y, .int .i64 n]) ∧ Below w.heap.size w w' ∧ cv x y = z ∧ IsW x ∧ IsW y

set_option maxRecDepth 100000 in
set_option maxHeartbeats 4000000 in
theorem rAt_any (p : List Z) (hw : wfP p) (c d : Nat) (v : Value) (w : World) (hs : Sl w v (p.map C)) (hn : p.length ≤ 140737488355328) : Calls Tryd.prog 28 #[v, .complex .f64 c d] w (RetCEB w (atG p (cv c d)) (atE p (cv c d))) := by
  have HR := hid (may_one hs hn)
  have HV := hid fun w' (hb : Below w.heap.size w w') => value_any p hw c d v w' (hs.below hb) hn
  obtain ⟨a, cap, rfl, -⟩ := hs.cz
  have HE : atE p (cv c d) = if refE p = 0 then (if cfin (cv c d) = true then (if cfin (horner p (cv c d)) = true then 0 else 6) else 5) else refE p := rfl
  have HG : atG p (cv c d) = if atE p (cv c d) = 0 then horner p (cv c d) else (val 0, val 0) := rfl
  generalize atG p (cv c d) = ag at *
  generalize atE p (cv c d) = ae at *
  by_cases h1 : refE p = 0
  · rw [if_pos h1] at HE
    rw [h1] at HR
    clear h1
    cases h2 : cfin (cv c d) with
    | false =>
      rw [h2, if_neg (by simp)] at HE
      subst HE
      rw [if_neg (by decide)] at HG
      subst HG
      have H2 := hid h2
      clear h2 hs
      go_enter Tryd.func28, Tryd.ntmps28
      go_wp2_with (first | (go_at_call 71; (with_reducible refine HR.out.mono ?_); rintro E8 w8 ⟨rfl, hb8⟩) | (go_at_call 62; (with_reducible refine (rFinite_any _ _ _).mono ?_); rintro E8 w9 ⟨rfl, n9, rfl⟩; rw [H2.out]))
      go_ret2
      exact ⟨0, 0, rfl, below_drewN' hb8 _, rfl, isW_0, isW_0⟩
    | true =>
      rw [h2, if_pos rfl] at HE
      have H2 := hid h2
      clear h2 hs
      generalize horner p (cv c d) = hr at *
      cases h3 : cfin hr with
      | false =>
        rw [h3, if_neg (by simp)] at HE
        subst HE
        rw [if_neg (by decide)] at HG
        subst HG
        have H3 := hid h3
        clear h3
        go_enter Tryd.func28, Tryd.ntmps28
        go_wp2_with (first | (go_at_call 71; (with_reducible refine HR.out.mono ?_); rintro E8 w8 ⟨rfl, hb8⟩) | (go_at_call 72; (with_reducible refine (HV.out _ (below_drewN' hb8 _)).mono ?_); rintro E5 w5 ⟨x5, y5, rfl, ⟨n5, rfl⟩, hv5, hx5, hy5⟩) | (go_at_call 62; first | ((with_reducible refine (rFinite_z _ _ _ hv5 _).mono ?_); rintro E9 w9 ⟨rfl, n9, rfl⟩; rw [H3.out]) | ((with_reducible refine (rFinite_any _ _ _).mono ?_); rintro E8 w9 ⟨rfl, n9, rfl⟩; rw [H2.out])))
        go_ret2
        exact ⟨0, 0, rfl, below_drewN' hb8 _, rfl, isW_0, isW_0⟩
      | true =>
        rw [h3, if_pos rfl] at HE
        subst HE
        rw [if_pos rfl] at HG
        subst HG
        have H3 := hid h3
        clear h3
        go_enter Tryd.func28, Tryd.ntmps28
        go_wp2_with (first | (go_at_call 71; (with_reducible refine HR.out.mono ?_); rintro E8 w8 ⟨rfl, hb8⟩) | (go_at_call 72; (with_reducible refine (HV.out _ (below_drewN' hb8 _)).mono ?_); rintro E5 w5 ⟨x5, y5, rfl, ⟨n5, rfl⟩, hv5, hx5, hy5⟩) | (go_at_call 62; first | ((with_reducible refine (rFinite_z _ _ _ hv5 _).mono ?_); rintro E9 w9 ⟨rfl, n9, rfl⟩; rw [H3.out]) | ((with_reducible refine (rFinite_any _ _ _).mono ?_); rintro E8 w9 ⟨rfl, n9, rfl⟩; rw [H2.out])))
        go_ret2
        exact ⟨x5, y5, rfl, below_drewN' hb8 _, hv5, hx5, hy5⟩
  · rw [if_neg h1] at HE
    rw [HE, if_neg h1] at HG
    subst HE HG
    have g1 : (refE p == 0) = false := by rw [beq_eq_false_iff_ne]; exact h1
    have g2 : (refE p = 0) = False := by simp [h1]
    clear hs h1
    generalize refE p = re at *
    go_enter Tryd.func28, Tryd.ntmps28
    go_wp2_with (first | (go_at_call 71; (with_reducible refine HR.out.mono ?_); rintro E8 w8 ⟨rfl, hb8⟩))
    go_ret2
    exact ⟨0, 0, rfl, hb8, rfl, isW_0, isW_0⟩
theorem rAt_c (p : List Z) (hw : wfP p) (c d : Nat) (z : CV) (hz : cv c d = z) (v : Value) (w : World) (hs : Sl w v (p.map C)) (hn : p.length ≤ 140737488355328) : Calls Tryd.prog 28 #[v, .complex .f64 c d] w (RetCEB w (atV (p.map zv) z) (atC (p.map zv) z)) := by
  have := rAt_any p hw c d v w hs hn
  rw [hz, atE_c, atG_c] at this
  exact this

theorem rtold_ok {p : List Z} {v : Value} {w : World} (hp : Sl w v (p.map C)) (hn : p.length ≤ 140737488355328) (h : pf p = true) : Calls Tryd.prog 75 #[v] w (fun E w' => E = .returned (.tuple #[v, .int .i64 0]) ∧ Dr w w') := by
  have := rtold_any p v w hp hn
  unfold RetRT at this
  rw [if_pos h, if_pos h] at this
  exact this
theorem rtold_bad {p : List Z} {v : Value} {w : World} (hp : Sl w v (p.map C)) (hn : p.length ≤ 140737488355328) (h : pf p = false) : Calls Tryd.prog 75 #[v] w (fun E w' => E = .returned (.tuple #[.slice none 0 0, .int .i64 6]) ∧ Dr w w') := by
  have := rtold_any p v w hp hn
  unfold RetRT at this
  rw [if_neg (by simp [h]), if_neg (by simp [h])] at this
  exact this
theorem rtol_cases (l : List Z) : (pf l = true ∧ tol (l.map zv) = (l.map zv, 0)) ∨ (pf l = false ∧ tol (l.map zv) = ([], 6)) := by
  unfold tol
  rw [all_pf]
  cases pf l
  · exact .inr ⟨rfl, if_neg (by simp)⟩
  · exact .inl ⟨rfl, if_pos rfl⟩

set_option maxRecDepth 100000 in
set_option maxHeartbeats 4000000 in
theorem rDerived_any (p : List Z) (vp : Value) (w : World) (hp : Sl w vp (p.map C)) (hn : p.length ≤ 140737488355328) : Calls Tryd.prog 34 #[vp] w (RetPoly w (derR p)) := by
  have HB := hid (may_one hp hn)
  obtain ⟨a, cap, rfl, hcp⟩ := hp.cz
  have HR0 : derR p = if refE p = 0 then tol (derV p) else ([], refE p) := rfl
  by_cases h0 : refE p = 0
  · rw [if_pos h0] at HR0
    have HR := hid HR0
    have hl : p.length ≤ 256 := by
      rcases refE_cases p with ⟨_, h4⟩ | ⟨h3, _⟩
      · rw [h0] at h4; cases h4
      · omega
    rw [h0] at HB
    clear HR0 h0 hp
    go_enter Tryd.func34, Tryd.ntmps34
    go_wp2_with (first | (go_at_call 71; (with_reducible refine HB.out.mono ?_); rintro E8 w8 ⟨rfl, hb8⟩))
    go_loopw [6, 5] (fun i out w' => DerLoop w (derA p) (p.length - 1) i out w') (fun i _ _ => p.length + 1 - (intOf i).toNat)
    case atStart => exact ⟨0, rfl, 0, [], rfl, by omega, rfl, rfl, fun k z hz => by simp at hz, World.ownsRow_nil _ _ _ _, hb8⟩
    case round =>
      clear hb8
      obtain ⟨k0, rfl, k, l, hkk, hk, hlk, hlm, hlw, hown, hb⟩ := hrel
      obtain rfl : k0 = k := by injection hkk with _ h; omega
      clear hkk
      have hz := hb.size
      by_cases hkn : k0 < p.length - 1
      · have HNX := hid fun (x y : Nat) v wr => PolLoop.next (w := w) (wr := wr) (v := v) (x := x) (y := y) hkn hlk hlm hlw
        rw [hlk] at hown
        obtain ⟨⟨p1, p2⟩, hp1⟩ : ∃ z, p[k0 + 1]? = some z := ⟨p[k0 + 1]'(by omega), List.getElem?_eq_getElem (by omega)⟩
        obtain ⟨b2, off2, rfl, cp⟩ := hcp (k0 + 1) _ hp1
        have cp' := (hb.cell (p := ⟨b2, off2 + (k0 + 1), none⟩) (World.block_lt_of_cell? _ _ cp)).trans cp
        have HF := hid (show derA p k0 = cscale (val (ofInt ((k0 : Int) + 1))) (cv p1 p2) by unfold derA pz; rw [zv_at hp1])
        have g1 : (k0 : Int) + 1 < (p.length : Int) := by omega
        clear hcp hp1 cp
        go_wp2_with (first | (go_at_call 78; (with_reducible refine (rScale_any _ _ _ _).mono ?_); rintro E7 w7 ⟨x7, y7, rfl, ⟨n7, rfl⟩, hv7, hx7, hy7⟩; replace hown := owns_drewN hown n7; replace hb := below_drewN' hb n7) | (at_builtin; refine wpList_app1 rfl _ _ 57 rfl w.heap.size 33 _ 16 Tryd.underlying57 info_c rfl _ k0 _ (.complex .f64 _ _) rfl rfl rfl (by exact hown) (by first | omega | (simp; omega)) (by first | omega | (simp; omega)) (by first | omega | (simp; omega)) ?_; intro v' w' h1 h2 h3))
        go_roundw
        case rel => exact ⟨k0 + 1, rfl, HNX.out x7 y7 _ _ hx7 hy7 (by rw [HF.out]; exact hv7) h1 (hb.trans h2)⟩
        case measure => simp [intOf] <;> omega
      · obtain rfl : k0 = p.length - 1 := by omega
        have HR2 : derR p = tol (l.map zv) := by rw [hlm]; exact HR.out
        have hl256 : l.length ≤ 256 := by omega
        have hsl := Sl.of_owns hown
        have g1 : ¬ (((p.length - 1 : Nat) : Int) + 1 < (p.length : Int)) := by omega
        clear hcp
        rcases rtol_cases l with ⟨h5, ht⟩ | ⟨h5, ht⟩
        · have HT := hid (rtold_ok hsl (by omega) h5)
          rw [ht] at HR2
          have HR3 := hid HR2
          clear HR2 ht h5
          go_wp2_with (go_at_call 75; (with_reducible refine HT.out.mono ?_); rintro E8 w8 ⟨rfl, n9, rfl⟩)
          go_ret2
          exact RetPoly.ok rfl (owns_drewN hown _) hlw (below_drewN' hb _) HR3.out
        · have HT := hid (rtold_bad hsl (by omega) h5)
          rw [ht] at HR2
          have HR3 := hid HR2
          clear HR2 ht h5
          go_wp2_with (go_at_call 75; (with_reducible refine HT.out.mono ?_); rintro E8 w8 ⟨rfl, n9, rfl⟩)
          go_ret2
          exact RetPoly.none rfl (below_drewN' hb _) HR3.out
  · rw [if_neg h0] at HR0
    have HR := hid HR0
    have g1 : (refE p == 0) = false := by rw [beq_eq_false_iff_ne]; exact h0
    have g2 : (refE p = 0) = False := by simp [h0]
    clear HR0 hcp hp h0
    generalize refE p = be at *
    go_enter Tryd.func34, Tryd.ntmps34
    go_wp2_with (first | (go_at_call 71; (with_reducible refine HB.out.mono ?_); rintro E8 w8 ⟨rfl, hb8⟩))
    go_ret2
    exact RetPoly.none rfl hb8 HR.out
end Go.Proofs.YtjpimgdmlieinaaDoor
