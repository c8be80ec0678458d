/- Newton's steps to a zero. Conditions: words have 64 bits. -/
import Derived.Test.YtjpimgdmlieinaaDoorPol4
namespace Go.Proofs.YtjpimgdmlieinaaDoor
open Go.RowKit

abbrev Z0 : CV := (val 0, val 0)
def horC (vs : List CV) (z : CV) : Nat → CV → CV
  | 0, x => x
  | k + 1, x => horC vs z k (cadd (cmul x z) (vs.getD k Z0))
def hornC (vs : List CV) (z : CV) : CV := if vs.length = 0 then Z0 else horC vs z (vs.length - 1) (vs.getD (vs.length - 1) Z0)
def refC (vs : List CV) : Int := if 256 < vs.length then 3 else if vs.all cfin = true then 0 else 5
def atC (vs : List CV) (z : CV) : Int := if refC vs = 0 then (if cfin z = true then (if cfin (hornC vs z) = true then 0 else 6) else 5) else refC vs
def atV (vs : List CV) (z : CV) : CV := if atC vs z = 0 then hornC vs z else Z0
theorem getD_zv (p : List Z) (k : Nat) : zv (p.getD k (0, 0)) = (p.map zv).getD k Z0 := by
  rw [List.getD_eq_getElem?_getD, List.getD_eq_getElem?_getD, List.getElem?_map]
  cases p[k]? <;> rfl
theorem horN_c (p : List Z) (z : CV) : ∀ (k : Nat) (x : CV), horN p z k x = horC (p.map zv) z k x := by
  intro k
  induction k with
  | zero => intro x; rfl
  | succ k ih => intro x; rw [horN, horC, ih, getD_zv]
theorem horner_c (p : List Z) (z : CV) : horner p z = hornC (p.map zv) z := by
  unfold horner hornC
  rw [List.length_map, horN_c, getD_zv]
theorem refE_c (p : List Z) : refE p = refC (p.map zv) := by
  unfold refE refC
  rw [List.length_map, all_pf]
theorem atE_c (p : List Z) (z : CV) : atE p z = atC (p.map zv) z := by
  unfold atE atC
  rw [refE_c, horner_c]
theorem atG_c (p : List Z) (z : CV) : atG p z = atV (p.map zv) z := by
  unfold atG atV
  rw [atE_c, horner_c]
theorem At_c (p : List Z) (hw : wfP p) (c d : Nat) (z : CV) (hz : cv c d = z) (v : Value) (w : World) (hs : Sl w v (p.map C)) (hn : p.length ≤ 140737488355328) : Calls Tryd.prog 27 #[v, .complex .f64 c d] w (RetCE w (atV (p.map zv) z) (atC (p.map zv) z)) := by
  have := At_any p hw c d v w hs hn
  rw [hz, atE_c, atG_c] at this
  exact this

/-- Does a step come nearer? -/
def nwOk (vs ds : List CV) (z : CV) : Bool := decide (atC vs z = 0) && decide (atC ds z = 0) && !czero (atV ds z) && decide (atC vs (csub z (cdiv (atV vs z) (atV ds z))) = 0) && flt (size1 (atV vs (csub z (cdiv (atV vs z) (atV ds z))))) (size1 (atV vs z))
def nwt (vs ds : List CV) : Nat → CV → Nat → CV × Nat
  | 0, z, n => (z, n)
  | k + 1, z, n => if nwOk vs ds z = true then nwt vs ds k (csub z (cdiv (atV vs z) (atV ds z))) (n + 1) else (z, n)
def newC (vs : List CV) (z : CV) (m : Int) (d : List CV × Int) : CV × Nat := if d.2 = 0 then nwt vs d.1 m.toNat z 0 else (z, 0)
/-- The number, how many steps, the error. -/
def newR (p : List Z) (z : CV) (m : Int) : CV × Nat × Int :=
  if refE p = 0 then (if cfin z = true then (if m < 0 ∨ 4096 < m then (Z0, 0, 2) else ((newC (p.map zv) z m (derR p)).1, (newC (p.map zv) z m (derR p)).2, 0)) else (Z0, 0, 5)) else (Z0, 0, refE p)
def RetNw (w : World) (r : CV × Nat × Int) (E : Ending) (w' : World) : Prop := ∃ x y, E = .returned (.tuple #[.complex .f64 x y, .int .i64 r.2.1, .int .i64 r.2.2]) ∧ Below w.heap.size w w' ∧ cv x y = r.1 ∧ IsW x ∧ IsW y
theorem RetNw.mk {w : World} {r : CV × Nat × Int} {x y n : Nat} {e : Int} {E : Ending} {w' : World} (h : E = .returned (.tuple #[.complex .f64 x y, .int .i64 n, .int .i64 e])) (hb : Below w.heap.size w w') (h1 : IsW x) (h2 : IsW y) (hr : r = (cv x y, n, e)) : RetNw w r E w' := by
  subst hr
  exact ⟨x, y, h, hb, rfl, h1, h2⟩
def NwLoop (W : World) (vs ds : List CV) (m : Nat) (r : CV × Nat) (dv : Value) (dl : List Z) (n z : Value) (w : World) : Prop := ∃ (k s x y : Nat), n = .int .i64 s ∧ s + k = m ∧ z = .complex .f64 x y ∧ IsW x ∧ IsW y ∧ nwt vs ds k (cv x y) s = r ∧ Sl w dv (dl.map C) ∧ Below W.heap.size W w

theorem tol_len (vs : List CV) : (tol vs).1.length ≤ vs.length := by
  unfold tol
  split <;> simp
theorem derR_len (p : List Z) : (derR p).1.length ≤ p.length := by
  unfold derR
  split
  · have := tol_len (derV p)
    have h : (derV p).length = p.length - 1 := by unfold derV; simp
    omega
  · simp
theorem Zero_z (a b : Nat) (z : CV) (h : cv a b = z) (w : World) : Calls Tryd.prog 79 #[.complex .f64 a b] w (fun e w' => e = .returned (.bool (czero z)) ∧ w = w') := h ▸ Zero_any a b w
theorem Div_z (a b c d : Nat) (p q : CV) (h : cv a b = p) (h' : cv c d = q) (w : World) : Calls Tryd.prog 81 #[.complex .f64 a b, .complex .f64 c d] w (RetC w (cdiv p q)) := h ▸ h' ▸ Div_any a b c d w
theorem Sub_z (a b c d : Nat) (p q : CV) (h : cv a b = p) (h' : cv c d = q) (w : World) : Calls Tryd.prog 80 #[.complex .f64 a b, .complex .f64 c d] w (RetC w (csub p q)) := h ▸ h' ▸ Sub_any a b c d w
theorem Size1_z (a b : Nat) (z : CV) (h : cv a b = z) (w : World) : Calls Tryd.prog 45 #[.complex .f64 a b] w (RetF w (size1 z)) := h ▸ Size1_any a b w
theorem nw_cases (vs ds : List CV) (z : CV) :
    (nwOk vs ds z = false ∧ (atC vs z == 0) = false ∧ (atC vs z = 0) = False) ∨ ((atC vs z = 0) ∧
    ((nwOk vs ds z = false ∧ (atC ds z == 0) = false ∧ (atC ds z = 0) = False) ∨ (atC ds z = 0 ∧
    ((nwOk vs ds z = false ∧ czero (atV ds z) = true) ∨ (czero (atV ds z) = false ∧
    ((nwOk vs ds z = false ∧ (atC vs (csub z (cdiv (atV vs z) (atV ds z))) == 0) = false ∧ (atC vs (csub z (cdiv (atV vs z) (atV ds z))) = 0) = False) ∨ (atC vs (csub z (cdiv (atV vs z) (atV ds z))) = 0 ∧
    ((nwOk vs ds z = false ∧ flt (size1 (atV vs (csub z (cdiv (atV vs z) (atV ds z))))) (size1 (atV vs z)) = false) ∨ (nwOk vs ds z = true ∧ flt (size1 (atV vs (csub z (cdiv (atV vs z) (atV ds z))))) (size1 (atV vs z)) = true))))))))) := by
  unfold nwOk
  generalize csub z (cdiv (atV vs z) (atV ds z)) = y
  generalize flt (size1 (atV vs y)) (size1 (atV vs z)) = b5
  generalize czero (atV ds z) = b3
  generalize atC vs z = e1
  generalize atC ds z = e2
  generalize atC vs y = e3
  by_cases h1 : e1 = 0
  · by_cases h2 : e2 = 0
    · by_cases h3 : e3 = 0
      · cases b3 <;> cases b5 <;> simp [h1, h2, h3]
      · cases b3 <;> simp [h1, h2, h3]
    · simp [h1, h2]
  · simp [h1]

set_option maxRecDepth 100000 in
set_option maxHeartbeats 8000000 in
theorem Newton_any (p : List Z) (hwp : wfP p) (c d : Nat) (hc : IsW c) (hd : IsW d) (m : Int) (vp : Value) (w : World) (hp : Sl w vp (p.map C)) (hn : p.length ≤ 140737488355328) : Calls Tryd.prog 43 #[vp, .complex .f64 c d, .int .i64 m] w (RetNw w (newR p (cv c d) m)) := by
  have HB := hid (refused_any p vp w hp hn)
  have HD := hid fun n => Derived_any p vp (w.drewN n) (hp.drewN n) hn
  have HP := hid hp
  obtain ⟨a, cap, rfl, -⟩ := hp.cz
  clear hp
  have HR0 : newR p (cv c d) m = if refE p = 0 then (if cfin (cv c d) = true then (if m < 0 ∨ 4096 < m then (Z0, 0, 2) else ((newC (p.map zv) (cv c d) m (derR p)).1, (newC (p.map zv) (cv c d) m (derR p)).2, 0)) else (Z0, 0, 5)) else (Z0, 0, refE p) := rfl
  generalize newR p (cv c d) m = nr at *
  by_cases h0 : refE p = 0
  · rw [if_pos h0] at HR0
    rw [h0] at HB
    cases h1 : cfin (cv c d) with
    | false =>
      rw [h1, if_neg (by simp)] at HR0
      have HR := hid HR0
      clear HR0 h0
      go_enter Tryd.func43, Tryd.ntmps43
      go_wp2_with (first | (go_at_call 70; (with_reducible refine HB.out.mono ?_); rintro E8 w8 ⟨rfl, n8, rfl⟩) | (go_at_call 50; (with_reducible refine (Finite_any _ _ _).mono ?_); rintro E8 w8 ⟨rfl, n9, rfl⟩))
      go_ret3
      exact RetNw.mk (x := 0) (y := 0) (n := 0) rfl (below_drewN' (Below.refl _ w) _) isW_0 isW_0 HR.out
    | true =>
      rw [h1, if_pos rfl] at HR0
      have H1 := hid h1
      clear h1
      by_cases h2 : m < 0 ∨ 4096 < m
      · rw [if_pos h2] at HR0
        have HR := hid HR0
        clear HR0 h0
        rcases (by omega : m < 0 ∨ (¬ m < 0 ∧ 4096 < m)) with g1 | ⟨g1, g2⟩
        all_goals
          clear h2
          go_enter Tryd.func43, Tryd.ntmps43
          go_wp2_with (first | (go_at_call 70; (with_reducible refine HB.out.mono ?_); rintro E8 w8 ⟨rfl, n8, rfl⟩) | (go_at_call 50; (with_reducible refine (Finite_any _ _ _).mono ?_); rintro E8 w8 ⟨rfl, n9, rfl⟩; rw [H1.out]))
          go_ret3
          exact RetNw.mk (x := 0) (y := 0) (n := 0) rfl (below_drewN' (Below.refl _ w) _) isW_0 isW_0 HR.out
      · rw [if_neg h2] at HR0
        have g1 : ¬ m < 0 := by omega
        have g2 : ¬ 4096 < m := by omega
        clear h2 h0
        obtain ⟨dr, hdr⟩ : ∃ dr, dr = derR p := ⟨_, rfl⟩
        have HDL0 := derR_len p
        rw [← hdr] at HR0 HD HDL0
        clear hdr
        obtain ⟨ds, de⟩ := dr
        by_cases h3 : de = 0
        · subst h3
          have HR := hid (show nr = ((nwt (p.map zv) ds m.toNat (cv c d) 0).1, (nwt (p.map zv) ds m.toNat (cv c d) 0).2, 0) from HR0)
          clear HR0
          have HDL := hid HDL0
          obtain ⟨M, rfl⟩ : ∃ M : Nat, m = (M : Int) := ⟨m.toNat, by omega⟩
          rw [Int.toNat_natCast] at HR
          have gA : (((M : Int)) < 0) = False := by simp
          have gB : ((4096 : Int) < (M : Int)) = False := by simp; omega
          have hM4 : M ≤ 4096 := by omega
          clear g1 g2 HDL0
          obtain ⟨rr, hrr⟩ : ∃ rr, rr = nwt (p.map zv) ds M (cv c d) 0 := ⟨_, rfl⟩
          rw [← hrr] at HR
          have HRR := hid hrr
          clear hrr
          go_enter Tryd.func43, Tryd.ntmps43
          go_wp2_with (first | (go_at_call 70; (with_reducible refine HB.out.mono ?_); rintro E8 w8 ⟨rfl, n8, rfl⟩) | (go_at_call 50; (with_reducible refine (Finite_any _ _ _).mono ?_); rintro E8 w8 ⟨rfl, n9, rfl⟩; rw [H1.out]) | (go_at_call 33; (with_reducible refine (HD.out _).mono ?_); rintro E8 w1 ⟨dv, dl, rfl, down, dlv, dwf, db⟩; subst dlv; have hb0 : Below w.heap.size w w1 := (below_drewN' (Below.refl _ w) _).trans db; have hds := Sl.of_owns down; clear down db))
          have hdl : dl.length ≤ 140737488355328 := by have := HDL.out; rw [List.length_map] at this; omega
          go_loopw [13, 1] (fun n z w' => NwLoop w (p.map zv) (dl.map zv) M rr dv dl n z w') (fun n _ _ => M + 1 - (intOf n).toNat)
          case atStart => exact ⟨M, 0, c, d, rfl, by omega, rfl, hc, hd, HRR.out.symm, hds, hb0⟩
          case round =>
            obtain ⟨k, s, x, y, rfl, hsk, rfl, hx, hy, hnw, hsd, hbl⟩ := hrel
            clear hds hb0
            have hpw := HP.out.below hbl
            cases k with
            | zero =>
              have HNW := hid (show (cv x y, s) = rr from hnw)
              have g3 : ((s : Int) < (M : Int)) = False := by simp; omega
              clear hnw hpw
              go_wp2
              go_ret3
              exact RetNw.mk (n := s) rfl hbl hx hy (by rw [HR.out, ← HNW.out])
            | succ k =>
              have g3 : ((s : Int) < (M : Int)) = True := by simp; omega
              have HNW0 : (if nwOk (p.map zv) (dl.map zv) (cv x y) = true then nwt (p.map zv) (dl.map zv) k (csub (cv x y) (cdiv (atV (p.map zv) (cv x y)) (atV (dl.map zv) (cv x y)))) (s + 1) else (cv x y, s)) = rr := hnw
              have HA1 := hid (At_c p hwp x y _ rfl _ _ hpw hn)
              have HA2 := hid fun n => At_c dl dwf x y _ rfl _ _ (hsd.drewN n) hdl
              have HA3 := hid fun n a b z (h : cv a b = z) => At_c p hwp a b z h _ _ (hpw.drewN n) hn
              have HSD := hid hsd
              clear hnw hpw hsd HB HD
              have hcs := nw_cases (p.map zv) (dl.map zv) (cv x y)
              generalize p.map zv = vs at *
              generalize dl.map zv = ds at *
              generalize nwOk vs ds (cv x y) = ok at *
              rcases hcs with ⟨rfl, q1, q1'⟩ | ⟨q1, ⟨rfl, q2, q2'⟩ | ⟨q2, ⟨rfl, q3⟩ | ⟨q3, ⟨rfl, q4, q4'⟩ | ⟨q4, ⟨rfl, q5⟩ | ⟨rfl, q5⟩⟩⟩⟩⟩
              · rw [if_neg (by simp)] at HNW0
                have HNW := hid HNW0
                clear HNW0
                go_wp2_with (first | (go_at_call 27; (first | (with_reducible refine HA1.out.mono ?_); (rintro E1 v1 ⟨a1, b1, rfl, ⟨m1, rfl⟩, hv1, ia1, ib1⟩) | (with_reducible refine (HA2.out _).mono ?_); (rintro E2 v2 ⟨a2, b2, rfl, ⟨m2, rfl⟩, hv2, ia2, ib2⟩) | (with_reducible refine (HA3.out _ _ _ _ (by first | assumption | rfl)).mono ?_); (rintro E3 v3 ⟨a3, b3, rfl, ⟨m3, rfl⟩, hv3, ia3, ib3⟩))) | (go_at_call 79; (with_reducible refine (Zero_z _ _ _ (by first | assumption | rfl) _).mono ?_); rintro E4 v4 ⟨rfl, rfl⟩) | (go_at_call 81; (with_reducible refine (Div_z _ _ _ _ _ _ (by first | assumption | rfl) (by first | assumption | rfl) _).mono ?_); rintro E5 v5 ⟨a5, b5, rfl, ⟨m5, rfl⟩, hv5, ia5, ib5⟩) | (go_at_call 80; (with_reducible refine (Sub_z _ _ _ _ _ _ rfl (by first | assumption | rfl) _).mono ?_); rintro E6 v6 ⟨a6, b6, rfl, ⟨m6, rfl⟩, hv6, ia6, ib6⟩) | (go_at_call 45; (with_reducible refine (Size1_z _ _ _ (by first | assumption | rfl) _).mono ?_); rintro E7 v7 ⟨a7, rfl, ⟨m7, rfl⟩, hv7, ia7⟩))
                go_ret3
                exact RetNw.mk (n := s) rfl (below_drewN' hbl _) hx hy (by rw [HR.out, ← HNW.out])
              · rw [if_neg (by simp)] at HNW0
                have HNW := hid HNW0
                clear HNW0
                go_wp2_with (first | (go_at_call 27; (first | (with_reducible refine HA1.out.mono ?_); (rintro E1 v1 ⟨a1, b1, rfl, ⟨m1, rfl⟩, hv1, ia1, ib1⟩) | (with_reducible refine (HA2.out _).mono ?_); (rintro E2 v2 ⟨a2, b2, rfl, ⟨m2, rfl⟩, hv2, ia2, ib2⟩) | (with_reducible refine (HA3.out _ _ _ _ (by first | assumption | rfl)).mono ?_); (rintro E3 v3 ⟨a3, b3, rfl, ⟨m3, rfl⟩, hv3, ia3, ib3⟩))) | (go_at_call 79; (with_reducible refine (Zero_z _ _ _ (by first | assumption | rfl) _).mono ?_); rintro E4 v4 ⟨rfl, rfl⟩) | (go_at_call 81; (with_reducible refine (Div_z _ _ _ _ _ _ (by first | assumption | rfl) (by first | assumption | rfl) _).mono ?_); rintro E5 v5 ⟨a5, b5, rfl, ⟨m5, rfl⟩, hv5, ia5, ib5⟩) | (go_at_call 80; (with_reducible refine (Sub_z _ _ _ _ _ _ rfl (by first | assumption | rfl) _).mono ?_); rintro E6 v6 ⟨a6, b6, rfl, ⟨m6, rfl⟩, hv6, ia6, ib6⟩) | (go_at_call 45; (with_reducible refine (Size1_z _ _ _ (by first | assumption | rfl) _).mono ?_); rintro E7 v7 ⟨a7, rfl, ⟨m7, rfl⟩, hv7, ia7⟩))
                go_ret3
                exact RetNw.mk (n := s) rfl (below_drewN' hbl _) hx hy (by rw [HR.out, ← HNW.out])
              · rw [if_neg (by simp)] at HNW0
                have HNW := hid HNW0
                clear HNW0
                go_wp2_with (first | (go_at_call 27; (first | (with_reducible refine HA1.out.mono ?_); (rintro E1 v1 ⟨a1, b1, rfl, ⟨m1, rfl⟩, hv1, ia1, ib1⟩) | (with_reducible refine (HA2.out _).mono ?_); (rintro E2 v2 ⟨a2, b2, rfl, ⟨m2, rfl⟩, hv2, ia2, ib2⟩) | (with_reducible refine (HA3.out _ _ _ _ (by first | assumption | rfl)).mono ?_); (rintro E3 v3 ⟨a3, b3, rfl, ⟨m3, rfl⟩, hv3, ia3, ib3⟩))) | (go_at_call 79; (with_reducible refine (Zero_z _ _ _ (by first | assumption | rfl) _).mono ?_); rintro E4 v4 ⟨rfl, rfl⟩) | (go_at_call 81; (with_reducible refine (Div_z _ _ _ _ _ _ (by first | assumption | rfl) (by first | assumption | rfl) _).mono ?_); rintro E5 v5 ⟨a5, b5, rfl, ⟨m5, rfl⟩, hv5, ia5, ib5⟩) | (go_at_call 80; (with_reducible refine (Sub_z _ _ _ _ _ _ rfl (by first | assumption | rfl) _).mono ?_); rintro E6 v6 ⟨a6, b6, rfl, ⟨m6, rfl⟩, hv6, ia6, ib6⟩) | (go_at_call 45; (with_reducible refine (Size1_z _ _ _ (by first | assumption | rfl) _).mono ?_); rintro E7 v7 ⟨a7, rfl, ⟨m7, rfl⟩, hv7, ia7⟩))
                go_ret3
                exact RetNw.mk (n := s) rfl (below_drewN' hbl _) hx hy (by rw [HR.out, ← HNW.out])
              · rw [if_neg (by simp)] at HNW0
                have HNW := hid HNW0
                clear HNW0
                go_wp2_with (first | (go_at_call 27; (first | (with_reducible refine HA1.out.mono ?_); (rintro E1 v1 ⟨a1, b1, rfl, ⟨m1, rfl⟩, hv1, ia1, ib1⟩) | (with_reducible refine (HA2.out _).mono ?_); (rintro E2 v2 ⟨a2, b2, rfl, ⟨m2, rfl⟩, hv2, ia2, ib2⟩) | (with_reducible refine (HA3.out _ _ _ _ (by first | assumption | rfl)).mono ?_); (rintro E3 v3 ⟨a3, b3, rfl, ⟨m3, rfl⟩, hv3, ia3, ib3⟩))) | (go_at_call 79; (with_reducible refine (Zero_z _ _ _ (by first | assumption | rfl) _).mono ?_); rintro E4 v4 ⟨rfl, rfl⟩) | (go_at_call 81; (with_reducible refine (Div_z _ _ _ _ _ _ (by first | assumption | rfl) (by first | assumption | rfl) _).mono ?_); rintro E5 v5 ⟨a5, b5, rfl, ⟨m5, rfl⟩, hv5, ia5, ib5⟩) | (go_at_call 80; (with_reducible refine (Sub_z _ _ _ _ _ _ rfl (by first | assumption | rfl) _).mono ?_); rintro E6 v6 ⟨a6, b6, rfl, ⟨m6, rfl⟩, hv6, ia6, ib6⟩) | (go_at_call 45; (with_reducible refine (Size1_z _ _ _ (by first | assumption | rfl) _).mono ?_); rintro E7 v7 ⟨a7, rfl, ⟨m7, rfl⟩, hv7, ia7⟩))
                go_ret3
                exact RetNw.mk (n := s) rfl (below_drewN' hbl _) hx hy (by rw [HR.out, ← HNW.out])
              · rw [if_neg (by simp)] at HNW0
                have HNW := hid HNW0
                clear HNW0
                go_wp2_with (first | (go_at_call 27; (first | (with_reducible refine HA1.out.mono ?_); (rintro E1 v1 ⟨a1, b1, rfl, ⟨m1, rfl⟩, hv1, ia1, ib1⟩) | (with_reducible refine (HA2.out _).mono ?_); (rintro E2 v2 ⟨a2, b2, rfl, ⟨m2, rfl⟩, hv2, ia2, ib2⟩) | (with_reducible refine (HA3.out _ _ _ _ (by first | assumption | rfl)).mono ?_); (rintro E3 v3 ⟨a3, b3, rfl, ⟨m3, rfl⟩, hv3, ia3, ib3⟩))) | (go_at_call 79; (with_reducible refine (Zero_z _ _ _ (by first | assumption | rfl) _).mono ?_); rintro E4 v4 ⟨rfl, rfl⟩) | (go_at_call 81; (with_reducible refine (Div_z _ _ _ _ _ _ (by first | assumption | rfl) (by first | assumption | rfl) _).mono ?_); rintro E5 v5 ⟨a5, b5, rfl, ⟨m5, rfl⟩, hv5, ia5, ib5⟩) | (go_at_call 80; (with_reducible refine (Sub_z _ _ _ _ _ _ rfl (by first | assumption | rfl) _).mono ?_); rintro E6 v6 ⟨a6, b6, rfl, ⟨m6, rfl⟩, hv6, ia6, ib6⟩) | (go_at_call 45; (with_reducible refine (Size1_z _ _ _ (by first | assumption | rfl) _).mono ?_); rintro E7 v7 ⟨a7, rfl, ⟨m7, rfl⟩, hv7, ia7⟩))
                go_ret3
                exact RetNw.mk (n := s) rfl (below_drewN' hbl _) hx hy (by rw [HR.out, ← HNW.out])
              · rw [if_pos rfl] at HNW0
                have HNW := hid HNW0
                clear HNW0
                go_wp2_with (first | (go_at_call 27; (first | (with_reducible refine HA1.out.mono ?_); (rintro E1 v1 ⟨a1, b1, rfl, ⟨m1, rfl⟩, hv1, ia1, ib1⟩) | (with_reducible refine (HA2.out _).mono ?_); (rintro E2 v2 ⟨a2, b2, rfl, ⟨m2, rfl⟩, hv2, ia2, ib2⟩) | (with_reducible refine (HA3.out _ _ _ _ (by first | assumption | rfl)).mono ?_); (rintro E3 v3 ⟨a3, b3, rfl, ⟨m3, rfl⟩, hv3, ia3, ib3⟩))) | (go_at_call 79; (with_reducible refine (Zero_z _ _ _ (by first | assumption | rfl) _).mono ?_); rintro E4 v4 ⟨rfl, rfl⟩) | (go_at_call 81; (with_reducible refine (Div_z _ _ _ _ _ _ (by first | assumption | rfl) (by first | assumption | rfl) _).mono ?_); rintro E5 v5 ⟨a5, b5, rfl, ⟨m5, rfl⟩, hv5, ia5, ib5⟩) | (go_at_call 80; (with_reducible refine (Sub_z _ _ _ _ _ _ rfl (by first | assumption | rfl) _).mono ?_); rintro E6 v6 ⟨a6, b6, rfl, ⟨m6, rfl⟩, hv6, ia6, ib6⟩) | (go_at_call 45; (with_reducible refine (Size1_z _ _ _ (by first | assumption | rfl) _).mono ?_); rintro E7 v7 ⟨a7, rfl, ⟨m7, rfl⟩, hv7, ia7⟩))
                go_roundw
                case rel => exact ⟨k, s + 1, a6, b6, by go_num, by omega, rfl, ia6, ib6, by rw [hv6]; exact HNW.out, HSD.out.drewN _, below_drewN' hbl _⟩
                case measure => simp [intOf] <;> omega
        · have HR := hid (show nr = (cv c d, 0, 0) by rw [HR0]; unfold newC; rw [if_neg h3])
          clear HR0
          go_enter Tryd.func43, Tryd.ntmps43
          go_wp2_with (first | (go_at_call 70; (with_reducible refine HB.out.mono ?_); rintro E8 w8 ⟨rfl, n8, rfl⟩) | (go_at_call 50; (with_reducible refine (Finite_any _ _ _).mono ?_); rintro E8 w8 ⟨rfl, n9, rfl⟩; rw [H1.out]) | (go_at_call 33; (with_reducible refine (HD.out _).mono ?_); rintro E8 w1 ⟨dv, dl, rfl, down, dlv, dwf, db⟩; have hb0 : Below w.heap.size w w1 := (below_drewN' (Below.refl _ w) _).trans db; clear down db))
          have g3 : (de == 0) = false := by rw [beq_eq_false_iff_ne]; exact h3
          have g4 : (de = 0) = False := by simp [h3]
          clear h3
          go_loopw [13, 1] (fun n z w' => n = .int .i64 0 ∧ z = .complex .f64 c d ∧ w' = w1) (fun _ _ _ => 0)
          case atStart => exact ⟨rfl, rfl, rfl⟩
          case round =>
            obtain ⟨rfl, rfl, rfl⟩ := hrel
            go_wp2
            go_ret3
            exact RetNw.mk (n := 0) rfl hb0 hc hd HR.out
  · rw [if_neg h0] at HR0
    have HR := hid HR0
    clear HR0
    generalize refE p = be at *
    go_enter Tryd.func43, Tryd.ntmps43
    go_wp2_with (first | (go_at_call 70; (with_reducible refine HB.out.mono ?_); rintro E8 w8 ⟨rfl, n8, rfl⟩))
    go_ret3
    exact RetNw.mk (x := 0) (y := 0) (n := 0) rfl (below_drewN' (Below.refl _ w) _) isW_0 isW_0 HR.out
end Go.Proofs.YtjpimgdmlieinaaDoor
