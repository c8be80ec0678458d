/- gridworkref17: told, both, Of, Impedance: as admit's. Conditions: kinds are bytes, Values have 64 bits. -/
import Derived.Test.YtjpimgdmlieinaaDoorR17
import Derived.Test.YtjpimgdmlieinaaDoorPol1
namespace Go.Proofs.YtjpimgdmlieinaaDoor
open Go.RowKit

def tldE (ys : List Nat) (x : Nat) : Int := if ((ys.all fun y => fin (val y)) && fin (val x)) = true then 0 else 6
def tldZ (re : Bool) (ys : List Nat) (x : Nat) : CV := if ((ys.all fun y => fin (val y)) && fin (val x)) = true then (if re = true then (val 0, val x) else (val x, val 0)) else (val 0, val 0)
theorem Sl.cf {w : World} {v : Value} {p : List Nat} (h : Sl w v (p.map F)) : ∃ a cap, v = .slice a p.length cap ∧ (∀ (k : Nat) (z : Nat), p[k]? = some z → ∃ b off, a = some ⟨b, off, none⟩ ∧ w.cell? ⟨b, off + k, none⟩ = some (.float .f64 z)) := by
  obtain ⟨a, cap, rfl, hr, hc, hl⟩ := h
  refine ⟨a, cap, by rw [List.length_map], fun k z hz => ?_⟩
  have hx : (p.map F)[k]? = some (F z) := by rw [List.getElem?_map, hz]; rfl
  obtain ⟨b, off, e, hcell⟩ := hr.at hx
  exact ⟨b, off, e, hcell k _ hx⟩
def TlL (w : World) (ys : List Nat) (i : Value) (w' : World) : Prop := ∃ k : Nat, i = .int .i64 k ∧ k ≤ ys.length ∧ ((ys.take k).all fun y => fin (val y)) = true ∧ Dr w w'
set_option maxRecDepth 100000 in
set_option maxHeartbeats 1000000 in
theorem rtold17_any (re : Bool) (x : Nat) (hx : IsW x) (ys : List Nat) (v : Value) (w : World) (hs : Sl w v (ys.map F)) (hn : ys.length ≤ 4) : Calls Tryd.prog 119 #[.bool re, .float .f64 x, v] w (RetCE w (tldZ re ys x) (tldE ys x)) := by
  obtain ⟨a, cap, rfl, hc⟩ := hs.cf
  have HX := hid fun w => FiniteReal_any x w
  go_enter Tryd.func119, Tryd.ntmps119
  go_wp2
  go_loopw [8] (fun i w' => TlL w ys i w') (fun i _ => ys.length + 1 - (intOf i).toNat)
  case atStart => exact ⟨0, rfl, by omega, rfl, Dr.refl _⟩
  case round =>
    obtain ⟨k, rfl, hk, hall, nd, rfl⟩ := hrel
    by_cases hkn : k < ys.length
    · obtain ⟨y, hy⟩ : ∃ y, ys[k]? = some y := ⟨ys[k]'hkn, List.getElem?_eq_getElem hkn⟩
      obtain ⟨b, off, rfl, cy⟩ := hc k _ hy
      have g1 : (k : Int) < (ys.length : Int) := by omega
      have HY := hid fun w => FiniteReal_any y w
      have HA := hid hall
      have HYM := hid hy
      clear hall hc hy
      cases hf : fin (val y)
      · have H := hid (show ((ys.all fun y => fin (val y)) && fin (val x)) = false by
          have : (ys.all fun y => fin (val y)) = false := by
            rw [List.all_eq_false]
            exact ⟨y, List.mem_of_getElem? HYM.out, by rw [hf]; simp⟩
          rw [this]; rfl)
        rw [hf] at HY
        clear hf
        go_wp2_with (go_at_call 98; (with_reducible refine (HY.out _).mono ?_); rintro e1 w1 ⟨rfl, n1, rfl⟩)
        go_ret2
        exact ⟨0, 0, by unfold tldE; rw [H.out]; rfl, (by first | with_reducible exact Dr.refl _ | with_reducible exact Dr.mk _ _ | with_reducible exact Dr.trans (Dr.mk _ _) (Dr.mk _ _)), by unfold tldZ; rw [H.out]; rfl, isW_0, isW_0⟩
      · have H := hid (show ((ys.take (k + 1)).all fun y => fin (val y)) = true by
          rw [List.take_add_one, HYM.out, List.all_append, HA.out]
          simp [hf])
        rw [hf] at HY
        clear hf
        go_wp2_with (go_at_call 98; (with_reducible refine (HY.out _).mono ?_); rintro e1 w1 ⟨rfl, n1, rfl⟩)
        go_roundw
        case rel => exact ⟨k + 1, by go_num, by omega, H.out, (by first | with_reducible exact Dr.refl _ | with_reducible exact Dr.mk _ _ | with_reducible exact Dr.trans (Dr.mk _ _) (Dr.mk _ _))⟩
        case measure => simp [intOf] <;> omega
    · obtain rfl : k = ys.length := by omega
      rw [List.take_length] at hall
      clear hc
      cases hf : fin (val x)
      · have H := hid (show ((ys.all fun y => fin (val y)) && fin (val x)) = false by rw [hf, Bool.and_false])
        rw [hf] at HX
        clear hf hall
        go_wp2_with (go_at_call 98; (with_reducible refine (HX.out _).mono ?_); rintro e1 w1 ⟨rfl, n1, rfl⟩)
        go_ret2
        exact ⟨0, 0, by unfold tldE; rw [H.out]; rfl, (by first | with_reducible exact Dr.refl _ | with_reducible exact Dr.mk _ _ | with_reducible exact Dr.trans (Dr.mk _ _) (Dr.mk _ _)), by unfold tldZ; rw [H.out]; rfl, isW_0, isW_0⟩
      · have H := hid (show ((ys.all fun y => fin (val y)) && fin (val x)) = true by rw [hf, hall]; rfl)
        rw [hf] at HX
        clear hf hall
        cases re
        · go_wp2_with (go_at_call 98; (with_reducible refine (HX.out _).mono ?_); rintro e1 w1 ⟨rfl, n1, rfl⟩)
          go_ret2
          exact ⟨x, 0, by unfold tldE; rw [H.out]; rfl, (by first | with_reducible exact Dr.refl _ | with_reducible exact Dr.mk _ _ | with_reducible exact Dr.trans (Dr.mk _ _) (Dr.mk _ _)), by unfold tldZ; rw [H.out]; rfl, hx, isW_0⟩
        · go_wp2_with (go_at_call 98; (with_reducible refine (HX.out _).mono ?_); rintro e1 w1 ⟨rfl, n1, rfl⟩)
          go_ret2
          exact ⟨0, x, by unfold tldE; rw [H.out]; rfl, (by first | with_reducible exact Dr.refl _ | with_reducible exact Dr.mk _ _ | with_reducible exact Dr.trans (Dr.mk _ _) (Dr.mk _ _)), by unfold tldZ; rw [H.out]; rfl, isW_0, hx⟩

theorem Sl_litS {w : World} {s : Nat} (e : Nat) (cs : List Value) (h : s = w.heap.size) : Sl (w.alloc (.cells cs.toArray e)) (.slice (some ⟨s, 0, none⟩) cs.length cs.length) cs := by
  subst h
  refine ⟨some ⟨w.heap.size, 0, none⟩, cs.length, rfl, fun _ => ⟨w.heap.size, 0, rfl, fun i x hx => ?_⟩, (fun h => by cases h), Nat.le_refl _⟩
  rw [Nat.zero_add, World.cell?_alloc_new]
  simpa using hx
theorem told_R {x : Nat} {X : Option Nat} {gz : CV} {gn : Int} (h1 : (if fin X = true then (X, val 0) else (val 0, val 0)) = gz) (h2 : (if fin X = true then 0 else 6) = gn) (hX : val x = X) (hx : IsW x) (w : World) : Calls Tryd.prog 119 #[.bool false, .float .f64 x, .slice none 0 0] w (RetCE w gz gn) := by
  subst h1
  subst h2
  subst hX
  exact rtold17_any false x hx [] _ w (Sl.nil w) (by simp)
theorem told_I {x y : Nat} {X Y : Option Nat} {v : Value} {w : World} {gz : CV} {gn : Int} (h1 : (if (fin Y && fin X) = true then (val 0, X) else (val 0, val 0)) = gz) (h2 : (if (fin Y && fin X) = true then 0 else 6) = gn) (hX : val x = X) (hY : val y = Y) (hx : IsW x) (hs : Sl w v [F y]) : Calls Tryd.prog 119 #[.bool true, .float .f64 x, v] w (RetCE w gz gn) := by
  subst h1
  subst h2
  subst hX
  subst hY
  have h := rtold17_any true x hx [y] v w hs (by simp)
  unfold tldZ tldE at h
  simp only [List.all_cons, List.all_nil, Bool.and_true, if_true] at h
  exact h
def recC (adm : Bool) (e : El) (o : Option Nat) : Bool := fin (recW e.kind (val e.v) o) && cfin (recZ adm e.kind (val e.v) o)
set_option maxRecDepth 100000 in
set_option maxHeartbeats 1000000 in
theorem rboth_any (e : El) (hv : IsW e.v) (hk4 : kind4 e.kind = true) (o : Nat) (adm : Bool) (w : World) : Calls Tryd.prog 100 #[elV e, .float .f64 o, .bool adm] w (RetCB w (if recC adm e (val o) = true then recZ adm e.kind (val e.v) (val o) else (val 0, val 0)) (if recC adm e (val o) = true then 0 else 6)) := by
  have HN := ElAt.new w e
  have hbw : Below w.heap.size w (w.alloc (.cells #[.int .u8 e.kind, .string e.name, .string e.a, .string e.b, .string e.c, .string e.d, .float .f64 e.v, .int .i64 e.ph] 30)) := (Below.refl _ w).alloc (Nat.le_refl _) _
  have q0 : fin (val 0) = true := by decide
  have hrc : recC adm e (val o) = (fin (recW e.kind (val e.v) (val o)) && cfin (recZ adm e.kind (val e.v) (val o))) := rfl
  have hz : recZ adm e.kind (val e.v) (val o) = if (e.kind == 1 || e.kind == 8) = true then (if adm = true then (fdiv one (val e.v), val 0) else (val e.v, val 0)) else if (adm == (e.kind == 2)) = true then (val 0, fneg (fdiv one (fmul (val o) (val e.v)))) else (val 0, fmul (val o) (val e.v)) := rfl
  have hw : recW e.kind (val e.v) (val o) = if (e.kind == 1 || e.kind == 8) = true then val 0 else fmul (val o) (val e.v) := rfl
  show Calls Tryd.prog 100 #[.agg #[.int .u8 e.kind, .string e.name, .string e.a, .string e.b, .string e.c, .string e.d, .float .f64 e.v, .int .i64 e.ph], .float .f64 o, .bool adm] w _
  unfold kind4 at hk4
  obtain ⟨gz, hgz⟩ : ∃ gz, gz = if recC adm e (val o) = true then recZ adm e.kind (val e.v) (val o) else (val 0, val 0) := ⟨_, rfl⟩
  obtain ⟨gn, hgn⟩ : ∃ gn : Int, gn = if recC adm e (val o) = true then 0 else 6 := ⟨_, rfl⟩
  rw [← hgz, ← hgn]
  generalize recC adm e (val o) = rc at *
  generalize recZ adm e.kind (val e.v) (val o) = zz at *
  generalize recW e.kind (val e.v) (val o) = ww at *
  rcases k4 e.kind with ⟨a1, b1⟩ | ⟨a1, b1, b2⟩ | ⟨a1, a2, b1, b2, b3⟩ | ⟨a1, a2, a3, b1, b2, b3, b4⟩ | ⟨a1, a2, a3, b1, b2, b3, b4⟩
  rotate_left 4
  · rw [a1, a2, a3] at hk4
    cases hk4
  all_goals
    first | rw [if_pos a1] at hz hw | rw [if_neg (by rw [a1]; simp), a2] at hz; rw [if_neg (by rw [a1]; simp)] at hw
    subst hw
    cases adm
    all_goals
      simp at hz
      subst hz
      clear hk4 a1
      try clear a2
      try clear a3
      first
        | (have h0 : rc = fin (val e.v) := by rw [hrc]; unfold cfin; simp [q0]
           subst h0
           have HG1 := hid hgz.symm
           have HG2 := hid hgn.symm)
        | (have h0 : rc = fin (fdiv (val 4607182418800017408) (val e.v)) := by rw [hrc]; unfold cfin one; simp [q0]
           subst h0
           have HG1 := hid hgz.symm
           have HG2 := hid hgn.symm)
        | (have h0 : rc = (fin (fmul (val o) (val e.v)) && fin (fmul (val o) (val e.v))) := by rw [hrc]; unfold cfin; simp [q0]
           subst h0
           have HG1 := hid hgz.symm
           have HG2 := hid hgn.symm)
        | (have h0 : rc = (fin (fmul (val o) (val e.v)) && fin (fneg (fdiv (val 4607182418800017408) (fmul (val o) (val e.v))))) := by rw [hrc]; unfold cfin one; simp [q0]
           subst h0
           have HG1 := hid hgz.symm
           have HG2 := hid hgn.symm)
      clear hgz hgn hrc
      try have b4 : ((e.kind : Int) == 3) = false := by have := b3; simp at this ⊢; omega
      go_enter Tryd.func100, Tryd.ntmps100
      go_wp2_with (first | (go_at_call 119; (first | (refine (told_R HG1.out HG2.out (by first | rfl | with_reducible assumption) (by assumption) _).mono ?_) | (refine (told_I HG1.out HG2.out (by first | with_reducible assumption | (simp only [val_neg, *]; done)) (by with_reducible assumption) (by first | assumption | exact isW_neg (by assumption)) (by exact Sl_litS _ [F _] (by simp))).mono ?_)); rintro E1 w1 ⟨x1, y1, rfl, ⟨n1, rfl⟩, hz1, i1, i2⟩) | ((with_reducible refine upon_fadd ?_); intro r n hr hl) | ((with_reducible refine upon_fsub ?_); intro r n hr hl) | ((with_reducible refine upon_fmul ?_); intro r n hr hl) | ((with_reducible refine upon_fdiv ?_); intro r n hr hl) | ((with_reducible refine upon_fmax (by assumption) (by assumption) ?_); intro r n hr hl) | ((with_reducible refine upon_fmin (by assumption) (by assumption) ?_); intro r n hr hl))
      go_ret2
      exact ⟨x1, y1, rfl, by repeat (first | with_reducible exact hbw | with_reducible refine below_drewN' ?_ _ | (with_reducible refine Below.alloc ?_ (by simp) _)), hz1, i1, i2⟩
theorem rec_may (adm : Bool) (e : El) (o : Option Nat) : (mayE e o ≠ 0 ∧ recG adm e o = (val 0, val 0) ∧ recE adm e o = mayE e o) ∨ (kind4 e.kind = true ∧ mayE e o = 0 ∧ recG adm e o = (if recC adm e o = true then recZ adm e.kind (val e.v) o else (val 0, val 0)) ∧ recE adm e o = if recC adm e o = true then 0 else 6) := by
  have hG : recG adm e o = if recE adm e o = 0 then recZ adm e.kind (val e.v) o else (val 0, val 0) := rfl
  have hE : recE adm e o = if aboveE o = 0 then (if checkE e = 0 then (if kind4 e.kind = true then (if recC adm e o = true then 0 else 6) else 2) else checkE e) else aboveE o := rfl
  have hM : mayE e o = if aboveE o = 0 then (if checkE e = 0 then (if kind4 e.kind = true then 0 else 2) else checkE e) else aboveE o := rfl
  by_cases h1 : aboveE o = 0
  · rw [if_pos h1] at hE hM
    by_cases h2 : checkE e = 0
    · rw [if_pos h2] at hE hM
      by_cases h3 : kind4 e.kind = true
      · rw [if_pos h3] at hE hM
        right
        refine ⟨h3, hM, ?_, hE⟩
        rw [hG, hE]
        by_cases h4 : recC adm e o = true
        · rw [if_pos h4, if_pos h4, if_pos rfl]
        · rw [if_neg h4, if_neg h4, if_neg (by decide)]
      · rw [if_neg h3] at hE hM
        left
        refine ⟨by rw [hM]; decide, by rw [hG, hE, if_neg (by decide)], by rw [hE, hM]⟩
    · rw [if_neg h2] at hE hM
      left
      refine ⟨by rw [hM]; exact h2, by rw [hG, hE, if_neg h2], by rw [hE, hM]⟩
  · rw [if_neg h1] at hE hM
    left
    refine ⟨by rw [hM]; exact h1, by rw [hG, hE, if_neg h1], by rw [hE, hM]⟩

set_option maxRecDepth 100000 in
set_option maxHeartbeats 1000000 in
theorem rOf17_any (e : El) (hk : e.kind < 256) (hv : IsW e.v) (o : Nat) (w : World) : Calls Tryd.prog 59 #[elV e, .float .f64 o] w (RetCB w (recG true e (val o)) (recE true e (val o))) := by
  have HM := hid (show ∀ w, Calls Tryd.prog 99 #[.agg #[.int .u8 e.kind, .string e.name, .string e.a, .string e.b, .string e.c, .string e.d, .float .f64 e.v, .int .i64 e.ph], .float .f64 o] w (RetV w (.int .i64 (mayE e (val o)))) from fun w => rMay_any e hk hv o w)
  have HN := hid (show AdW w e (w.alloc (.cells #[.int .u8 e.kind, .string e.name, .string e.a, .string e.b, .string e.c, .string e.d, .float .f64 e.v, .int .i64 e.ph] 30)) from AdW.new w e)
  rcases rec_may true e (val o) with ⟨h1, h2, h3⟩ | ⟨h1, h0, h2, h3⟩
  · rw [h2, h3]
    have g1 : (mayE e (val o) != 0) = true := by simpa using h1
    clear h1 h2 h3
    show Calls Tryd.prog 59 #[.agg #[.int .u8 e.kind, .string e.name, .string e.a, .string e.b, .string e.c, .string e.d, .float .f64 e.v, .int .i64 e.ph], .float .f64 o] w _
    go_enter Tryd.func59, Tryd.ntmps59
    go_wp2_with (go_at_call 99; (with_reducible refine (HM.out _).mono ?_); rintro E1 w1 ⟨rfl, hb1⟩; have K1 := HN.out.below hb1)
    go_ret2
    exact ⟨0, 0, rfl, K1.2, rfl, isW_0, isW_0⟩
  · rw [h2, h3]
    rw [h0] at HM
    have HB := hid (show ∀ w, Calls Tryd.prog 100 #[.agg #[.int .u8 e.kind, .string e.name, .string e.a, .string e.b, .string e.c, .string e.d, .float .f64 e.v, .int .i64 e.ph], .float .f64 o, .bool true] w (RetCB w (if recC true e (val o) = true then recZ true e.kind (val e.v) (val o) else (val 0, val 0)) (if recC true e (val o) = true then 0 else 6)) from fun w => rboth_any e hv h1 o true w)
    generalize (if recC true e (val o) = true then recZ true e.kind (val e.v) (val o) else (val 0, val 0)) = gz at *
    generalize (if recC true e (val o) = true then (0 : Int) else 6) = gn at *
    clear h1 h0 h2 h3
    show Calls Tryd.prog 59 #[.agg #[.int .u8 e.kind, .string e.name, .string e.a, .string e.b, .string e.c, .string e.d, .float .f64 e.v, .int .i64 e.ph], .float .f64 o] w _
    go_enter Tryd.func59, Tryd.ntmps59
    go_wp2_with (first | (go_at_call 99; (with_reducible refine (HM.out _).mono ?_); rintro E1 w1 ⟨rfl, hb1⟩; have K1 := HN.out.below hb1; obtain ⟨c0, c1, c2, c3, c4, c5, c6, c7⟩ := K1.cells) | (go_at_call 100; (with_reducible refine (HB.out _).mono ?_); rintro E2 w2 ⟨x, y, rfl, hb2, hz, i1, i2⟩))
    go_ret2
    exact ⟨x, y, rfl, K1.2.trans (hb2.mono K1.2.size), hz, i1, i2⟩

set_option maxRecDepth 100000 in
set_option maxHeartbeats 1000000 in
theorem rImp17_any (e : El) (hk : e.kind < 256) (hv : IsW e.v) (o : Nat) (w : World) : Calls Tryd.prog 63 #[elV e, .float .f64 o] w (RetCB w (recG false e (val o)) (recE false e (val o))) := by
  have HM := hid (show ∀ w, Calls Tryd.prog 99 #[.agg #[.int .u8 e.kind, .string e.name, .string e.a, .string e.b, .string e.c, .string e.d, .float .f64 e.v, .int .i64 e.ph], .float .f64 o] w (RetV w (.int .i64 (mayE e (val o)))) from fun w => rMay_any e hk hv o w)
  have HN := hid (show AdW w e (w.alloc (.cells #[.int .u8 e.kind, .string e.name, .string e.a, .string e.b, .string e.c, .string e.d, .float .f64 e.v, .int .i64 e.ph] 30)) from AdW.new w e)
  rcases rec_may false e (val o) with ⟨h1, h2, h3⟩ | ⟨h1, h0, h2, h3⟩
  · rw [h2, h3]
    have g1 : (mayE e (val o) != 0) = true := by simpa using h1
    clear h1 h2 h3
    show Calls Tryd.prog 63 #[.agg #[.int .u8 e.kind, .string e.name, .string e.a, .string e.b, .string e.c, .string e.d, .float .f64 e.v, .int .i64 e.ph], .float .f64 o] w _
    go_enter Tryd.func63, Tryd.ntmps63
    go_wp2_with (go_at_call 99; (with_reducible refine (HM.out _).mono ?_); rintro E1 w1 ⟨rfl, hb1⟩; have K1 := HN.out.below hb1)
    go_ret2
    exact ⟨0, 0, rfl, K1.2, rfl, isW_0, isW_0⟩
  · rw [h2, h3]
    rw [h0] at HM
    have HB := hid (show ∀ w, Calls Tryd.prog 100 #[.agg #[.int .u8 e.kind, .string e.name, .string e.a, .string e.b, .string e.c, .string e.d, .float .f64 e.v, .int .i64 e.ph], .float .f64 o, .bool false] w (RetCB w (if recC false e (val o) = true then recZ false e.kind (val e.v) (val o) else (val 0, val 0)) (if recC false e (val o) = true then 0 else 6)) from fun w => rboth_any e hv h1 o false w)
    generalize (if recC false e (val o) = true then recZ false e.kind (val e.v) (val o) else (val 0, val 0)) = gz at *
    generalize (if recC false e (val o) = true then (0 : Int) else 6) = gn at *
    clear h1 h0 h2 h3
    show Calls Tryd.prog 63 #[.agg #[.int .u8 e.kind, .string e.name, .string e.a, .string e.b, .string e.c, .string e.d, .float .f64 e.v, .int .i64 e.ph], .float .f64 o] w _
    go_enter Tryd.func63, Tryd.ntmps63
    go_wp2_with (first | (go_at_call 99; (with_reducible refine (HM.out _).mono ?_); rintro E1 w1 ⟨rfl, hb1⟩; have K1 := HN.out.below hb1; obtain ⟨c0, c1, c2, c3, c4, c5, c6, c7⟩ := K1.cells) | (go_at_call 100; (with_reducible refine (HB.out _).mono ?_); rintro E2 w2 ⟨x, y, rfl, hb2, hz, i1, i2⟩))
    go_ret2
    exact ⟨x, y, rfl, K1.2.trans (hb2.mono K1.2.size), hz, i1, i2⟩
end Go.Proofs.YtjpimgdmlieinaaDoor
