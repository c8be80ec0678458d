/- gridwork/admit: an element's admittance, its impedance. Condition: an element's kind is a byte, its Value has 64 bits. -/
import Derived.Test.YtgcakhmdmajplaaBaseM
import Derived.Test.YtgcakhmdmajplaaNChk
namespace Go.Proofs.Ytgcakhmdmajplaa
open Go.RowKit

/-- An admittance, an impedance, with its error; nothing of what was there is turned. -/
def RetCB (w : World) (z : CV) (n : Int) (E : Ending) (w' : World) : Prop := ∃ x y, E = .returned (.tuple #[.complex .f64 x y, .int .i64 n]) ∧ Below w.heap.size w w' ∧ cv x y = z ∧ IsW x ∧ IsW y
def recZ (adm : Bool) (k : Nat) (v o : Option Nat) : CV :=
  if (k == 1 || k == 8) = true then (if adm = true then (fdiv one v, val 0) else (v, val 0))
  else if (adm == (k == 2)) = true then (val 0, fneg (fdiv one (fmul o v))) else (val 0, fmul o v)
def recW (k : Nat) (v o : Option Nat) : Option Nat := if (k == 1 || k == 8) = true then val 0 else fmul o v
def recE (adm : Bool) (e : El) (o : Option Nat) : Int :=
  if aboveE o = 0 then
    (if checkE e = 0 then
      (if (e.kind == 1 || e.kind == 8 || e.kind == 2 || e.kind == 3) = true then (if (fin (recW e.kind (val e.v) o) && cfin (recZ adm e.kind (val e.v) o)) = true then 0 else 6) else 2)
    else checkE e)
  else aboveE o
def recG (adm : Bool) (e : El) (o : Option Nat) : CV := if recE adm e o = 0 then recZ adm e.kind (val e.v) o else (val 0, val 0)
theorem isW_one : IsW 4607182418800017408 := by unfold IsW; omega

@[go_sem] theorem negFloat_f64 (b : Nat) : Op.negFloat .f64 b = negB b := by
  unfold Op.negFloat negB
  rfl

set_option maxRecDepth 100000 in
set_option maxHeartbeats 400000 in
theorem angular_any (o : Nat) (w : World) : Calls Try.prog 71 #[.float .f64 o] w (RetE w (aboveE (val o))) := by
  have HA : aboveE (val o) = if fin (val o) = true then (if flt (val 0) (val o) = true then 0 else 2) else 5 := rfl
  unfold fin at HA
  by_cases h1 : feq (fsub (val o) (val o)) (val 0) = true
  · by_cases h2 : flt (val 0) (val o) = true
    · rw [if_pos h1, if_pos h2] at HA
      rw [HA]
      clear HA
      go_enter Try.func71, Try.ntmps71
      go_wp2_with (first | ((with_reducible refine upon_fadd ?_); intro r n hr hl) | ((with_reducible refine upon_fsub ?_); intro r n hr hl) | ((with_reducible refine upon_fmul ?_); intro r n hr hl) | ((with_reducible refine upon_fdiv ?_); intro r n hr hl) | ((with_reducible refine upon_fmax (by assumption) (by assumption) ?_); intro r n hr hl) | ((with_reducible refine upon_fmin (by assumption) (by assumption) ?_); intro r n hr hl))
      go_ret
      exact ⟨rfl, (by first | with_reducible exact Dr.mk _ _ | with_reducible exact Dr.refl _)⟩
    · rw [if_pos h1, if_neg h2] at HA
      rw [HA]
      clear HA
      simp only [Bool.not_eq_true] at h2
      go_enter Try.func71, Try.ntmps71
      go_wp2_with (first | ((with_reducible refine upon_fadd ?_); intro r n hr hl) | ((with_reducible refine upon_fsub ?_); intro r n hr hl) | ((with_reducible refine upon_fmul ?_); intro r n hr hl) | ((with_reducible refine upon_fdiv ?_); intro r n hr hl) | ((with_reducible refine upon_fmax (by assumption) (by assumption) ?_); intro r n hr hl) | ((with_reducible refine upon_fmin (by assumption) (by assumption) ?_); intro r n hr hl))
      go_ret
      exact ⟨rfl, (by first | with_reducible exact Dr.mk _ _ | with_reducible exact Dr.refl _)⟩
  · rw [if_neg h1] at HA
    rw [HA]
    clear HA
    simp only [Bool.not_eq_true] at h1
    go_enter Try.func71, Try.ntmps71
    go_wp2_with (first | ((with_reducible refine upon_fadd ?_); intro r n hr hl) | ((with_reducible refine upon_fsub ?_); intro r n hr hl) | ((with_reducible refine upon_fmul ?_); intro r n hr hl) | ((with_reducible refine upon_fdiv ?_); intro r n hr hl) | ((with_reducible refine upon_fmax (by assumption) (by assumption) ?_); intro r n hr hl) | ((with_reducible refine upon_fmin (by assumption) (by assumption) ?_); intro r n hr hl))
    go_ret
    exact ⟨rfl, (by first | with_reducible exact Dr.mk _ _ | with_reducible exact Dr.refl _)⟩

/-- The element's box; nothing else is turned. -/
def AdW (W : World) (e : El) (w : World) : Prop := ElAt w W.heap.size e ∧ Below W.heap.size W w
section
variable {W w w' : World} {e : El}
theorem AdW.new (W : World) (e : El) : AdW W e (W.alloc (.cells (elC e).toArray 54)) := ⟨ElAt.new W e, (Below.refl _ W).alloc (Nat.le_refl _) _⟩
theorem AdW.drewN (h : AdW W e w) (n : Nat) : AdW W e (w.drewN n) := ⟨h.1, below_drewN' h.2 n⟩
theorem AdW.below (h : AdW W e w) (hb : Below w.heap.size w w') : AdW W e w' := ⟨h.1.below hb h.1.lt, h.2.trans (hb.mono h.2.size)⟩
theorem AdW.cells (h : AdW W e w) : w.cell? ⟨W.heap.size, 0, none⟩ = some (.int .u8 e.kind) ∧ w.cell? ⟨W.heap.size, 1, none⟩ = some (.string e.name) ∧ w.cell? ⟨W.heap.size, 2, none⟩ = some (.string e.a) ∧ w.cell? ⟨W.heap.size, 3, none⟩ = some (.string e.b) ∧ w.cell? ⟨W.heap.size, 4, none⟩ = some (.string e.c) ∧ w.cell? ⟨W.heap.size, 5, none⟩ = some (.string e.d) ∧ w.cell? ⟨W.heap.size, 6, none⟩ = some (.float .f64 e.v) ∧ w.cell? ⟨W.heap.size, 7, none⟩ = some (.int .i64 e.ph) := h.1.cells
end
/-- What the kind says. -/
theorem k4 (k : Nat) : ((k == 1 || k == 8) = true ∧ ((k : Int) == 1) = true) ∨ ((k == 1 || k == 8) = true ∧ ((k : Int) == 1) = false ∧ ((k : Int) == 8) = true) ∨
    ((k == 1 || k == 8) = false ∧ (k == 2) = true ∧ ((k : Int) == 1) = false ∧ ((k : Int) == 8) = false ∧ ((k : Int) == 2) = true) ∨
    ((k == 1 || k == 8) = false ∧ (k == 2) = false ∧ (k == 3) = true ∧ ((k : Int) == 1) = false ∧ ((k : Int) == 8) = false ∧ ((k : Int) == 2) = false ∧ ((k : Int) == 3) = true) ∨
    ((k == 1 || k == 8) = false ∧ (k == 2) = false ∧ (k == 3) = false ∧ ((k : Int) == 1) = false ∧ ((k : Int) == 8) = false ∧ ((k : Int) == 2) = false ∧ ((k : Int) == 3) = false) := by
  by_cases h1 : k = 1
  · subst h1; simp
  by_cases h2 : k = 8
  · subst h2; simp
  by_cases h3 : k = 2
  · subst h3; simp
  by_cases h4 : k = 3
  · subst h4; simp
  refine .inr (.inr (.inr (.inr ⟨by simp [h1, h2], by simp [h3], by simp [h4], ?_, ?_, ?_, ?_⟩))) <;> simp <;> omega

theorem Finite_z (a b : Nat) (z : CV) (h : cv a b = z) (w : World) : Calls Try.prog 61 #[.complex .f64 a b] w (RetB w (cfin z)) := h ▸ Finite_any a b w
set_option maxRecDepth 100000 in
set_option maxHeartbeats 4000000 in
theorem reckon_any (e : El) (hk : e.kind < 256) (hv : IsW e.v) (o : Nat) (adm : Bool) (w : World) : Calls Try.prog 50 #[elV e, .float .f64 o, .bool adm] w (RetCB w (recG adm e (val o)) (recE adm e (val o))) := by
  have HC := hid (show ∀ w, Calls Try.prog 20 #[.agg #[.int .u8 e.kind, .string e.name, .string e.a, .string e.b, .string e.c, .string e.d, .float .f64 e.v, .int .i64 e.ph]] w (RetV w (.int .i64 (checkE e))) from fun w => Check_any e hk w)
  have HA := hid fun w => angular_any o w
  have HN := hid (show AdW w e (w.alloc (.cells #[.int .u8 e.kind, .string e.name, .string e.a, .string e.b, .string e.c, .string e.d, .float .f64 e.v, .int .i64 e.ph] 54)) from AdW.new w e)
  have he1 : recE adm e (val o) = if aboveE (val o) = 0 then (if checkE e = 0 then (if (e.kind == 1 || e.kind == 8 || e.kind == 2 || e.kind == 3) = true then (if (fin (recW e.kind (val e.v) (val o)) && cfin (recZ adm e.kind (val e.v) (val o))) = true then 0 else 6) else 2) else checkE e) else aboveE (val o) := rfl
  have he2 : recG adm e (val o) = if recE adm e (val o) = 0 then recZ adm e.kind (val e.v) (val o) else (val 0, val 0) := rfl
  show Calls Try.prog 50 #[.agg #[.int .u8 e.kind, .string e.name, .string e.a, .string e.b, .string e.c, .string e.d, .float .f64 e.v, .int .i64 e.ph], .float .f64 o, .bool adm] w _
  generalize recG adm _ _ = rg at *
  generalize recE adm _ _ = re at *
  by_cases h1 : aboveE (val o) = 0
  · rw [if_pos h1] at he1
    rw [h1] at HA
    obtain ⟨ck, hck⟩ : ∃ ck, ck = checkE e := ⟨_, rfl⟩
    rw [← hck] at he1 HC
    clear hck
    by_cases h2 : ck = 0
    · subst h2
      rw [if_pos rfl] at he1
      have q0 : fin (val 0) = true := by decide
      have q1 : feq (fsub (val 0) (val 0)) (val 0) = true := q0
      have hz : recZ adm e.kind (val e.v) (val o) = if (e.kind == 1 || e.kind == 8) = true then (if adm = true then (fdiv one (val e.v), val 0) else (val e.v, val 0)) else if (adm == (e.kind == 2)) = true then (val 0, fneg (fdiv one (fmul (val o) (val e.v)))) else (val 0, fmul (val o) (val e.v)) := rfl
      have hw : recW e.kind (val e.v) (val o) = if (e.kind == 1 || e.kind == 8) = true then val 0 else fmul (val o) (val e.v) := rfl
      generalize hzz : recZ adm e.kind (val e.v) (val o) = zz at *
      generalize recW e.kind (val e.v) (val o) = ww at *
      clear hzz
      have hone : val 4607182418800017408 = one := rfl
      rcases k4 e.kind with ⟨b1, k1⟩ | ⟨b1, k1, k2⟩ | ⟨b1, b2, k1, k2, k3⟩ | ⟨b1, b2, b3, k1, k2, k3, k4⟩ | ⟨b1, b2, b3, k1, k2, k3, k4⟩
      · rw [if_pos b1] at hz hw
        subst hw
        rw [if_pos (by rw [b1]; rfl), q0, Bool.true_and] at he1
        clear h1 b1 q0
        cases adm
        all_goals
          first | (replace hz : zz = (val e.v, val 0) := hz) | (replace hz : zz = (fdiv one (val e.v), val 0) := hz)
          (have HZ := hid hz; clear hz; by_cases g2 : cfin zz = true; all_goals ((first | rw [if_pos g2] at he1 | rw [if_neg g2] at he1); (first | rw [he1, if_pos rfl] at he2 | rw [he1, if_neg (by decide)] at he2); rw [he1, he2]; clear he1 he2; (try simp only [Bool.not_eq_true] at g2); go_enter Try.func50, Try.ntmps50; go_wp2_with (first | (go_at_call 71; (with_reducible refine (HA.out _).mono ?_); rintro E1 w1 ⟨rfl, nd, rfl⟩; have K1 := HN.out.drewN nd; obtain ⟨a0, a1, a2, a3, a4, a5, a6, a7⟩ := K1.cells) | (go_at_call 20; (with_reducible refine (HC.out _).mono ?_); rintro E2 w2 ⟨rfl, hb⟩; have K2 := K1.below hb; clear a0 a1 a2 a3 a4 a5 a6 a7 K1 hb; obtain ⟨a0, a1, a2, a3, a4, a5, a6, a7⟩ := K2.cells) | (go_at_call 61; (with_reducible refine (Finite_z _ _ zz (by rw [HZ.out]; first | (simp only [cv, *]; done) | simp only [cv, val_neg, *]) _).mono ?_); rintro E3 w3 ⟨rfl, n3, rfl⟩) | ((with_reducible refine upon_fadd ?_); intro r n hr hl) | ((with_reducible refine upon_fsub ?_); intro r n hr hl) | ((with_reducible refine upon_fmul ?_); intro r n hr hl) | ((with_reducible refine upon_fdiv ?_); intro r n hr hl) | ((with_reducible refine upon_fmax (by assumption) (by assumption) ?_); intro r n hr hl) | ((with_reducible refine upon_fmin (by assumption) (by assumption) ?_); intro r n hr hl)); go_ret2; first | exact ⟨_, _, rfl, below_drewN' K2.2 _, by rw [HZ.out]; first | (simp only [cv, *]; done) | simp only [cv, val_neg, *], by first | assumption | exact isW_0 | exact isW_neg (by assumption), by first | assumption | exact isW_0 | exact isW_neg (by assumption)⟩ | exact ⟨0, 0, rfl, below_drewN' K2.2 _, rfl, isW_0, isW_0⟩))
      · rw [if_pos b1] at hz hw
        subst hw
        rw [if_pos (by rw [b1]; rfl), q0, Bool.true_and] at he1
        clear h1 b1 q0
        cases adm
        all_goals
          first | (replace hz : zz = (val e.v, val 0) := hz) | (replace hz : zz = (fdiv one (val e.v), val 0) := hz)
          (have HZ := hid hz; clear hz; by_cases g2 : cfin zz = true; all_goals ((first | rw [if_pos g2] at he1 | rw [if_neg g2] at he1); (first | rw [he1, if_pos rfl] at he2 | rw [he1, if_neg (by decide)] at he2); rw [he1, he2]; clear he1 he2; (try simp only [Bool.not_eq_true] at g2); go_enter Try.func50, Try.ntmps50; go_wp2_with (first | (go_at_call 71; (with_reducible refine (HA.out _).mono ?_); rintro E1 w1 ⟨rfl, nd, rfl⟩; have K1 := HN.out.drewN nd; obtain ⟨a0, a1, a2, a3, a4, a5, a6, a7⟩ := K1.cells) | (go_at_call 20; (with_reducible refine (HC.out _).mono ?_); rintro E2 w2 ⟨rfl, hb⟩; have K2 := K1.below hb; clear a0 a1 a2 a3 a4 a5 a6 a7 K1 hb; obtain ⟨a0, a1, a2, a3, a4, a5, a6, a7⟩ := K2.cells) | (go_at_call 61; (with_reducible refine (Finite_z _ _ zz (by rw [HZ.out]; first | (simp only [cv, *]; done) | simp only [cv, val_neg, *]) _).mono ?_); rintro E3 w3 ⟨rfl, n3, rfl⟩) | ((with_reducible refine upon_fadd ?_); intro r n hr hl) | ((with_reducible refine upon_fsub ?_); intro r n hr hl) | ((with_reducible refine upon_fmul ?_); intro r n hr hl) | ((with_reducible refine upon_fdiv ?_); intro r n hr hl) | ((with_reducible refine upon_fmax (by assumption) (by assumption) ?_); intro r n hr hl) | ((with_reducible refine upon_fmin (by assumption) (by assumption) ?_); intro r n hr hl)); go_ret2; first | exact ⟨_, _, rfl, below_drewN' K2.2 _, by rw [HZ.out]; first | (simp only [cv, *]; done) | simp only [cv, val_neg, *], by first | assumption | exact isW_0 | exact isW_neg (by assumption), by first | assumption | exact isW_0 | exact isW_neg (by assumption)⟩ | exact ⟨0, 0, rfl, below_drewN' K2.2 _, rfl, isW_0, isW_0⟩))
      · rw [if_neg (by simp [b1])] at hz hw
        rw [b2] at hz
        rw [if_pos (by rw [b1, b2]; rfl)] at he1
        have hf : fin ww = feq (fsub (fmul (val o) (val e.v)) (fmul (val o) (val e.v))) (val 0) := by rw [hw]; rfl
        clear hw h1 b1 b2 q0
        by_cases g1 : feq (fsub (fmul (val o) (val e.v)) (fmul (val o) (val e.v))) (val 0) = true
        · rw [hf, g1, Bool.true_and] at he1
          clear hf
          cases adm
          all_goals
            first | (replace hz : zz = (val 0, fmul (val o) (val e.v)) := hz) | (replace hz : zz = (val 0, fneg (fdiv one (fmul (val o) (val e.v)))) := hz)
            (have HZ := hid hz; clear hz; by_cases g2 : cfin zz = true; all_goals ((first | rw [if_pos g2] at he1 | rw [if_neg g2] at he1); (first | rw [he1, if_pos rfl] at he2 | rw [he1, if_neg (by decide)] at he2); rw [he1, he2]; clear he1 he2; (try simp only [Bool.not_eq_true] at g2); go_enter Try.func50, Try.ntmps50; go_wp2_with (first | (go_at_call 71; (with_reducible refine (HA.out _).mono ?_); rintro E1 w1 ⟨rfl, nd, rfl⟩; have K1 := HN.out.drewN nd; obtain ⟨a0, a1, a2, a3, a4, a5, a6, a7⟩ := K1.cells) | (go_at_call 20; (with_reducible refine (HC.out _).mono ?_); rintro E2 w2 ⟨rfl, hb⟩; have K2 := K1.below hb; clear a0 a1 a2 a3 a4 a5 a6 a7 K1 hb; obtain ⟨a0, a1, a2, a3, a4, a5, a6, a7⟩ := K2.cells) | (go_at_call 61; (with_reducible refine (Finite_z _ _ zz (by rw [HZ.out]; first | (simp only [cv, *]; done) | simp only [cv, val_neg, *]) _).mono ?_); rintro E3 w3 ⟨rfl, n3, rfl⟩) | ((with_reducible refine upon_fadd ?_); intro r n hr hl) | ((with_reducible refine upon_fsub ?_); intro r n hr hl) | ((with_reducible refine upon_fmul ?_); intro r n hr hl) | ((with_reducible refine upon_fdiv ?_); intro r n hr hl) | ((with_reducible refine upon_fmax (by assumption) (by assumption) ?_); intro r n hr hl) | ((with_reducible refine upon_fmin (by assumption) (by assumption) ?_); intro r n hr hl)); go_ret2; first | exact ⟨_, _, rfl, below_drewN' K2.2 _, by rw [HZ.out]; first | (simp only [cv, *]; done) | simp only [cv, val_neg, *], by first | assumption | exact isW_0 | exact isW_neg (by assumption), by first | assumption | exact isW_0 | exact isW_neg (by assumption)⟩ | exact ⟨0, 0, rfl, below_drewN' K2.2 _, rfl, isW_0, isW_0⟩))
        · simp only [Bool.not_eq_true] at g1
          rw [hf, g1, Bool.false_and, if_neg (by simp)] at he1
          rw [he1, if_neg (by decide)] at he2
          rw [he1, he2]
          have HZ := hid hz
          clear he1 he2 hf hz
          cases adm
          all_goals
            go_enter Try.func50, Try.ntmps50
            go_wp2_with (first | (go_at_call 71; (with_reducible refine (HA.out _).mono ?_); rintro E1 w1 ⟨rfl, nd, rfl⟩; have K1 := HN.out.drewN nd; obtain ⟨a0, a1, a2, a3, a4, a5, a6, a7⟩ := K1.cells) | (go_at_call 20; (with_reducible refine (HC.out _).mono ?_); rintro E2 w2 ⟨rfl, hb⟩; have K2 := K1.below hb; clear a0 a1 a2 a3 a4 a5 a6 a7 K1 hb; obtain ⟨a0, a1, a2, a3, a4, a5, a6, a7⟩ := K2.cells) | (go_at_call 61; (with_reducible refine (Finite_z _ _ zz (by rw [HZ.out]; first | (simp only [cv, *]; done) | simp only [cv, val_neg, *]) _).mono ?_); rintro E3 w3 ⟨rfl, n3, rfl⟩) | ((with_reducible refine upon_fadd ?_); intro r n hr hl) | ((with_reducible refine upon_fsub ?_); intro r n hr hl) | ((with_reducible refine upon_fmul ?_); intro r n hr hl) | ((with_reducible refine upon_fdiv ?_); intro r n hr hl) | ((with_reducible refine upon_fmax (by assumption) (by assumption) ?_); intro r n hr hl) | ((with_reducible refine upon_fmin (by assumption) (by assumption) ?_); intro r n hr hl))
            go_ret2
            exact ⟨0, 0, rfl, below_drewN' K2.2 _, rfl, isW_0, isW_0⟩
      · rw [if_neg (by simp [b1])] at hz hw
        rw [b2] at hz
        rw [if_pos (by rw [b1, b2, b3]; rfl)] at he1
        have hf : fin ww = feq (fsub (fmul (val o) (val e.v)) (fmul (val o) (val e.v))) (val 0) := by rw [hw]; rfl
        clear hw h1 b1 b2 b3 q0
        by_cases g1 : feq (fsub (fmul (val o) (val e.v)) (fmul (val o) (val e.v))) (val 0) = true
        · rw [hf, g1, Bool.true_and] at he1
          clear hf
          cases adm
          all_goals
            first | (replace hz : zz = (val 0, fmul (val o) (val e.v)) := hz) | (replace hz : zz = (val 0, fneg (fdiv one (fmul (val o) (val e.v)))) := hz)
            (have HZ := hid hz; clear hz; by_cases g2 : cfin zz = true; all_goals ((first | rw [if_pos g2] at he1 | rw [if_neg g2] at he1); (first | rw [he1, if_pos rfl] at he2 | rw [he1, if_neg (by decide)] at he2); rw [he1, he2]; clear he1 he2; (try simp only [Bool.not_eq_true] at g2); go_enter Try.func50, Try.ntmps50; go_wp2_with (first | (go_at_call 71; (with_reducible refine (HA.out _).mono ?_); rintro E1 w1 ⟨rfl, nd, rfl⟩; have K1 := HN.out.drewN nd; obtain ⟨a0, a1, a2, a3, a4, a5, a6, a7⟩ := K1.cells) | (go_at_call 20; (with_reducible refine (HC.out _).mono ?_); rintro E2 w2 ⟨rfl, hb⟩; have K2 := K1.below hb; clear a0 a1 a2 a3 a4 a5 a6 a7 K1 hb; obtain ⟨a0, a1, a2, a3, a4, a5, a6, a7⟩ := K2.cells) | (go_at_call 61; (with_reducible refine (Finite_z _ _ zz (by rw [HZ.out]; first | (simp only [cv, *]; done) | simp only [cv, val_neg, *]) _).mono ?_); rintro E3 w3 ⟨rfl, n3, rfl⟩) | ((with_reducible refine upon_fadd ?_); intro r n hr hl) | ((with_reducible refine upon_fsub ?_); intro r n hr hl) | ((with_reducible refine upon_fmul ?_); intro r n hr hl) | ((with_reducible refine upon_fdiv ?_); intro r n hr hl) | ((with_reducible refine upon_fmax (by assumption) (by assumption) ?_); intro r n hr hl) | ((with_reducible refine upon_fmin (by assumption) (by assumption) ?_); intro r n hr hl)); go_ret2; first | exact ⟨_, _, rfl, below_drewN' K2.2 _, by rw [HZ.out]; first | (simp only [cv, *]; done) | simp only [cv, val_neg, *], by first | assumption | exact isW_0 | exact isW_neg (by assumption), by first | assumption | exact isW_0 | exact isW_neg (by assumption)⟩ | exact ⟨0, 0, rfl, below_drewN' K2.2 _, rfl, isW_0, isW_0⟩))
        · simp only [Bool.not_eq_true] at g1
          rw [hf, g1, Bool.false_and, if_neg (by simp)] at he1
          rw [he1, if_neg (by decide)] at he2
          rw [he1, he2]
          have HZ := hid hz
          clear he1 he2 hf hz
          cases adm
          all_goals
            go_enter Try.func50, Try.ntmps50
            go_wp2_with (first | (go_at_call 71; (with_reducible refine (HA.out _).mono ?_); rintro E1 w1 ⟨rfl, nd, rfl⟩; have K1 := HN.out.drewN nd; obtain ⟨a0, a1, a2, a3, a4, a5, a6, a7⟩ := K1.cells) | (go_at_call 20; (with_reducible refine (HC.out _).mono ?_); rintro E2 w2 ⟨rfl, hb⟩; have K2 := K1.below hb; clear a0 a1 a2 a3 a4 a5 a6 a7 K1 hb; obtain ⟨a0, a1, a2, a3, a4, a5, a6, a7⟩ := K2.cells) | (go_at_call 61; (with_reducible refine (Finite_z _ _ zz (by rw [HZ.out]; first | (simp only [cv, *]; done) | simp only [cv, val_neg, *]) _).mono ?_); rintro E3 w3 ⟨rfl, n3, rfl⟩) | ((with_reducible refine upon_fadd ?_); intro r n hr hl) | ((with_reducible refine upon_fsub ?_); intro r n hr hl) | ((with_reducible refine upon_fmul ?_); intro r n hr hl) | ((with_reducible refine upon_fdiv ?_); intro r n hr hl) | ((with_reducible refine upon_fmax (by assumption) (by assumption) ?_); intro r n hr hl) | ((with_reducible refine upon_fmin (by assumption) (by assumption) ?_); intro r n hr hl))
            go_ret2
            exact ⟨0, 0, rfl, below_drewN' K2.2 _, rfl, isW_0, isW_0⟩
      · rw [if_neg (by simp only [b1, b2, b3]; decide)] at he1
        rw [he1, if_neg (by decide)] at he2
        rw [he1, he2]
        clear he1 he2 h1 b1 b2 b3 hz hw
        go_enter Try.func50, Try.ntmps50
        go_wp2_with (first | (go_at_call 71; (with_reducible refine (HA.out _).mono ?_); rintro E1 w1 ⟨rfl, nd, rfl⟩; have K1 := HN.out.drewN nd; obtain ⟨a0, a1, a2, a3, a4, a5, a6, a7⟩ := K1.cells) | (go_at_call 20; (with_reducible refine (HC.out _).mono ?_); rintro E2 w2 ⟨rfl, hb⟩; have K2 := K1.below hb; clear a0 a1 a2 a3 a4 a5 a6 a7 K1 hb; obtain ⟨a0, a1, a2, a3, a4, a5, a6, a7⟩ := K2.cells) | (go_at_call 61; (with_reducible refine (Finite_z _ _ zz (by rw [HZ.out]; first | (simp only [cv, *]; done) | simp only [cv, val_neg, *]) _).mono ?_); rintro E3 w3 ⟨rfl, n3, rfl⟩) | ((with_reducible refine upon_fadd ?_); intro r n hr hl) | ((with_reducible refine upon_fsub ?_); intro r n hr hl) | ((with_reducible refine upon_fmul ?_); intro r n hr hl) | ((with_reducible refine upon_fdiv ?_); intro r n hr hl) | ((with_reducible refine upon_fmax (by assumption) (by assumption) ?_); intro r n hr hl) | ((with_reducible refine upon_fmin (by assumption) (by assumption) ?_); intro r n hr hl))
        go_ret2
        exact ⟨0, 0, rfl, below_drewN' K2.2 _, rfl, isW_0, isW_0⟩
    · rw [if_neg h2] at he1
      rw [he1, if_neg h2] at he2
      rw [he1, he2]
      clear he1 he2 h1
      go_enter Try.func50, Try.ntmps50
      go_wp2_with (first | (go_at_call 71; (with_reducible refine (HA.out _).mono ?_); rintro E1 w1 ⟨rfl, nd, rfl⟩; have K1 := HN.out.drewN nd; obtain ⟨a0, a1, a2, a3, a4, a5, a6, a7⟩ := K1.cells) | (go_at_call 20; (with_reducible refine (HC.out _).mono ?_); rintro E2 w2 ⟨rfl, hb⟩; have K2 := K1.below hb; clear a0 a1 a2 a3 a4 a5 a6 a7 K1 hb; obtain ⟨a0, a1, a2, a3, a4, a5, a6, a7⟩ := K2.cells) | (go_at_call 61; (with_reducible refine (Finite_z _ _ zz (by rw [HZ.out]; first | (simp only [cv, *]; done) | simp only [cv, val_neg, *]) _).mono ?_); rintro E3 w3 ⟨rfl, n3, rfl⟩) | ((with_reducible refine upon_fadd ?_); intro r n hr hl) | ((with_reducible refine upon_fsub ?_); intro r n hr hl) | ((with_reducible refine upon_fmul ?_); intro r n hr hl) | ((with_reducible refine upon_fdiv ?_); intro r n hr hl) | ((with_reducible refine upon_fmax (by assumption) (by assumption) ?_); intro r n hr hl) | ((with_reducible refine upon_fmin (by assumption) (by assumption) ?_); intro r n hr hl))
      go_ret2
      exact ⟨0, 0, rfl, K2.2, rfl, isW_0, isW_0⟩
  · rw [if_neg h1] at he1
    rw [he1, if_neg h1] at he2
    rw [he1, he2]
    clear he1 he2
    generalize aboveE (val o) = ao at *
    go_enter Try.func50, Try.ntmps50
    go_wp2_with (first | (go_at_call 71; (with_reducible refine (HA.out _).mono ?_); rintro E1 w1 ⟨rfl, nd, rfl⟩; have K1 := HN.out.drewN nd) | ((with_reducible refine upon_fadd ?_); intro r n hr hl) | ((with_reducible refine upon_fsub ?_); intro r n hr hl) | ((with_reducible refine upon_fmul ?_); intro r n hr hl) | ((with_reducible refine upon_fdiv ?_); intro r n hr hl) | ((with_reducible refine upon_fmax (by assumption) (by assumption) ?_); intro r n hr hl) | ((with_reducible refine upon_fmin (by assumption) (by assumption) ?_); intro r n hr hl))
    go_ret2
    exact ⟨0, 0, rfl, K1.2, rfl, isW_0, isW_0⟩

set_option maxRecDepth 100000 in
set_option maxHeartbeats 400000 in
theorem AOf_any (e : El) (hk : e.kind < 256) (hv : IsW e.v) (o : Nat) (w : World) : Calls Try.prog 28 #[elV e, .float .f64 o] w (RetCB w (recG true e (val o)) (recE true e (val o))) := by
  have HR := hid (show ∀ w, Calls Try.prog 50 #[.agg #[.int .u8 e.kind, .string e.name, .string e.a, .string e.b, .string e.c, .string e.d, .float .f64 e.v, .int .i64 e.ph], .float .f64 o, .bool true] w (RetCB w (recG true e (val o)) (recE true e (val o))) from fun w => reckon_any e hk hv o true w)
  show Calls Try.prog 28 #[.agg #[.int .u8 e.kind, .string e.name, .string e.a, .string e.b, .string e.c, .string e.d, .float .f64 e.v, .int .i64 e.ph], .float .f64 o] w _
  go_enter Try.func28, Try.ntmps28
  go_wp2_with (go_at_call 50; (with_reducible refine (HR.out _).mono ?_); rintro E1 w1 ⟨x, y, rfl, hb, h1, h2, h3⟩)
  go_ret2
  exact ⟨x, y, rfl, ((Below.refl _ w).alloc (Nat.le_refl _) _).trans (hb.mono (by simp)), h1, h2, h3⟩
end Go.Proofs.Ytgcakhmdmajplaa

