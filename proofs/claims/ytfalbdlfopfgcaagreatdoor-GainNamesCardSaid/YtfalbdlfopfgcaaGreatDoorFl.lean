/- Real numbers of 64 bits as the model has them: 'val' forgets which NaN a NaN is; each operation on values; the laws by which a walk takes the four operations, whatever NaN is drawn. No condition. -/

import Derived.WalkKit
import Derived.WalkSpells
import Derived.WalkLawsBesides
import Derived.Deep.Draws
namespace Go.Proofs.YtfalbdlfopfgcaaGreatDoor
open Go.RowKit

/-- Is a word of 64 bits a NaN? -/
def nanB (b : Nat) : Bool := decide (9218868437227405312 < b % 9223372036854775808)

/-- Has a word 64 bits? (A definition, so that no walk counts its bound up.) -/
def IsW (b : Nat) : Prop := b < 18446744073709551616

/-- What a word stands for, all NaNs being one. -/
def val (b : Nat) : Option Nat := if nanB b then none else some b

theorem read_nan (b : Nat) : (Ieee.double.read b).isNaN = nanB b := by
  have h1 : Ieee.double.signWeight = 9223372036854775808 := by decide +kernel
  have h2 : Ieee.double.binade = 4503599627370496 := by decide +kernel
  have h3 : Ieee.double.infRung = 9218868437227405312 := by decide +kernel
  unfold Ieee.Format.read nanB
  simp only [h1, h2, h3]
  split
  · rename_i h; simp [Ieee.Datum.isNaN]; omega
  · split
    · simp [Ieee.Datum.isNaN]; omega
    · split
      · simp [Ieee.Datum.isNaN]; omega
      · simp [Ieee.Datum.isNaN]; omega

theorem write_not_nan (d : Ieee.Datum) (h : d.isNaN = false) : nanB (Ieee.double.write d) = false ∧ Ieee.double.write d < 18446744073709551616 := by
  have h1 : Ieee.double.signWeight = 9223372036854775808 := by decide +kernel
  have h3 : Ieee.double.infRung = 9218868437227405312 := by decide +kernel
  have hw : ∀ (neg : Bool) (r : Nat), r ≤ 9218868437227405312 → nanB (Ieee.double.word neg r) = false ∧ Ieee.double.word neg r < 18446744073709551616 := by
    intro neg r hr
    unfold Ieee.Format.word nanB
    simp only [h1]
    cases neg <;> simp <;> omega
  cases d with
  | nan s t => simp [Ieee.Datum.isNaN] at h
  | infinity s => exact hw s _ (by rw [h3]; exact Nat.le_refl _)
  | number s m e =>
    show nanB (Ieee.double.nearest s m e) = false ∧ Ieee.double.nearest s m e < _
    unfold Ieee.Format.nearest
    dsimp only
    split
    · exact hw s 0 (by omega)
    · exact hw s _ (by rw [h3]; exact Nat.min_le_right _ _)

theorem sum_nan {x y d : Ieee.Datum} (h : x.sum y = some d) : x.isNaN = false ∧ y.isNaN = false ∧ d.isNaN = false := by
  cases x <;> cases y <;> simp [Ieee.Datum.sum, Ieee.Datum.isNaN] at h ⊢
  all_goals first | (subst h; simp; done) | (obtain ⟨_, rfl⟩ := h; simp)

theorem product_nan {x y d : Ieee.Datum} (h : x.product y = some d) : x.isNaN = false ∧ y.isNaN = false ∧ d.isNaN = false := by
  cases x <;> cases y <;> simp [Ieee.Datum.product, Ieee.Datum.isNaN] at h ⊢
  all_goals first | (subst h; simp; done) | (obtain ⟨_, rfl⟩ := h; simp)

theorem quotient_nan {k : Nat} {x y d : Ieee.Datum} (h : x.quotient k y = some d) : x.isNaN = false ∧ y.isNaN = false ∧ d.isNaN = false := by
  cases x with
  | nan => simp [Ieee.Datum.quotient] at h
  | infinity s =>
    cases y with
    | nan => simp [Ieee.Datum.quotient] at h
    | infinity t => simp [Ieee.Datum.quotient] at h
    | number t n j => simp [Ieee.Datum.quotient] at h; subst h; simp [Ieee.Datum.isNaN]
  | number s m i =>
    cases y with
    | nan => simp [Ieee.Datum.quotient] at h
    | infinity t => simp [Ieee.Datum.quotient] at h; subst h; simp [Ieee.Datum.isNaN]
    | number t n j =>
      refine ⟨rfl, rfl, ?_⟩
      by_cases hn : n = 0
      · by_cases hm : m = 0
        · simp [Ieee.Datum.quotient, hn, hm] at h
        · simp [Ieee.Datum.quotient, hn, hm] at h; subst h; rfl
      · simp [Ieee.Datum.quotient, hn] at h; subst h; rfl

theorem opposite_nan (d : Ieee.Datum) : d.opposite.isNaN = d.isNaN := by cases d <;> rfl

theorem root_nan {k : Nat} {x d : Ieee.Datum} (h : x.root k = some d) : x.isNaN = false ∧ d.isNaN = false := by
  cases x with
  | nan => simp [Ieee.Datum.root] at h
  | infinity s => simp [Ieee.Datum.root] at h; obtain ⟨_, rfl⟩ := h; simp [Ieee.Datum.isNaN]
  | number s m i =>
    refine ⟨rfl, ?_⟩
    unfold Ieee.Datum.root at h
    dsimp only at h
    split at h
    · cases h; rfl
    · split at h
      · cases h
      · cases h; rfl

def isArith (op : BinOp) : Bool := op matches .add | .sub | .mul | .quo

theorem floatBits_parts {op : BinOp} {a b r : Nat} (h : floatBits op .f64 a b = some r) : nanB a = false ∧ nanB b = false ∧ nanB r = false ∧ r < 18446744073709551616 := by
  unfold floatBits at h
  cases op <;> simp only at h <;> try (cases h; done)
  · obtain ⟨d, hd, rfl⟩ := Option.map_eq_some_iff.1 (show ((Ieee.double.read a).sum (Ieee.double.read b)).map Ieee.double.write = some r from h)
    obtain ⟨h1, h2, h3⟩ := sum_nan hd
    rw [read_nan] at h1 h2
    exact ⟨h1, h2, write_not_nan d h3⟩
  · obtain ⟨d, hd, rfl⟩ := Option.map_eq_some_iff.1 (show ((Ieee.double.read a).sum (Ieee.double.read b).opposite).map Ieee.double.write = some r from h)
    obtain ⟨h1, h2, h3⟩ := sum_nan hd
    rw [opposite_nan] at h2
    rw [read_nan] at h1 h2
    exact ⟨h1, h2, write_not_nan d h3⟩
  · obtain ⟨d, hd, rfl⟩ := Option.map_eq_some_iff.1 (show ((Ieee.double.read a).product (Ieee.double.read b)).map Ieee.double.write = some r from h)
    obtain ⟨h1, h2, h3⟩ := product_nan hd
    rw [read_nan] at h1 h2
    exact ⟨h1, h2, write_not_nan d h3⟩
  · obtain ⟨d, hd, rfl⟩ := Option.map_eq_some_iff.1 (show ((Ieee.double.read a).quotient _ (Ieee.double.read b)).map Ieee.double.write = some r from h)
    obtain ⟨h1, h2, h3⟩ := quotient_nan hd
    rw [read_nan] at h1 h2
    exact ⟨h1, h2, write_not_nan d h3⟩

/-- An operation on values. -/
def fop (op : BinOp) (x y : Option Nat) : Option Nat := x.bind fun a => y.bind fun b => floatBits op .f64 a b
def fadd (x y : Option Nat) : Option Nat := fop .add x y
def fsub (x y : Option Nat) : Option Nat := fop .sub x y
def fmul (x y : Option Nat) : Option Nat := fop .mul x y
def fdiv (x y : Option Nat) : Option Nat := fop .quo x y

theorem val_some {b : Nat} (h : nanB b = false) : val b = some b := by simp [val, h]
theorem val_none {b : Nat} (h : nanB b = true) : val b = none := by simp [val, h]

theorem val_fop (op : BinOp) (a b : Nat) : fop op (val a) (val b) = floatBits op .f64 a b := by
  cases ha : nanB a
  · cases hb : nanB b
    · simp [fop, val_some ha, val_some hb]
    · simp only [fop, val_some ha, val_none hb, Option.bind_some, Option.bind_none]
      cases h : floatBits op .f64 a b with
      | none => rfl
      | some r => rw [(floatBits_parts h).2.1] at hb; cases hb
  · simp only [fop, val_none ha, Option.bind_none]
    cases h : floatBits op .f64 a b with
    | none => rfl
    | some r => rw [(floatBits_parts h).1] at ha; cases ha

/-- The answer that the tape gives where a NaN's bits are asked for: a NaN. -/
theorem nan_cut (x y t : Nat) : nanB (Question.cut (.nanBits .f64 x y) t) = true ∧ Question.cut (.nanBits .f64 x y) t < 18446744073709551616 := by
  unfold Question.cut nanB
  simp only [decide_eq_true_eq]
  have h1 : t % 2 < 2 := Nat.mod_lt _ (by omega)
  have h2 : t / 2 % (2 ^ 52 - 1) < 2 ^ 52 - 1 := Nat.mod_lt _ (by decide)
  generalize t % 2 = u at *
  generalize t / 2 % (2 ^ 52 - 1) = v at *
  omega

theorem run_fop {P : Program} (w : World) (op : BinOp) (hop : isArith op = true) (t : TypeId) (p q : Nat) :
    ∃ r n, (binOp op t (.float .f64 p) (.float .f64 q)).run P w = .ok (.float .f64 r) (w.drewN n) ∧ val r = fop op (val p) (val q) ∧ IsW r := by
  rw [val_fop]
  cases h : floatBits op .f64 p q with
  | some r =>
    obtain ⟨_, _, h3, h4⟩ := floatBits_parts h
    exact ⟨r, 0, run_float_arith w op t .f64 p q r h, val_some h3, h4⟩
  | none =>
    have hn := nan_cut p q (w.tape w.drawn (.nanBits .f64 p q))
    refine ⟨_, 1, ?_, val_none hn.1, hn.2⟩
    unfold floatBits at h
    cases op <;> simp [isArith] at hop <;> simp only at h <;> simp [binOp, Op.floatArith, h, Question.forced] <;> rfl

section
variable {P : Program} {o : Oper} {a : Act} {K : Act → World → Prop} {Q : Exit → Act → World → Prop} {w : World}
theorem upon_fop (op : BinOp) (hop : isArith op = true) (t : TypeId) (p q : Nat)
    (h : ∀ r n, val r = fop op (val p) (val q) → IsW r → K (a.put o.dst (.float .f64 r)) (w.drewN n)) :
    Oper.upon P o a K Q ((Sem.run P (binOp op t (.float .f64 p) (.float .f64 q)) w).andThen fun x w' => .ok (.value x) w') := by
  obtain ⟨r, n, hr, hv, hl⟩ := run_fop (P := P) w op hop t p q
  rw [hr]
  exact h r n hv hl
theorem upon_fadd {t : TypeId} {p q : Nat} (h : ∀ r n, val r = fadd (val p) (val q) → IsW r → K (a.put o.dst (.float .f64 r)) (w.drewN n)) :
    Oper.upon P o a K Q ((Sem.run P (binOp .add t (.float .f64 p) (.float .f64 q)) w).andThen fun x w' => .ok (.value x) w') := upon_fop .add rfl t p q h
theorem upon_fsub {t : TypeId} {p q : Nat} (h : ∀ r n, val r = fsub (val p) (val q) → IsW r → K (a.put o.dst (.float .f64 r)) (w.drewN n)) :
    Oper.upon P o a K Q ((Sem.run P (binOp .sub t (.float .f64 p) (.float .f64 q)) w).andThen fun x w' => .ok (.value x) w') := upon_fop .sub rfl t p q h
theorem upon_fmul {t : TypeId} {p q : Nat} (h : ∀ r n, val r = fmul (val p) (val q) → IsW r → K (a.put o.dst (.float .f64 r)) (w.drewN n)) :
    Oper.upon P o a K Q ((Sem.run P (binOp .mul t (.float .f64 p) (.float .f64 q)) w).andThen fun x w' => .ok (.value x) w') := upon_fop .mul rfl t p q h
theorem upon_fdiv {t : TypeId} {p q : Nat} (h : ∀ r n, val r = fdiv (val p) (val q) → IsW r → K (a.put o.dst (.float .f64 r)) (w.drewN n)) :
    Oper.upon P o a K Q ((Sem.run P (binOp .quo t (.float .f64 p) (.float .f64 q)) w).andThen fun x w' => .ok (.value x) w') := upon_fop .quo rfl t p q h
end

/-- How two values stand to each other. -/
def ford (x y : Option Nat) : Option Ordering := x.bind fun a => y.bind fun b => Ieee.double.order a b
def feq (x y : Option Nat) : Bool := ford x y == some .eq
def flt (x y : Option Nat) : Bool := ford x y == some .lt
def fle (x y : Option Nat) : Bool := ford x y == some .lt || ford x y == some .eq

theorem val_ford (a b : Nat) : ford (val a) (val b) = FloatKind.f64.format.order a b := by
  show ford (val a) (val b) = (Ieee.double.read a).order (Ieee.double.read b)
  have hn := read_nan a
  have hm := read_nan b
  cases ha : nanB a
  · cases hb : nanB b
    · simp [ford, val_some ha, val_some hb]; rfl
    · simp only [ford, val_some ha, val_none hb, Option.bind_some, Option.bind_none]
      rw [hb] at hm
      generalize Ieee.double.read b = y at *
      cases y <;> simp [Ieee.Datum.isNaN] at hm
      cases Ieee.double.read a <;> rfl
  · simp only [ford, val_none ha, Option.bind_none]
    rw [ha] at hn
    generalize Ieee.double.read a = y at *
    cases y <;> simp [Ieee.Datum.isNaN] at hn
    rfl

theorem order_swap (a b : Ieee.Datum) : a.order b = (b.order a).map Ordering.swap := by
  cases a <;> cases b <;> simp [Ieee.Datum.order]
  · rename_i s m i t n j
    rw [Int.min_comm]
    generalize Ieee.signed s m (i - min j i).toNat = u
    generalize Ieee.signed t n (j - min j i).toNat = v
    show compare u v = (compare v u).swap
    exact (Int.compare_swap v u).symm
  · split <;> rfl
  · split <;> rfl
  · rename_i s t
    cases s <;> cases t <;> rfl

theorem ford_swap (x y : Option Nat) : ford x y = (ford y x).map Ordering.swap := by
  cases x <;> cases y <;> simp [ford]
  exact order_swap _ _

@[go_sem high] theorem bin_feq (t : TypeId) (a b : Nat) : binOp .eql t (.float .f64 a) (.float .f64 b) = pure (.bool (feq (val a) (val b))) := by
  rw [binOp_float_cmp_eql, feq, val_ford]
@[go_sem high] theorem bin_fne (t : TypeId) (a b : Nat) : binOp .neq t (.float .f64 a) (.float .f64 b) = pure (.bool (!feq (val a) (val b))) := by
  rw [binOp_float_cmp_neq, feq, val_ford]; rfl
@[go_sem high] theorem bin_flt (t : TypeId) (a b : Nat) : binOp .lss t (.float .f64 a) (.float .f64 b) = pure (.bool (flt (val a) (val b))) := by
  rw [binOp_float_cmp_lss, flt, val_ford]
@[go_sem high] theorem bin_fle (t : TypeId) (a b : Nat) : binOp .leq t (.float .f64 a) (.float .f64 b) = pure (.bool (fle (val a) (val b))) := by
  rw [binOp_float_cmp_leq, fle, val_ford]
@[go_sem high] theorem bin_fgt (t : TypeId) (a b : Nat) : binOp .gtr t (.float .f64 a) (.float .f64 b) = pure (.bool (flt (val b) (val a))) := by
  rw [binOp_float_cmp_gtr, flt, ford_swap, val_ford]
  cases FloatKind.f64.format.order a b with
  | none => rfl
  | some o => cases o <;> rfl
@[go_sem high] theorem bin_fge (t : TypeId) (a b : Nat) : binOp .geq t (.float .f64 a) (.float .f64 b) = pure (.bool (fle (val b) (val a))) := by
  rw [binOp_float_cmp_geq, fle, ford_swap, val_ford]
  cases FloatKind.f64.format.order a b with
  | none => rfl
  | some o => cases o <;> rfl
@[go_sem high] theorem run_ceq {P : Program} (w : World) (t : TypeId) (a b c d : Nat) : (binOp .eql t (.complex .f64 a b) (.complex .f64 c d)).run P w = .ok (.bool (feq (val a) (val c) && feq (val b) (val d))) w := by
  rw [run_eql_complex, feq, feq, val_ford, val_ford]
@[go_sem high] theorem run_cne {P : Program} (w : World) (t : TypeId) (a b c d : Nat) : (binOp .neq t (.complex .f64 a b) (.complex .f64 c d)).run P w = .ok (.bool (!(feq (val a) (val c) && feq (val b) (val d)))) w := by
  rw [run_neq_complex, feq, feq, val_ford, val_ford]

theorem isW_0 : IsW 0 := by unfold IsW; omega
theorem isW_inf : IsW 9218868437227405312 := by unfold IsW; omega
theorem val_inj {r c : Nat} (h : val r = some c) : r = c := by
  unfold val at h
  split at h
  · cases h
  · exact Option.some.inj h

/-- The greater, the less of two. -/
def fmax (x y : Option Nat) : Option Nat := x.bind fun a => y.bind fun b => match Ieee.double.order a b with
  | none => none | some .lt => some b | some .gt => some a | some .eq => some (if (Ieee.double.read a).neg then b else a)
def fmin (x y : Option Nat) : Option Nat := x.bind fun a => y.bind fun b => match Ieee.double.order a b with
  | none => none | some .lt => some a | some .gt => some b | some .eq => some (if (Ieee.double.read a).neg then a else b)

theorem order_nan {a b : Nat} (h : Ieee.double.order a b = none) : nanB a = true ∨ nanB b = true := by
  rw [← read_nan, ← read_nan]
  unfold Ieee.Format.order at h
  cases ha : Ieee.double.read a <;> cases hb : Ieee.double.read b <;> rw [ha, hb] at h <;> simp [Ieee.Datum.order] at h <;> simp [Ieee.Datum.isNaN]

theorem order_some {a b : Nat} {o : Ordering} (h : Ieee.double.order a b = some o) : nanB a = false ∧ nanB b = false := by
  rw [← read_nan, ← read_nan]
  unfold Ieee.Format.order at h
  cases ha : Ieee.double.read a <;> cases hb : Ieee.double.read b <;> rw [ha, hb] at h <;> simp [Ieee.Datum.order] at h <;> simp [Ieee.Datum.isNaN]

theorem minmax_cut (g : Bool) (x y t : Nat) : nanB (Question.cut (.nanMinMax .f64 g x y) t) = true ∧ IsW (Question.cut (.nanMinMax .f64 g x y) t) := by
  unfold Question.cut nanB IsW
  simp only [decide_eq_true_eq]
  have h1 : t % 2 < 2 := Nat.mod_lt _ (by omega)
  have h2 : t / 2 % (2 ^ 52 - 1) < 2 ^ 52 - 1 := Nat.mod_lt _ (by decide)
  generalize t % 2 = u at *
  generalize t / 2 % (2 ^ 52 - 1) = v at *
  omega

theorem fmax_none {a b : Nat} (h : Ieee.double.order a b = none) : fmax (val a) (val b) = none := by
  rcases order_nan h with h | h
  · simp [fmax, val_none h]
  · cases ha : val a <;> simp [fmax, val_none h]

theorem fmin_none {a b : Nat} (h : Ieee.double.order a b = none) : fmin (val a) (val b) = none := by
  rcases order_nan h with h | h
  · simp [fmin, val_none h]
  · cases ha : val a <;> simp [fmin, val_none h]

theorem run_fmax {P : Program} (w : World) (ts : Array TypeId) (t : TypeId) (p q : Nat) (hp : IsW p) (hq : IsW q) :
    ∃ r n, (Builtin.max_ ts t #[.float .f64 p, .float .f64 q]).run P w = .ok (.float .f64 r) (w.drewN n) ∧ val r = fmax (val p) (val q) ∧ IsW r := by
  have hb : Builtin.max_ ts t #[.float .f64 p, .float .f64 q] = Builtin.max2 (.float .f64 p) (.float .f64 q) := by
    simp [Builtin.max_]
  rw [hb]
  cases h : Ieee.double.order p q with
  | none =>
    have hn := minmax_cut true p q (w.tape w.drawn (.nanMinMax .f64 true p q))
    refine ⟨_, 1, ?_, ?_, hn.2⟩
    · have h' : FloatKind.f64.format.order p q = none := h
      simp [Builtin.max2, h', Question.forced]; rfl
    · rw [val_none hn.1, fmax_none h]
  | some o =>
    have h' : FloatKind.f64.format.order p q = some o := h
    obtain ⟨h1, h2⟩ := order_some h
    cases o with
    | lt => exact ⟨q, 0, by simp [Builtin.max2, h']; rfl, by simp [fmax, val_some h1, val_some h2, h], hq⟩
    | gt => exact ⟨p, 0, by simp [Builtin.max2, h']; rfl, by simp [fmax, val_some h1, val_some h2, h], hp⟩
    | eq =>
      refine ⟨if (Ieee.double.read p).neg then q else p, 0, by simp [Builtin.max2, h']; exact ⟨rfl, rfl⟩, ?_, by split <;> assumption⟩
      simp only [fmax, val_some h1, val_some h2, h, Option.bind_some]
      split
      · rw [val_some h2]
      · rw [val_some h1]

theorem run_fmin {P : Program} (w : World) (ts : Array TypeId) (t : TypeId) (p q : Nat) (hp : IsW p) (hq : IsW q) :
    ∃ r n, (Builtin.min_ ts t #[.float .f64 p, .float .f64 q]).run P w = .ok (.float .f64 r) (w.drewN n) ∧ val r = fmin (val p) (val q) ∧ IsW r := by
  have hb : Builtin.min_ ts t #[.float .f64 p, .float .f64 q] = Builtin.min2 (.float .f64 p) (.float .f64 q) := by
    simp [Builtin.min_]
  rw [hb]
  cases h : Ieee.double.order p q with
  | none =>
    have hn := minmax_cut false p q (w.tape w.drawn (.nanMinMax .f64 false p q))
    refine ⟨_, 1, ?_, ?_, hn.2⟩
    · have h' : FloatKind.f64.format.order p q = none := h
      simp [Builtin.min2, h', Question.forced]; rfl
    · rw [val_none hn.1, fmin_none h]
  | some o =>
    have h' : FloatKind.f64.format.order p q = some o := h
    obtain ⟨h1, h2⟩ := order_some h
    cases o with
    | lt => exact ⟨p, 0, by simp [Builtin.min2, h']; rfl, by simp [fmin, val_some h1, val_some h2, h], hp⟩
    | gt => exact ⟨q, 0, by simp [Builtin.min2, h']; rfl, by simp [fmin, val_some h1, val_some h2, h], hq⟩
    | eq =>
      refine ⟨if (Ieee.double.read p).neg then p else q, 0, by simp [Builtin.min2, h']; exact ⟨rfl, rfl⟩, ?_, by split <;> assumption⟩
      simp only [fmin, val_some h1, val_some h2, h, Option.bind_some]
      split
      · rw [val_some h1]
      · rw [val_some h2]

/-- The root. -/
def fsqrt (x : Option Nat) : Option Nat := x.bind fun a => Ieee.double.sqrt a

theorem run_fsqrt {P : Program} (w : World) (p : Nat) :
    ∃ r n, (Extern.MathSqrt.sqrt #[.float .f64 p]).run P w = .ok (.float .f64 r) (w.drewN n) ∧ val r = fsqrt (val p) ∧ IsW r := by
  have hbody : Extern.MathSqrt.sqrt #[.float .f64 p] = (match FloatKind.f64.format.sqrt p with
    | some r => pure (.float .f64 r)
    | none => do pure (.float .f64 (← choose (.nanBits .f64 p p)))) := rfl
  rw [hbody]
  cases h : FloatKind.f64.format.sqrt p with
  | some r =>
    obtain ⟨d, hd, rfl⟩ := Option.map_eq_some_iff.1 (show ((Ieee.double.read p).root _).map Ieee.double.write = some r from h)
    obtain ⟨h1, h2⟩ := root_nan hd
    rw [read_nan] at h1
    have hw := write_not_nan d h2
    refine ⟨_, 0, rfl, ?_, hw.2⟩
    rw [val_some h1, val_some hw.1]
    exact h.symm
  | none =>
    have hn := nan_cut p p (w.tape w.drawn (.nanBits .f64 p p))
    refine ⟨_, 1, by simp [Question.forced]; rfl, ?_, hn.2⟩
    rw [val_none hn.1]
    cases hp : nanB p
    · rw [val_some hp]; exact h.symm
    · rw [val_none hp]; rfl

section
variable {P : Program} {o : Oper} {a : Act} {K : Act → World → Prop} {Q : Exit → Act → World → Prop} {w : World}
theorem upon_fmax {ts : Array TypeId} {t : TypeId} {p q : Nat} (hp : IsW p) (hq : IsW q) (h : ∀ r n, val r = fmax (val p) (val q) → IsW r → K (a.put o.dst (.float .f64 r)) (w.drewN n)) :
    Oper.upon P o a K Q ((Sem.run P (Builtin.max_ ts t #[.float .f64 p, .float .f64 q]) w).andThen fun x w' => .ok (.value x) w') := by
  obtain ⟨r, n, hr, hv, hl⟩ := run_fmax (P := P) w ts t p q hp hq
  rw [hr]
  exact h r n hv hl
theorem upon_fmin {ts : Array TypeId} {t : TypeId} {p q : Nat} (hp : IsW p) (hq : IsW q) (h : ∀ r n, val r = fmin (val p) (val q) → IsW r → K (a.put o.dst (.float .f64 r)) (w.drewN n)) :
    Oper.upon P o a K Q ((Sem.run P (Builtin.min_ ts t #[.float .f64 p, .float .f64 q]) w).andThen fun x w' => .ok (.value x) w') := by
  obtain ⟨r, n, hr, hv, hl⟩ := run_fmin (P := P) w ts t p q hp hq
  rw [hr]
  exact h r n hv hl
end

/-- The sign turned; the sign struck; a whole number's real. -/
def negB (b : Nat) : Nat := b ^^^ 9223372036854775808
def fneg (x : Option Nat) : Option Nat := x.map negB
def sizeB (b : Nat) : Nat := b % 9223372036854775808
def fsize (x : Option Nat) : Option Nat := x.map sizeB
def ofInt (n : Int) : Nat := floatOfInt .f64 n

theorem negB_mod (b : Nat) : negB b % 9223372036854775808 = b % 9223372036854775808 := by
  unfold negB
  have h := Nat.xor_mod_two_pow (a := b) (b := 9223372036854775808) (n := 63)
  have e : (2 : Nat) ^ 63 = 9223372036854775808 := by decide
  rw [e] at h
  rw [h]
  simp

theorem nanB_neg (b : Nat) : nanB (negB b) = nanB b := by unfold nanB; rw [negB_mod]
theorem val_neg (b : Nat) : val (negB b) = fneg (val b) := by
  cases h : nanB b
  · rw [val_some h, val_some (by rw [nanB_neg]; exact h)]; rfl
  · rw [val_none h, val_none (by rw [nanB_neg]; exact h)]; rfl
theorem nanB_size (b : Nat) : nanB (sizeB b) = nanB b := by unfold nanB sizeB; rw [Nat.mod_mod]
theorem val_size (b : Nat) : val (sizeB b) = fsize (val b) := by
  cases h : nanB b
  · rw [val_some h, val_some (by rw [nanB_size]; exact h)]; rfl
  · rw [val_none h, val_none (by rw [nanB_size]; exact h)]; rfl
theorem isW_neg {b : Nat} (h : IsW b) : IsW (negB b) := by
  unfold IsW negB at *
  exact Nat.xor_lt_two_pow (n := 64) h (by decide)
theorem isW_size (b : Nat) : IsW (sizeB b) := by unfold IsW sizeB; omega
theorem isW_ofInt (n : Int) : IsW (ofInt n) := by
  have h := floatOfInt_wf .f64 n
  unfold ofInt IsW
  simpa [Lit.wf] using h

@[go_sem high] theorem run_fneg (b : Nat) : Op.unary .neg (.float .f64 b) = pure (.float .f64 (negB b)) := rfl

theorem isW_lit_mod {b : Nat} (h : IsW b) : b % 18446744073709551616 = b := Nat.mod_eq_of_lt h

/-- 'u &^ (1 << 63)', 'u ^ 1<<63' of a word. -/
@[go_sem high] theorem intBits_clear (x : Nat) : Op.intBits .andNot .u64 (x : Int) 9223372036854775808 = pure (.int .u64 (sizeB x : Nat)) := by
  rw [intBits_andNot]
  have h : bits .andNot .u64 (x : Int) 9223372036854775808 = (sizeB x : Nat) := by
    show IntKind.u64.wrap ((BitVec.ofInt 64 (x : Int) &&& ~~~ (BitVec.ofInt 64 9223372036854775808)).toNat : Int) = _
    have e : (~~~ (BitVec.ofInt 64 9223372036854775808)).toNat = 2 ^ 63 - 1 := by decide
    rw [BitVec.toNat_and, e, Nat.and_two_pow_sub_one_eq_mod, BitVec.ofInt_natCast, BitVec.toNat_ofNat, IntKind.wrap_u64]
    unfold sizeB
    omega
  rw [h]

theorem intBits_turn (x : Nat) (hx : IsW x) : Op.intBits .xor .u64 (x : Int) 9223372036854775808 = pure (.int .u64 (negB x : Nat)) := by
  rw [intBits_xor]
  have h : bits .xor .u64 (x : Int) 9223372036854775808 = (negB x : Nat) := by
    show IntKind.u64.wrap ((BitVec.ofInt 64 (x : Int) ^^^ (BitVec.ofInt 64 9223372036854775808)).toNat : Int) = _
    have e : (BitVec.ofInt 64 9223372036854775808).toNat = 9223372036854775808 := by decide
    have hn := isW_neg hx
    unfold IsW at hn hx
    unfold negB at hn ⊢
    rw [BitVec.toNat_xor, BitVec.ofInt_natCast, BitVec.toNat_ofNat, e, Nat.mod_eq_of_lt hx, IntKind.wrap_u64]
    omega
  rw [h]

end Go.Proofs.YtfalbdlfopfgcaaGreatDoor

