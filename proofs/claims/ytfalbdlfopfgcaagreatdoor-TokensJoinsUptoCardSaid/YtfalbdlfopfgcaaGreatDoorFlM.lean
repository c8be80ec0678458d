/- Real numbers of 64 bits as the model has them: 'val' forgets which NaN a NaN is; each operation on values; the laws by which a walk takes the four operations, whatever NaN is drawn. No condition. Slices as lists: what a walk is told of a slice that it reads, and of one that the call itself makes. No condition. What the functions on complex numbers compute, on values (all NaNs being one). Plain functions; no program, no condition. What this program's own tables say: the functions without a body that are met, the types of the slices. No condition. Rows of structs: an element of several cells is appended. No condition. The words of a line, as a row of places: what program and reference compute. No program, no condition. The slow decimal of internal/strconv, plainly: digits as a list; a shift to the right is a long division. No program; no condition. -/
import Derived.WalkKit
import Derived.WalkSpells
import Derived.WalkLawsBesides
import Derived.Deep.Draws
import Derived.Deep.QuietTactic
import Derived.BigQuiet
import Derived.Test.YtfalbdlfopfgcaaGreatDoorRows
namespace Go.Proofs.YtfalbdlfopfgcaaGreatDoor
open Go.RowKit

/-- Is a word of 64 bits a NaN? -/
def nanB (b : Nat) : Bool := decide (9218868437227405312 < b % 9223372036854775808)

/-- Has a word 64 bits? (A definition, so that no walk counts its bound up.) -/
def IsW (b : Nat) : Prop := b < 18446744073709551616

/-- What a word stands for, all NaNs being one. -/
def val (b : Nat) : Option Nat := if nanB b then none else some b

theorem read_nan (b : Nat) : (Ieee.double.read b).isNaN = nanB b := by
  have h1 : Ieee.double.signWeight = 9223372036854775808 := by decide +kernel
  have h2 : Ieee.double.binade = 4503599627370496 := by decide +kernel
  have h3 : Ieee.double.infRung = 9218868437227405312 := by decide +kernel
  unfold Ieee.Format.read nanB
  simp only [h1, h2, h3]
  split
  · rename_i h; simp [Ieee.Datum.isNaN]; omega
  · split
    · simp [Ieee.Datum.isNaN]; omega
    · split
      · simp [Ieee.Datum.isNaN]; omega
      · simp [Ieee.Datum.isNaN]; omega

theorem write_not_nan (d : Ieee.Datum) (h : d.isNaN = false) : nanB (Ieee.double.write d) = false ∧ Ieee.double.write d < 18446744073709551616 := by
  have h1 : Ieee.double.signWeight = 9223372036854775808 := by decide +kernel
  have h3 : Ieee.double.infRung = 9218868437227405312 := by decide +kernel
  have hw : ∀ (neg : Bool) (r : Nat), r ≤ 9218868437227405312 → nanB (Ieee.double.word neg r) = false ∧ Ieee.double.word neg r < 18446744073709551616 := by
    intro neg r hr
    unfold Ieee.Format.word nanB
    simp only [h1]
    cases neg <;> simp <;> omega
  cases d with
  | nan s t => simp [Ieee.Datum.isNaN] at h
  | infinity s => exact hw s _ (by rw [h3]; exact Nat.le_refl _)
  | number s m e =>
    show nanB (Ieee.double.nearest s m e) = false ∧ Ieee.double.nearest s m e < _
    unfold Ieee.Format.nearest
    dsimp only
    split
    · exact hw s 0 (by omega)
    · exact hw s _ (by rw [h3]; exact Nat.min_le_right _ _)

theorem sum_nan {x y d : Ieee.Datum} (h : x.sum y = some d) : x.isNaN = false ∧ y.isNaN = false ∧ d.isNaN = false := by
  cases x <;> cases y <;> simp [Ieee.Datum.sum, Ieee.Datum.isNaN] at h ⊢
  all_goals first | (subst h; simp; done) | (obtain ⟨_, rfl⟩ := h; simp)

theorem product_nan {x y d : Ieee.Datum} (h : x.product y = some d) : x.isNaN = false ∧ y.isNaN = false ∧ d.isNaN = false := by
  cases x <;> cases y <;> simp [Ieee.Datum.product, Ieee.Datum.isNaN] at h ⊢
  all_goals first | (subst h; simp; done) | (obtain ⟨_, rfl⟩ := h; simp)

theorem quotient_nan {k : Nat} {x y d : Ieee.Datum} (h : x.quotient k y = some d) : x.isNaN = false ∧ y.isNaN = false ∧ d.isNaN = false := by
  cases x with
  | nan => simp [Ieee.Datum.quotient] at h
  | infinity s =>
    cases y with
    | nan => simp [Ieee.Datum.quotient] at h
    | infinity t => simp [Ieee.Datum.quotient] at h
    | number t n j => simp [Ieee.Datum.quotient] at h; subst h; simp [Ieee.Datum.isNaN]
  | number s m i =>
    cases y with
    | nan => simp [Ieee.Datum.quotient] at h
    | infinity t => simp [Ieee.Datum.quotient] at h; subst h; simp [Ieee.Datum.isNaN]
    | number t n j =>
      refine ⟨rfl, rfl, ?_⟩
      by_cases hn : n = 0
      · by_cases hm : m = 0
        · simp [Ieee.Datum.quotient, hn, hm] at h
        · simp [Ieee.Datum.quotient, hn, hm] at h; subst h; rfl
      · simp [Ieee.Datum.quotient, hn] at h; subst h; rfl

theorem opposite_nan (d : Ieee.Datum) : d.opposite.isNaN = d.isNaN := by cases d <;> rfl

theorem root_nan {k : Nat} {x d : Ieee.Datum} (h : x.root k = some d) : x.isNaN = false ∧ d.isNaN = false := by
  cases x with
  | nan => simp [Ieee.Datum.root] at h
  | infinity s => simp [Ieee.Datum.root] at h; obtain ⟨_, rfl⟩ := h; simp [Ieee.Datum.isNaN]
  | number s m i =>
    refine ⟨rfl, ?_⟩
    unfold Ieee.Datum.root at h
    dsimp only at h
    split at h
    · cases h; rfl
    · split at h
      · cases h
      · cases h; rfl

def isArith (op : BinOp) : Bool := op matches .add | .sub | .mul | .quo

theorem floatBits_parts {op : BinOp} {a b r : Nat} (h : floatBits op .f64 a b = some r) : nanB a = false ∧ nanB b = false ∧ nanB r = false ∧ r < 18446744073709551616 := by
  unfold floatBits at h
  cases op <;> simp only at h <;> try (cases h; done)
  · obtain ⟨d, hd, rfl⟩ := Option.map_eq_some_iff.1 (show ((Ieee.double.read a).sum (Ieee.double.read b)).map Ieee.double.write = some r from h)
    obtain ⟨h1, h2, h3⟩ := sum_nan hd
    rw [read_nan] at h1 h2
    exact ⟨h1, h2, write_not_nan d h3⟩
  · obtain ⟨d, hd, rfl⟩ := Option.map_eq_some_iff.1 (show ((Ieee.double.read a).sum (Ieee.double.read b).opposite).map Ieee.double.write = some r from h)
    obtain ⟨h1, h2, h3⟩ := sum_nan hd
    rw [opposite_nan] at h2
    rw [read_nan] at h1 h2
    exact ⟨h1, h2, write_not_nan d h3⟩
  · obtain ⟨d, hd, rfl⟩ := Option.map_eq_some_iff.1 (show ((Ieee.double.read a).product (Ieee.double.read b)).map Ieee.double.write = some r from h)
    obtain ⟨h1, h2, h3⟩ := product_nan hd
    rw [read_nan] at h1 h2
    exact ⟨h1, h2, write_not_nan d h3⟩
  · obtain ⟨d, hd, rfl⟩ := Option.map_eq_some_iff.1 (show ((Ieee.double.read a).quotient _ (Ieee.double.read b)).map Ieee.double.write = some r from h)
    obtain ⟨h1, h2, h3⟩ := quotient_nan hd
    rw [read_nan] at h1 h2
    exact ⟨h1, h2, write_not_nan d h3⟩

/-- An operation on values. -/
def fop (op : BinOp) (x y : Option Nat) : Option Nat := x.bind fun a => y.bind fun b => floatBits op .f64 a b
def fadd (x y : Option Nat) : Option Nat := fop .add x y
def fsub (x y : Option Nat) : Option Nat := fop .sub x y
def fmul (x y : Option Nat) : Option Nat := fop .mul x y
def fdiv (x y : Option Nat) : Option Nat := fop .quo x y

theorem val_some {b : Nat} (h : nanB b = false) : val b = some b := by simp [val, h]
theorem val_none {b : Nat} (h : nanB b = true) : val b = none := by simp [val, h]

theorem val_fop (op : BinOp) (a b : Nat) : fop op (val a) (val b) = floatBits op .f64 a b := by
  cases ha : nanB a
  · cases hb : nanB b
    · simp [fop, val_some ha, val_some hb]
    · simp only [fop, val_some ha, val_none hb, Option.bind_some, Option.bind_none]
      cases h : floatBits op .f64 a b with
      | none => rfl
      | some r => rw [(floatBits_parts h).2.1] at hb; cases hb
  · simp only [fop, val_none ha, Option.bind_none]
    cases h : floatBits op .f64 a b with
    | none => rfl
    | some r => rw [(floatBits_parts h).1] at ha; cases ha

/-- The answer that the tape gives where a NaN's bits are asked for: a NaN. -/
theorem nan_cut (x y t : Nat) : nanB (Question.cut (.nanBits .f64 x y) t) = true ∧ Question.cut (.nanBits .f64 x y) t < 18446744073709551616 := by
  unfold Question.cut nanB
  simp only [decide_eq_true_eq]
  have h1 : t % 2 < 2 := Nat.mod_lt _ (by omega)
  have h2 : t / 2 % (2 ^ 52 - 1) < 2 ^ 52 - 1 := Nat.mod_lt _ (by decide)
  generalize t % 2 = u at *
  generalize t / 2 % (2 ^ 52 - 1) = v at *
  omega

theorem run_fop {P : Program} (w : World) (op : BinOp) (hop : isArith op = true) (t : TypeId) (p q : Nat) :
    ∃ r n, (binOp op t (.float .f64 p) (.float .f64 q)).run P w = .ok (.float .f64 r) (w.drewN n) ∧ val r = fop op (val p) (val q) ∧ IsW r := by
  rw [val_fop]
  cases h : floatBits op .f64 p q with
  | some r =>
    obtain ⟨_, _, h3, h4⟩ := floatBits_parts h
    exact ⟨r, 0, run_float_arith w op t .f64 p q r h, val_some h3, h4⟩
  | none =>
    have hn := nan_cut p q (w.tape w.drawn (.nanBits .f64 p q))
    refine ⟨_, 1, ?_, val_none hn.1, hn.2⟩
    unfold floatBits at h
    cases op <;> simp [isArith] at hop <;> simp only at h <;> simp [binOp, Op.floatArith, h, Question.forced] <;> rfl

section
variable {P : Program} {o : Oper} {a : Act} {K : Act → World → Prop} {Q : Exit → Act → World → Prop} {w : World}
theorem upon_fop (op : BinOp) (hop : isArith op = true) (t : TypeId) (p q : Nat)
    (h : ∀ r n, val r = fop op (val p) (val q) → IsW r → K (a.put o.dst (.float .f64 r)) (w.drewN n)) :
    Oper.upon P o a K Q ((Sem.run P (binOp op t (.float .f64 p) (.float .f64 q)) w).andThen fun x w' => .ok (.value x) w') := by
  obtain ⟨r, n, hr, hv, hl⟩ := run_fop (P := P) w op hop t p q
  rw [hr]
  exact h r n hv hl
theorem upon_fadd {t : TypeId} {p q : Nat} (h : ∀ r n, val r = fadd (val p) (val q) → IsW r → K (a.put o.dst (.float .f64 r)) (w.drewN n)) :
    Oper.upon P o a K Q ((Sem.run P (binOp .add t (.float .f64 p) (.float .f64 q)) w).andThen fun x w' => .ok (.value x) w') := upon_fop .add rfl t p q h
theorem upon_fsub {t : TypeId} {p q : Nat} (h : ∀ r n, val r = fsub (val p) (val q) → IsW r → K (a.put o.dst (.float .f64 r)) (w.drewN n)) :
    Oper.upon P o a K Q ((Sem.run P (binOp .sub t (.float .f64 p) (.float .f64 q)) w).andThen fun x w' => .ok (.value x) w') := upon_fop .sub rfl t p q h
theorem upon_fmul {t : TypeId} {p q : Nat} (h : ∀ r n, val r = fmul (val p) (val q) → IsW r → K (a.put o.dst (.float .f64 r)) (w.drewN n)) :
    Oper.upon P o a K Q ((Sem.run P (binOp .mul t (.float .f64 p) (.float .f64 q)) w).andThen fun x w' => .ok (.value x) w') := upon_fop .mul rfl t p q h
theorem upon_fdiv {t : TypeId} {p q : Nat} (h : ∀ r n, val r = fdiv (val p) (val q) → IsW r → K (a.put o.dst (.float .f64 r)) (w.drewN n)) :
    Oper.upon P o a K Q ((Sem.run P (binOp .quo t (.float .f64 p) (.float .f64 q)) w).andThen fun x w' => .ok (.value x) w') := upon_fop .quo rfl t p q h
end

/-- How two values stand to each other. -/
def ford (x y : Option Nat) : Option Ordering := x.bind fun a => y.bind fun b => Ieee.double.order a b
def feq (x y : Option Nat) : Bool := ford x y == some .eq
def flt (x y : Option Nat) : Bool := ford x y == some .lt
def fle (x y : Option Nat) : Bool := ford x y == some .lt || ford x y == some .eq

theorem val_ford (a b : Nat) : ford (val a) (val b) = FloatKind.f64.format.order a b := by
  show ford (val a) (val b) = (Ieee.double.read a).order (Ieee.double.read b)
  have hn := read_nan a
  have hm := read_nan b
  cases ha : nanB a
  · cases hb : nanB b
    · simp [ford, val_some ha, val_some hb]; rfl
    · simp only [ford, val_some ha, val_none hb, Option.bind_some, Option.bind_none]
      rw [hb] at hm
      generalize Ieee.double.read b = y at *
      cases y <;> simp [Ieee.Datum.isNaN] at hm
      cases Ieee.double.read a <;> rfl
  · simp only [ford, val_none ha, Option.bind_none]
    rw [ha] at hn
    generalize Ieee.double.read a = y at *
    cases y <;> simp [Ieee.Datum.isNaN] at hn
    rfl

theorem order_swap (a b : Ieee.Datum) : a.order b = (b.order a).map Ordering.swap := by
  cases a <;> cases b <;> simp [Ieee.Datum.order]
  · rename_i s m i t n j
    rw [Int.min_comm]
    generalize Ieee.signed s m (i - min j i).toNat = u
    generalize Ieee.signed t n (j - min j i).toNat = v
    show compare u v = (compare v u).swap
    exact (Int.compare_swap v u).symm
  · split <;> rfl
  · split <;> rfl
  · rename_i s t
    cases s <;> cases t <;> rfl

theorem ford_swap (x y : Option Nat) : ford x y = (ford y x).map Ordering.swap := by
  cases x <;> cases y <;> simp [ford]
  exact order_swap _ _

@[go_sem high] theorem bin_feq (t : TypeId) (a b : Nat) : binOp .eql t (.float .f64 a) (.float .f64 b) = pure (.bool (feq (val a) (val b))) := by
  rw [binOp_float_cmp_eql, feq, val_ford]
@[go_sem high] theorem bin_fne (t : TypeId) (a b : Nat) : binOp .neq t (.float .f64 a) (.float .f64 b) = pure (.bool (!feq (val a) (val b))) := by
  rw [binOp_float_cmp_neq, feq, val_ford]; rfl
@[go_sem high] theorem bin_flt (t : TypeId) (a b : Nat) : binOp .lss t (.float .f64 a) (.float .f64 b) = pure (.bool (flt (val a) (val b))) := by
  rw [binOp_float_cmp_lss, flt, val_ford]
@[go_sem high] theorem bin_fle (t : TypeId) (a b : Nat) : binOp .leq t (.float .f64 a) (.float .f64 b) = pure (.bool (fle (val a) (val b))) := by
  rw [binOp_float_cmp_leq, fle, val_ford]
@[go_sem high] theorem bin_fgt (t : TypeId) (a b : Nat) : binOp .gtr t (.float .f64 a) (.float .f64 b) = pure (.bool (flt (val b) (val a))) := by
  rw [binOp_float_cmp_gtr, flt, ford_swap, val_ford]
  cases FloatKind.f64.format.order a b with
  | none => rfl
  | some o => cases o <;> rfl
@[go_sem high] theorem bin_fge (t : TypeId) (a b : Nat) : binOp .geq t (.float .f64 a) (.float .f64 b) = pure (.bool (fle (val b) (val a))) := by
  rw [binOp_float_cmp_geq, fle, ford_swap, val_ford]
  cases FloatKind.f64.format.order a b with
  | none => rfl
  | some o => cases o <;> rfl
@[go_sem high] theorem run_ceq {P : Program} (w : World) (t : TypeId) (a b c d : Nat) : (binOp .eql t (.complex .f64 a b) (.complex .f64 c d)).run P w = .ok (.bool (feq (val a) (val c) && feq (val b) (val d))) w := by
  rw [run_eql_complex, feq, feq, val_ford, val_ford]
@[go_sem high] theorem run_cne {P : Program} (w : World) (t : TypeId) (a b c d : Nat) : (binOp .neq t (.complex .f64 a b) (.complex .f64 c d)).run P w = .ok (.bool (!(feq (val a) (val c) && feq (val b) (val d)))) w := by
  rw [run_neq_complex, feq, feq, val_ford, val_ford]

theorem isW_0 : IsW 0 := by unfold IsW; omega
theorem isW_inf : IsW 9218868437227405312 := by unfold IsW; omega
theorem val_inj {r c : Nat} (h : val r = some c) : r = c := by
  unfold val at h
  split at h
  · cases h
  · exact Option.some.inj h

/-- The greater, the less of two. -/
def fmax (x y : Option Nat) : Option Nat := x.bind fun a => y.bind fun b => match Ieee.double.order a b with
  | none => none | some .lt => some b | some .gt => some a | some .eq => some (if (Ieee.double.read a).neg then b else a)
def fmin (x y : Option Nat) : Option Nat := x.bind fun a => y.bind fun b => match Ieee.double.order a b with
  | none => none | some .lt => some a | some .gt => some b | some .eq => some (if (Ieee.double.read a).neg then a else b)

theorem order_nan {a b : Nat} (h : Ieee.double.order a b = none) : nanB a = true ∨ nanB b = true := by
  rw [← read_nan, ← read_nan]
  unfold Ieee.Format.order at h
  cases ha : Ieee.double.read a <;> cases hb : Ieee.double.read b <;> rw [ha, hb] at h <;> simp [Ieee.Datum.order] at h <;> simp [Ieee.Datum.isNaN]

theorem order_some {a b : Nat} {o : Ordering} (h : Ieee.double.order a b = some o) : nanB a = false ∧ nanB b = false := by
  rw [← read_nan, ← read_nan]
  unfold Ieee.Format.order at h
  cases ha : Ieee.double.read a <;> cases hb : Ieee.double.read b <;> rw [ha, hb] at h <;> simp [Ieee.Datum.order] at h <;> simp [Ieee.Datum.isNaN]

theorem minmax_cut (g : Bool) (x y t : Nat) : nanB (Question.cut (.nanMinMax .f64 g x y) t) = true ∧ IsW (Question.cut (.nanMinMax .f64 g x y) t) := by
  unfold Question.cut nanB IsW
  simp only [decide_eq_true_eq]
  have h1 : t % 2 < 2 := Nat.mod_lt _ (by omega)
  have h2 : t / 2 % (2 ^ 52 - 1) < 2 ^ 52 - 1 := Nat.mod_lt _ (by decide)
  generalize t % 2 = u at *
  generalize t / 2 % (2 ^ 52 - 1) = v at *
  omega

theorem fmax_none {a b : Nat} (h : Ieee.double.order a b = none) : fmax (val a) (val b) = none := by
  rcases order_nan h with h | h
  · simp [fmax, val_none h]
  · cases ha : val a <;> simp [fmax, val_none h]

theorem fmin_none {a b : Nat} (h : Ieee.double.order a b = none) : fmin (val a) (val b) = none := by
  rcases order_nan h with h | h
  · simp [fmin, val_none h]
  · cases ha : val a <;> simp [fmin, val_none h]

theorem run_fmax {P : Program} (w : World) (ts : Array TypeId) (t : TypeId) (p q : Nat) (hp : IsW p) (hq : IsW q) :
    ∃ r n, (Builtin.max_ ts t #[.float .f64 p, .float .f64 q]).run P w = .ok (.float .f64 r) (w.drewN n) ∧ val r = fmax (val p) (val q) ∧ IsW r := by
  have hb : Builtin.max_ ts t #[.float .f64 p, .float .f64 q] = Builtin.max2 (.float .f64 p) (.float .f64 q) := by
    simp [Builtin.max_]
  rw [hb]
  cases h : Ieee.double.order p q with
  | none =>
    have hn := minmax_cut true p q (w.tape w.drawn (.nanMinMax .f64 true p q))
    refine ⟨_, 1, ?_, ?_, hn.2⟩
    · have h' : FloatKind.f64.format.order p q = none := h
      simp [Builtin.max2, h', Question.forced]; rfl
    · rw [val_none hn.1, fmax_none h]
  | some o =>
    have h' : FloatKind.f64.format.order p q = some o := h
    obtain ⟨h1, h2⟩ := order_some h
    cases o with
    | lt => exact ⟨q, 0, by simp [Builtin.max2, h']; rfl, by simp [fmax, val_some h1, val_some h2, h], hq⟩
    | gt => exact ⟨p, 0, by simp [Builtin.max2, h']; rfl, by simp [fmax, val_some h1, val_some h2, h], hp⟩
    | eq =>
      refine ⟨if (Ieee.double.read p).neg then q else p, 0, by simp [Builtin.max2, h']; exact ⟨rfl, rfl⟩, ?_, by split <;> assumption⟩
      simp only [fmax, val_some h1, val_some h2, h, Option.bind_some]
      split
      · rw [val_some h2]
      · rw [val_some h1]

theorem run_fmin {P : Program} (w : World) (ts : Array TypeId) (t : TypeId) (p q : Nat) (hp : IsW p) (hq : IsW q) :
    ∃ r n, (Builtin.min_ ts t #[.float .f64 p, .float .f64 q]).run P w = .ok (.float .f64 r) (w.drewN n) ∧ val r = fmin (val p) (val q) ∧ IsW r := by
  have hb : Builtin.min_ ts t #[.float .f64 p, .float .f64 q] = Builtin.min2 (.float .f64 p) (.float .f64 q) := by
    simp [Builtin.min_]
  rw [hb]
  cases h : Ieee.double.order p q with
  | none =>
    have hn := minmax_cut false p q (w.tape w.drawn (.nanMinMax .f64 false p q))
    refine ⟨_, 1, ?_, ?_, hn.2⟩
    · have h' : FloatKind.f64.format.order p q = none := h
      simp [Builtin.min2, h', Question.forced]; rfl
    · rw [val_none hn.1, fmin_none h]
  | some o =>
    have h' : FloatKind.f64.format.order p q = some o := h
    obtain ⟨h1, h2⟩ := order_some h
    cases o with
    | lt => exact ⟨p, 0, by simp [Builtin.min2, h']; rfl, by simp [fmin, val_some h1, val_some h2, h], hp⟩
    | gt => exact ⟨q, 0, by simp [Builtin.min2, h']; rfl, by simp [fmin, val_some h1, val_some h2, h], hq⟩
    | eq =>
      refine ⟨if (Ieee.double.read p).neg then p else q, 0, by simp [Builtin.min2, h']; exact ⟨rfl, rfl⟩, ?_, by split <;> assumption⟩
      simp only [fmin, val_some h1, val_some h2, h, Option.bind_some]
      split
      · rw [val_some h1]
      · rw [val_some h2]

/-- The root. -/
def fsqrt (x : Option Nat) : Option Nat := x.bind fun a => Ieee.double.sqrt a

theorem run_fsqrt {P : Program} (w : World) (p : Nat) :
    ∃ r n, (Extern.MathSqrt.sqrt #[.float .f64 p]).run P w = .ok (.float .f64 r) (w.drewN n) ∧ val r = fsqrt (val p) ∧ IsW r := by
  have hbody : Extern.MathSqrt.sqrt #[.float .f64 p] = (match FloatKind.f64.format.sqrt p with
    | some r => pure (.float .f64 r)
    | none => do pure (.float .f64 (← choose (.nanBits .f64 p p)))) := rfl
  rw [hbody]
  cases h : FloatKind.f64.format.sqrt p with
  | some r =>
    obtain ⟨d, hd, rfl⟩ := Option.map_eq_some_iff.1 (show ((Ieee.double.read p).root _).map Ieee.double.write = some r from h)
    obtain ⟨h1, h2⟩ := root_nan hd
    rw [read_nan] at h1
    have hw := write_not_nan d h2
    refine ⟨_, 0, rfl, ?_, hw.2⟩
    rw [val_some h1, val_some hw.1]
    exact h.symm
  | none =>
    have hn := nan_cut p p (w.tape w.drawn (.nanBits .f64 p p))
    refine ⟨_, 1, by simp [Question.forced]; rfl, ?_, hn.2⟩
    rw [val_none hn.1]
    cases hp : nanB p
    · rw [val_some hp]; exact h.symm
    · rw [val_none hp]; rfl

section
variable {P : Program} {o : Oper} {a : Act} {K : Act → World → Prop} {Q : Exit → Act → World → Prop} {w : World}
theorem upon_fmax {ts : Array TypeId} {t : TypeId} {p q : Nat} (hp : IsW p) (hq : IsW q) (h : ∀ r n, val r = fmax (val p) (val q) → IsW r → K (a.put o.dst (.float .f64 r)) (w.drewN n)) :
    Oper.upon P o a K Q ((Sem.run P (Builtin.max_ ts t #[.float .f64 p, .float .f64 q]) w).andThen fun x w' => .ok (.value x) w') := by
  obtain ⟨r, n, hr, hv, hl⟩ := run_fmax (P := P) w ts t p q hp hq
  rw [hr]
  exact h r n hv hl
theorem upon_fmin {ts : Array TypeId} {t : TypeId} {p q : Nat} (hp : IsW p) (hq : IsW q) (h : ∀ r n, val r = fmin (val p) (val q) → IsW r → K (a.put o.dst (.float .f64 r)) (w.drewN n)) :
    Oper.upon P o a K Q ((Sem.run P (Builtin.min_ ts t #[.float .f64 p, .float .f64 q]) w).andThen fun x w' => .ok (.value x) w') := by
  obtain ⟨r, n, hr, hv, hl⟩ := run_fmin (P := P) w ts t p q hp hq
  rw [hr]
  exact h r n hv hl
end

/-- The sign turned; the sign struck; a whole number's real. -/
def negB (b : Nat) : Nat := b ^^^ 9223372036854775808
def fneg (x : Option Nat) : Option Nat := x.map negB
def sizeB (b : Nat) : Nat := b % 9223372036854775808
def fsize (x : Option Nat) : Option Nat := x.map sizeB
def ofInt (n : Int) : Nat := floatOfInt .f64 n

theorem negB_mod (b : Nat) : negB b % 9223372036854775808 = b % 9223372036854775808 := by
  unfold negB
  have h := Nat.xor_mod_two_pow (a := b) (b := 9223372036854775808) (n := 63)
  have e : (2 : Nat) ^ 63 = 9223372036854775808 := by decide
  rw [e] at h
  rw [h]
  simp

theorem nanB_neg (b : Nat) : nanB (negB b) = nanB b := by unfold nanB; rw [negB_mod]
theorem val_neg (b : Nat) : val (negB b) = fneg (val b) := by
  cases h : nanB b
  · rw [val_some h, val_some (by rw [nanB_neg]; exact h)]; rfl
  · rw [val_none h, val_none (by rw [nanB_neg]; exact h)]; rfl
theorem nanB_size (b : Nat) : nanB (sizeB b) = nanB b := by unfold nanB sizeB; rw [Nat.mod_mod]
theorem val_size (b : Nat) : val (sizeB b) = fsize (val b) := by
  cases h : nanB b
  · rw [val_some h, val_some (by rw [nanB_size]; exact h)]; rfl
  · rw [val_none h, val_none (by rw [nanB_size]; exact h)]; rfl
theorem isW_neg {b : Nat} (h : IsW b) : IsW (negB b) := by
  unfold IsW negB at *
  exact Nat.xor_lt_two_pow (n := 64) h (by decide)
theorem isW_size (b : Nat) : IsW (sizeB b) := by unfold IsW sizeB; omega
theorem isW_ofInt (n : Int) : IsW (ofInt n) := by
  have h := floatOfInt_wf .f64 n
  unfold ofInt IsW
  simpa [Lit.wf] using h

@[go_sem high] theorem run_fneg (b : Nat) : Op.unary .neg (.float .f64 b) = pure (.float .f64 (negB b)) := rfl

theorem isW_lit_mod {b : Nat} (h : IsW b) : b % 18446744073709551616 = b := Nat.mod_eq_of_lt h

/-- 'u &^ (1 << 63)', 'u ^ 1<<63' of a word. -/
@[go_sem high] theorem intBits_clear (x : Nat) : Op.intBits .andNot .u64 (x : Int) 9223372036854775808 = pure (.int .u64 (sizeB x : Nat)) := by
  rw [intBits_andNot]
  have h : bits .andNot .u64 (x : Int) 9223372036854775808 = (sizeB x : Nat) := by
    show IntKind.u64.wrap ((BitVec.ofInt 64 (x : Int) &&& ~~~ (BitVec.ofInt 64 9223372036854775808)).toNat : Int) = _
    have e : (~~~ (BitVec.ofInt 64 9223372036854775808)).toNat = 2 ^ 63 - 1 := by decide
    rw [BitVec.toNat_and, e, Nat.and_two_pow_sub_one_eq_mod, BitVec.ofInt_natCast, BitVec.toNat_ofNat, IntKind.wrap_u64]
    unfold sizeB
    omega
  rw [h]

theorem intBits_turn (x : Nat) (hx : IsW x) : Op.intBits .xor .u64 (x : Int) 9223372036854775808 = pure (.int .u64 (negB x : Nat)) := by
  rw [intBits_xor]
  have h : bits .xor .u64 (x : Int) 9223372036854775808 = (negB x : Nat) := by
    show IntKind.u64.wrap ((BitVec.ofInt 64 (x : Int) ^^^ (BitVec.ofInt 64 9223372036854775808)).toNat : Int) = _
    have e : (BitVec.ofInt 64 9223372036854775808).toNat = 9223372036854775808 := by decide
    have hn := isW_neg hx
    unfold IsW at hn hx
    unfold negB at hn ⊢
    rw [BitVec.toNat_xor, BitVec.ofInt_natCast, BitVec.toNat_ofNat, e, Nat.mod_eq_of_lt hx, IntKind.wrap_u64]
    omega
  rw [h]

end Go.Proofs.YtfalbdlfopfgcaaGreatDoor

namespace Go.Proofs.YtfalbdlfopfgcaaGreatDoor
open Go.RowKit

theorem hid {p : Prop} (h : p) : Hid p := h

/-- The slice at 'a' reads as xs, a cell an element. -/
def Row (w : World) (a : Option Addr) (xs : List Value) : Prop :=
  xs ≠ [] → ∃ b off, a = some ⟨b, off, none⟩ ∧ ∀ i x, xs[i]? = some x → w.cell? ⟨b, off + i, none⟩ = some x

theorem Row.nil (w : World) (a : Option Addr) : Row w a [] := fun h => absurd rfl h

theorem Row.at {w : World} {a : Option Addr} {xs : List Value} (h : Row w a xs) {k : Nat} {x : Value} (hx : xs[k]? = some x) :
    ∃ b off, a = some ⟨b, off, none⟩ ∧ ∀ i x, xs[i]? = some x → w.cell? ⟨b, off + i, none⟩ = some x :=
  h (by intro e; subst e; simp at hx)

theorem Row.below {w w' : World} {a : Option Addr} {xs : List Value} (h : Row w a xs) (hb : Below w.heap.size w w') : Row w' a xs := by
  intro hne
  obtain ⟨b, off, rfl, hc⟩ := h hne
  exact ⟨b, off, rfl, fun i x hx => by rw [hb.cell (World.block_lt_of_cell? _ _ (hc i x hx))]; exact hc i x hx⟩

theorem Row.drewN {w : World} {a : Option Addr} {xs : List Value} (h : Row w a xs) (n : Nat) : Row (w.drewN n) a xs := h

theorem Row.take {w : World} {a : Option Addr} {xs : List Value} (h : Row w a xs) (n : Nat) : Row w a (xs.take n) := by
  intro hne
  obtain ⟨b, off, rfl, hc⟩ := h (by intro e; subst e; simp at hne)
  refine ⟨b, off, rfl, fun i x hx => hc i x ?_⟩
  rw [List.getElem?_take] at hx
  split at hx
  · exact hx
  · cases hx

theorem Row.of_owns {w : World} {base e : Nat} {v : Value} {n : Nat} {xs : List Value} (h : w.ownsRow base e 1 v n xs) :
    ∃ a cap, v = .slice a n cap ∧ xs.length = n ∧ Row w a xs ∧ n ≤ cap ∧ (a = none ∨ ∃ g, a = some ⟨g, 0, none⟩ ∧ base ≤ g ∧ g < w.heap.size) := by
  have hl : xs.length = n := by simpa using h.1
  rcases h.2 with ⟨rfl, rfl⟩ | ⟨g, cap, cur, rfl, hb, hg, hnc, hcm, hcs, ht⟩
  · refine ⟨none, 0, rfl, hl, ?_, by omega, .inl rfl⟩
    obtain rfl : xs = [] := List.eq_nil_of_length_eq_zero hl
    exact Row.nil _ _
  · refine ⟨some ⟨g, 0, none⟩, cap, rfl, hl, fun _ => ⟨g, 0, rfl, fun i x hx => ?_⟩, hnc, .inr ⟨g, rfl, hb, (Array.getElem?_eq_some_iff.1 hg).1⟩⟩
    have hi : i < n * 1 := by
      have := (List.getElem?_eq_some_iff.1 hx).1
      omega
    rw [Nat.zero_add, World.ownsRow.cellAt h i hi]
    exact hx

theorem bcell {W w1 : World} (hb : Below W.heap.size W w1) : (∀ b o, b < W.heap.size → w1.cell? ⟨b, o, none⟩ = W.cell? ⟨b, o, none⟩) ∧ (∀ b o, b < W.heap.size → w1.frozen? ⟨b, o, none⟩ = W.frozen? ⟨b, o, none⟩) :=
  ⟨fun b o h => hb.cell (p := ⟨b, o, none⟩) h, fun b o h => hb.frozen (p := ⟨b, o, none⟩) h⟩

/-- A slice value that reads as xs. -/
def Sl (w : World) (v : Value) (xs : List Value) : Prop := ∃ a cap, v = .slice a xs.length cap ∧ Row w a xs ∧ (a = none → cap = 0) ∧ xs.length ≤ cap

theorem Sl.below {w w' : World} {v : Value} {xs : List Value} (h : Sl w v xs) (hb : Below w.heap.size w w') : Sl w' v xs := by
  obtain ⟨a, cap, rfl, hr, hc, hl⟩ := h
  exact ⟨a, cap, rfl, hr.below hb, hc, hl⟩
theorem Sl.drewN {w : World} {v : Value} {xs : List Value} (h : Sl w v xs) (n : Nat) : Sl (w.drewN n) v xs := h
theorem Sl.nil (w : World) : Sl w (.slice none 0 0) [] := ⟨none, 0, rfl, Row.nil _ _, fun _ => rfl, Nat.le_refl _⟩
theorem Sl.of_owns {w : World} {base e : Nat} {v : Value} {n : Nat} {xs : List Value} (h : w.ownsRow base e 1 v n xs) : Sl w v xs := by
  have h' := h
  obtain ⟨a, cap, rfl, hl, hr, hnc, _⟩ := Row.of_owns h
  refine ⟨a, cap, by rw [hl], hr, fun ha => ?_, by omega⟩
  subst ha
  rcases h'.2 with ⟨e, _⟩ | ⟨g, c, cur, e, _⟩
  · cases e; rfl
  · cases e
/-- The beginning of a slice: full[:k]. -/
theorem Sl.take {w : World} {a : Option Addr} {n cap : Nat} {xs : List Value} (h : Sl w (.slice a n cap) xs) {k : Nat} (hk : k ≤ n) : Sl w (.slice a k cap) (xs.take k) := by
  obtain ⟨a', cap', e, hr, hc, hl⟩ := h
  cases e
  exact ⟨a, cap, by rw [List.length_take, Nat.min_eq_left hk], hr.take k, hc, by rw [List.length_take]; omega⟩

theorem below_drewN' {B : Nat} {w w' : World} (h : Below B w w') (n : Nat) : Below B w (w'.drewN n) := h.trans ⟨rfl, rfl, rfl, Nat.le_refl _, fun _ _ => rfl⟩
theorem below_of_drewN {B : Nat} {w w' : World} {n : Nat} (h : Below B (w.drewN n) w') : Below B w w' := ⟨h.os, h.tape, h.output, h.size, h.block⟩
theorem owns_drewN {w : World} {base e size : Nat} {v : Value} {n : Nat} {xs : List Value} (h : w.ownsRow base e size v n xs) (k : Nat) : (w.drewN k).ownsRow base e size v n xs := h

/-- What the call owns stays owned behind a callee that leaves all that was there alone. -/
theorem owns_below {w w' : World} {base e size : Nat} {v : Value} {n : Nat} {xs : List Value} (h : w.ownsRow base e size v n xs) (hb : Below w.heap.size w w') : w'.ownsRow base e size v n xs := by
  refine ⟨h.1, ?_⟩
  rcases h.2 with h2 | ⟨g, cap, cur, rfl, hbg, hg, r⟩
  · exact .inl h2
  · exact .inr ⟨g, cap, cur, rfl, hbg, by rw [hb.block g (Array.getElem?_eq_some_iff.1 hg).1]; exact hg, r⟩

theorem cell_new (w : World) (u : Value) (e : Nat) : ∀ j x, [u][j]? = some x → (w.alloc (.cells #[u] e)).cell? ((⟨w.heap.size, 0, none⟩ : Addr).add j) = some x := by
  intro j x hx
  match j, hx with
  | 0, hx => simp at hx; subst hx; simp [Addr.add]

/-- 'out = append(out, u)': the next element, laid in a new block of one cell, is appended. -/
theorem wpList_app1 {P : Program} {ops : Array Oper} {rest : List Oper} {o : Oper} {a : Act} {Q : Exit → Act → World → Prop} {w0 : World} (hgd : o.guard = none) (s x : Operand) (t : TypeId)
    (ho : o.op = .call { callee := .builtin .append, args := #[s, x], argTypes := #[t, t] })
    (base : Nat) (e : TypeId) (z : Value) (bytes : Nat) (ht : P.underlying t = some (.slice e)) (hinfo : (P.info? e).map (fun i => (i.zero, i.size, i.bytes)) = some (some z, 1, bytes)) (hz : z.cells.size = 1)
    (v : Value) (n : Nat) (xs : List Value) (u : Value) (hs : a.eval s = v) (hx : a.eval x = .slice (some ⟨w0.heap.size, 0, none⟩) 1 1) (hu : u.oneCell' = true)
    (hown : w0.ownsRow base e 1 v n xs) (hbytes : (n + 1) * bytes ≤ 140737488355328) (h63 : n + 1 ≤ 9223372036854775807) (hbase : base ≤ w0.heap.size)
    (h : ∀ v' w', w'.ownsRow base e 1 v' (n + 1) (xs ++ [u]) → Below base w0 w' → w0.heap.size ≤ w'.heap.size → wpList P ops Q rest (a.put o.dst v') w') : wpList P ops Q (o :: rest) a (w0.alloc (.cells #[u] e)) := by
  obtain ⟨i, hi, hz0, hz1, hz2⟩ := info_parts hinfo
  refine wpList_append_own _ hgd s x t ho base e i z 1 bytes ht hi hz0 hz1 hz2 hz (by decide) v n xs hs (hown.alloc _) ⟨w0.heap.size, 0, none⟩ 1 1 [u] hx rfl (cell_new w0 u e) (by simpa using hu) (by unfold maxLen; omega) hbytes (by simp; omega) ?_
  intro v' w' h1 h2 _
  have hbl : Below base w0 w' := ((Below.refl base w0).alloc hbase _).grown h2 (by simp; omega) (fun k hk => ((hown.alloc (.cells #[u] e)).lt k hk).1)
  exact h v' w' h1 hbl hbl.size

/-- 'out = append(out, xs...)'. -/
theorem wpList_appN {P : Program} {ops : Array Oper} {rest : List Oper} {o : Oper} {a : Act} {Q : Exit → Act → World → Prop} {w : World} (hgd : o.guard = none) (s x : Operand) (t : TypeId)
    (ho : o.op = .call { callee := .builtin .append, args := #[s, x], argTypes := #[t, t] })
    (base : Nat) (e : TypeId) (z : Value) (bytes : Nat) (ht : P.underlying t = some (.slice e)) (hinfo : (P.info? e).map (fun i => (i.zero, i.size, i.bytes)) = some (some z, 1, bytes)) (hz : z.cells.size = 1)
    (v : Value) (n : Nat) (xs : List Value) (vx : Value) (ys : List Value) (hs : a.eval s = v) (hx : a.eval x = vx) (hsl : Sl w vx ys) (hu : ∀ u ∈ ys, u.oneCell' = true)
    (hown : w.ownsRow base e 1 v n xs) (hbytes : (n + ys.length) * bytes ≤ 140737488355328) (h63 : n + ys.length ≤ 9223372036854775807) (hbase : base ≤ w.heap.size)
    (h : ∀ v' w', w'.ownsRow base e 1 v' (n + ys.length) (xs ++ ys) → Below base w w' → w.heap.size ≤ w'.heap.size → wpList P ops Q rest (a.put o.dst v') w') : wpList P ops Q (o :: rest) a w := by
  obtain ⟨i, hi, hz0, hz1, hz2⟩ := info_parts hinfo
  obtain ⟨ad, cap, rfl, hr, hc, hl⟩ := hsl
  cases ad with
  | none =>
    have hy : ys = [] := by
      by_cases hne : ys = []
      · exact hne
      · obtain ⟨b, off, e, _⟩ := hr hne; cases e
    subst hy
    obtain rfl := hc rfl
    refine wpList_plain hgd fun K hK => ?_
    have hrun := run_append_owned_none (P := P) w base t o.type e i 1 ht hi v n xs hown
    unfold Oper.wp execOp
    simp only [ho, resolve, invoke, builtin, Sem.run_bind, Sem.run_pure, Result.andThen_ok, List.map_toArray, List.map_cons, List.map_nil, hs, hx]
    simp only [List.length_nil, hrun, Result.andThen_ok, Oper.upon_value]
    refine hK _ _ (h v w ?_ (Below.refl _ _) (Nat.le_refl _))
    simpa using hown
  | some ad =>
    refine wpList_append_own _ hgd s x t ho base e i z 1 bytes ht hi hz0 hz1 hz2 hz (by decide) v n xs hs hown ad ys.length cap ys hx (by simp) ?_ hu (by unfold maxLen; omega) hbytes hbase ?_
    · intro j u hu
      obtain ⟨b, off, e, hcell⟩ := hr (by intro e; subst e; simp at hu)
      cases e
      have := hcell j u hu
      unfold Addr.add
      split
      · subst j; exact this
      · exact this
    · intro v' w' h1 h2 _
      have hbl : Below base w w' := (Below.refl base w).grown h2 hbase (fun k hk => (hown.lt k hk).1)
      exact h v' w' h1 hbl hbl.size

/-- A real, a whole number, a word, a complex number as values. -/
def F (b : Nat) : Value := .float .f64 b
def I (n : Int) : Value := .int .i64 n
def U (b : Nat) : Value := .int .u64 b
def C (z : Nat × Nat) : Value := .complex .f64 z.1 z.2

end Go.Proofs.YtfalbdlfopfgcaaGreatDoor

namespace Go.Proofs.YtfalbdlfopfgcaaGreatDoor

abbrev CV := Option Nat × Option Nat
def cv (a b : Nat) : CV := (val a, val b)
/-- Nothing but draws. -/
def Dr (w w' : World) : Prop := ∃ n, w' = w.drewN n
theorem Dr.refl (w : World) : Dr w w := ⟨0, rfl⟩
theorem Dr.mk (w : World) (n : Nat) : Dr w (w.drewN n) := ⟨n, rfl⟩
theorem Dr.trans {a b c : World} (h : Dr a b) (k : Dr b c) : Dr a c := by
  obtain ⟨n, rfl⟩ := h
  obtain ⟨m, rfl⟩ := k
  exact ⟨n + m, by simp⟩
/-- What a function hands back that makes no memory: a bool; a real; a number; with an error. -/
def RetB (w : World) (b : Bool) (e : Ending) (w' : World) : Prop := e = .returned (.bool b) ∧ Dr w w'
def RetF (w : World) (v : Option Nat) (e : Ending) (w' : World) : Prop := ∃ x, e = .returned (.float .f64 x) ∧ Dr w w' ∧ val x = v ∧ IsW x
def RetC (w : World) (z : CV) (e : Ending) (w' : World) : Prop := ∃ x y, e = .returned (.complex .f64 x y) ∧ Dr w w' ∧ cv x y = z ∧ IsW x ∧ IsW y
def RetFE (w : World) (v : Option Nat) (n : Int) (e : Ending) (w' : World) : Prop := ∃ x, e = .returned (.tuple #[.float .f64 x, .int .i64 n]) ∧ Dr w w' ∧ val x = v ∧ IsW x
def RetCE (w : World) (z : CV) (n : Int) (e : Ending) (w' : World) : Prop := ∃ x y, e = .returned (.tuple #[.complex .f64 x y, .int .i64 n]) ∧ Dr w w' ∧ cv x y = z ∧ IsW x ∧ IsW y
/-- Is a real finite? x - x is 0. -/
def fin (x : Option Nat) : Bool := feq (fsub x x) (val 0)
def cfin (z : CV) : Bool := fin z.1 && fin z.2
def czero (z : CV) : Bool := feq z.1 (val 0) && feq z.2 (val 0)
def cadd (a b : CV) : CV := (fadd a.1 b.1, fadd a.2 b.2)
def csub (a b : CV) : CV := (fsub a.1 b.1, fsub a.2 b.2)
def cmul (a b : CV) : CV := (fsub (fmul a.1 b.1) (fmul a.2 b.2), fadd (fmul a.1 b.2) (fmul a.2 b.1))
def cdiv (a b : CV) : CV :=
  if fle (fsize b.2) (fsize b.1) = true then
    (fdiv (fadd a.1 (fmul a.2 (fdiv b.2 b.1))) (fadd b.1 (fmul b.2 (fdiv b.2 b.1))), fdiv (fsub a.2 (fmul a.1 (fdiv b.2 b.1))) (fadd b.1 (fmul b.2 (fdiv b.2 b.1))))
  else
    (fdiv (fadd (fmul a.1 (fdiv b.1 b.2)) a.2) (fadd (fmul b.1 (fdiv b.1 b.2)) b.2), fdiv (fsub (fmul a.2 (fdiv b.1 b.2)) a.1) (fadd (fmul b.1 (fdiv b.1 b.2)) b.2))
def cconj (z : CV) : CV := (z.1, fneg z.2)
def cscale (x : Option Nat) (z : CV) : CV := (fmul x z.1, fmul x z.2)
def size1 (z : CV) : Option Nat := fadd (fsize z.1) (fsize z.2)
def size2 (z : CV) : Option Nat := fadd (fmul z.1 z.1) (fmul z.2 z.2)
/-- The number's size, the greater part g, the other l. -/
def hyp (g l : Option Nat) : Option Nat := fmul g (fsqrt (fadd (val 4607182418800017408) (fmul (fdiv l g) (fdiv l g))))
def inf : Option Nat := val 9218868437227405312
/-- math.IsInf(x, 0): beyond the greatest real. -/
def isInf (x : Option Nat) : Bool := flt (val 9218868437227405311) (fsize x)
def absP (z : CV) : Option Nat :=
  if (isInf z.1 || isInf z.2) = true then inf
  else if (feq (fsize z.1) (val 0) && feq (fsize z.2) (val 0)) = true then val 0
  else if flt (fsize z.1) (fsize z.2) = true then hyp (fsize z.2) (fsize z.1) else hyp (fsize z.1) (fsize z.2)
/-- gridworkref02.Abs. -/
def absR (z : CV) : Option Nat :=
  if (feq (fsize z.1) inf || feq (fsize z.2) inf) = true then inf
  else if (feq (fsize z.1) (val 0) && feq (fsize z.2) (val 0)) = true then val 0
  else if (!feq (fsize z.1) (fsize z.1) || !feq (fsize z.2) (fsize z.2)) = true then fadd (fsize z.1) (fsize z.2)
  else if flt (fsize z.1) (fsize z.2) = true then hyp (fsize z.2) (fsize z.1) else hyp (fsize z.1) (fsize z.2)
def one : Option Nat := val 4607182418800017408
/-- One step of the halving of an angle. -/
def angT (t : Option Nat) : Option Nat := fdiv t (fadd one (fsqrt (fadd one (fmul t t))))
def angTs : Nat → Option Nat → Option Nat
  | 0, t => t
  | k + 1, t => angT (angTs k t)
/-- 13, 11, .., 1, -1 -/
def dB (k : Nat) : Nat := ofInt (13 - 2 * (k : Int))
def angS (u : Option Nat) : Nat → Option Nat
  | 0 => val 4589468260265693457
  | k + 1 => fsub (fdiv one (val (dB k))) (fmul u (angS u k))
/-- The angle in steps of which t is the tangent of an eighth. -/
def angV (t : Option Nat) : Option Nat := fmul (fmul (fmul (val 4620693217682128896) t) (angS (fmul t t) 7)) (val 4615783660508851396)
def angB (c : Bool) (v : Option Nat) : Option Nat := if c = true then fsub (val 4618441417868443648) v else v
def angR (c : Bool) (v : Option Nat) : Option Nat := if c = true then fsub (val 4622945017495814144) v else v
def angI (c : Bool) (v : Option Nat) : Option Nat := if c = true then fsub (val 0) v else v
/-- The angle of re, im, t being the quotient of the less and the greater size. -/
def angW (z : CV) (t : Option Nat) : Option Nat :=
  angI (flt z.2 (val 0)) (angR (flt z.1 (val 0)) (angB (flt (fsize z.1) (fsize z.2)) (angV (angTs 3 t))))
def angP (z : CV) : Option Nat := angW z (fdiv (fmin (fsize z.1) (fsize z.2)) (fmax (fsize z.1) (fsize z.2)))
def angRef (z : CV) : Option Nat := angW z (if flt (fsize z.2) (fsize z.1) = true then fdiv (fsize z.2) (fsize z.1) else fdiv (fsize z.1) (fsize z.2))
/-- The errors of an angle. -/
def angE (z : CV) : Int := if cfin z = true then (if czero z = true then 2 else 0) else 5
/-- What a gain is told to be, with its error. -/
def ofE (a b : CV) : Int := if (cfin a && cfin b) = true then (if czero b = true then 7 else if cfin (cdiv a b) = true then 0 else 6) else 5
def ofG (a b : CV) : CV := if ofE a b = 0 then cdiv a b else (val 0, val 0)
def szE (z : CV) (x : Option Nat) : Int := if cfin z = true then (if fin x = true then 0 else 6) else 5
def szG (z : CV) (x : Option Nat) : Option Nat := if szE z x = 0 then x else val 0
def lagG (z : CV) (a : Option Nat) : Option Nat := if angE z = 0 then fsub (val 0) a else val 0
/-- above: finite, above 0. -/
def aboveE (x : Option Nat) : Int := if fin x = true then (if flt (val 0) x = true then 0 else 2) else 5
def RetE (w : World) (n : Int) (e : Ending) (w' : World) : Prop := e = .returned (.int .i64 n) ∧ Dr w w'
/-- Half power: the error; the greatest; at which places the side changes. -/
def halfE (l : List (Option Nat)) : Int := if 4096 < l.length then 3 else if l.all fin = true then (if l.any (fun x => flt x (val 0)) = true then 2 else 0) else 5
def halfM (l : List (Option Nat)) : Option Nat := l.foldl fmax (val 0)
def halfAt (l : List (Option Nat)) (h : Option Nat) (i : Nat) : Bool := decide (1 ≤ i) && (flt (l.getD (i - 1) none) h != flt (l.getD i none) h)
def halfP (l : List (Option Nat)) (h : Option Nat) (n : Nat) : List Int := ((List.range n).filter (halfAt l h)).map Int.ofNat
def halfL (l : List (Option Nat)) : List Int := if halfE l = 0 then halfP l (fdiv (halfM l) (val 4611686018427387904)) l.length else []
theorem halfP_zero (l : List (Option Nat)) (h : Option Nat) : halfP l h 0 = [] := rfl
theorem halfP_one (l : List (Option Nat)) (h : Option Nat) : halfP l h 1 = [] := rfl
theorem halfP_succ (l : List (Option Nat)) (h : Option Nat) (n : Nat) : halfP l h (n + 1) = halfP l h n ++ (if halfAt l h n = true then [(n : Int)] else []) := by
  unfold halfP
  rw [List.range_succ, List.filter_append, List.map_append]
  congr 1
  by_cases hn : halfAt l h n = true <;> simp [hn]
theorem halfP_length (l : List (Option Nat)) (h : Option Nat) (n : Nat) : (halfP l h n).length ≤ n := by
  unfold halfP
  rw [List.length_map]
  have := List.length_filter_le (halfAt l h) (List.range n)
  simpa using this
end Go.Proofs.YtfalbdlfopfgcaaGreatDoor

namespace Go.Proofs.YtfalbdlfopfgcaaGreatDoor
open Go.RowKit

@[go_sem high] theorem call_bits (x : Nat) (w : World) : (callFunc 42 #[.float .f64 x]).run Tryz.prog w = .ok (.value (.int .u64 x)) w :=
  run_callFunc_extern (e := Extern.MathFloatBits.float64bits) Tryz.func42 (by kernel_rfl) (by kernel_rfl) (by kernel_rfl) (by kernel_rfl) _ w
@[go_sem high] theorem call_frombits (n : Int) (w : World) : (callFunc 12 #[.int .u64 n]).run Tryz.prog w = .ok (.value (.float .f64 n.toNat)) w :=
  run_callFunc_extern (e := Extern.MathFloatBits.float64frombits) Tryz.func12 (by kernel_rfl) (by kernel_rfl) (by kernel_rfl) (by kernel_rfl) _ w

theorem info_f64 : (Tryz.prog.info? 29).map (fun i => (i.zero, i.size, i.bytes)) = some (some (.float .f64 0), 1, 8) := by kernel_rfl
theorem info_int : (Tryz.prog.info? 3).map (fun i => (i.zero, i.size, i.bytes)) = some (some (.int .i64 0), 1, 8) := by kernel_rfl
end Go.Proofs.YtfalbdlfopfgcaaGreatDoor

namespace Go.Proofs.YtfalbdlfopfgcaaGreatDoor
open Go.RowKit

theorem cells_new (w : World) (cs : List Value) (e : Nat) : ∀ j x, cs[j]? = some x → (w.alloc (.cells cs.toArray e)).cell? ((⟨w.heap.size, 0, none⟩ : Addr).add j) = some x := by
  intro j x hx
  have h : (⟨w.heap.size, 0, none⟩ : Addr).add j = ⟨w.heap.size, j, none⟩ := by
    simp [Addr.add]
    intro hj
    omega
  rw [h, World.cell?_alloc_new]
  simpa using hx

/-- 'out = append(out, u)', u a struct of the cells cs. -/
theorem wpList_appS {P : Program} {ops : Array Oper} {rest : List Oper} {o : Oper} {a : Act} {Q : Exit → Act → World → Prop} {w0 : World} (hgd : o.guard = none) (s x : Operand) (t : TypeId)
    (ho : o.op = .call { callee := .builtin .append, args := #[s, x], argTypes := #[t, t] })
    (base : Nat) (e : TypeId) (z : Value) (size bytes : Nat) (hsz : 0 < size) (ht : P.underlying t = some (.slice e)) (hinfo : (P.info? e).map (fun i => (i.zero, i.size, i.bytes)) = some (some z, size, bytes)) (hz : z.cells.size = size)
    (v : Value) (n : Nat) (xs : List Value) (cs : List Value) (hs : a.eval s = v) (hx : a.eval x = .slice (some ⟨w0.heap.size, 0, none⟩) 1 1) (hl : cs.length = size) (hu : ∀ u ∈ cs, u.oneCell' = true)
    (hown : w0.ownsRow base e size v n xs) (hbytes : (n + 1) * bytes ≤ 140737488355328) (h63 : n + 1 ≤ 9223372036854775807) (hbase : base ≤ w0.heap.size)
    (h : ∀ v' w', w'.ownsRow base e size v' (n + 1) (xs ++ cs) → Below base w0 w' → w0.heap.size ≤ w'.heap.size → wpList P ops Q rest (a.put o.dst v') w') : wpList P ops Q (o :: rest) a (w0.alloc (.cells cs.toArray e)) := by
  obtain ⟨i, hi, hz0, hz1, hz2⟩ := info_parts hinfo
  refine wpList_append_own _ hgd s x t ho base e i z size bytes ht hi hz0 hz1 hz2 hz hsz v n xs hs (hown.alloc _) ⟨w0.heap.size, 0, none⟩ 1 1 cs hx (by rw [hl, Nat.one_mul]) (cells_new w0 cs e) hu (by unfold maxLen; omega) hbytes (by simp; omega) ?_
  intro v' w' h1 h2 _
  have hbl : Below base w0 w' := ((Below.refl base w0).alloc hbase _).grown h2 (by simp; omega) (fun k hk => ((hown.alloc (.cells cs.toArray e)).lt k hk).1)
  exact h v' w' h1 hbl hbl.size
end Go.Proofs.YtfalbdlfopfgcaaGreatDoor

namespace Go.Proofs.YtfalbdlfopfgcaaGreatDoor

def blankB (c : UInt8) : Bool := c == 32 || c == 9 || c == 13
def remB (c : UInt8) : Bool := c == 42 || c == 59
def badB (c : UInt8) : Bool := decide (c.toNat < 33) || decide (126 < c.toNat)
/-- The words so far: from, to; where the open word begins. -/
abbrev St := List (Nat × Nat) × Option Nat
def closeW (st : St) (k : Nat) : List (Nat × Nat) := match st.2 with
  | none => st.1
  | some f => st.1 ++ [(f, k)]
def stepW (st : St) (k : Nat) (c : UInt8) : Except Int St :=
  if blankB c then .ok (closeW st k, none)
  else if badB c then .error 240
  else match st.2 with
    | none => .ok (st.1, some k)
    | some f => if 80 ≤ k - f then .error 3 else .ok st
/-- The state behind k bytes of a line. -/
def stW (b : List UInt8) : Nat → Except Int St
  | 0 => .ok ([], none)
  | k + 1 => match stW b k with
    | .error e => .error e
    | .ok st => stepW st k (b.getD k 0)
/-- A line without its remark. -/
def bareW (t : List UInt8) : List UInt8 := t.takeWhile fun c => !remB c
def wordsW (t : List UInt8) : List (Nat × Nat) := match stW (bareW t) (bareW t).length with
  | .error _ => []
  | .ok st => closeW st (bareW t).length
def errW (t : List UInt8) : Int := match stW (bareW t) (bareW t).length with
  | .error e => e
  | .ok _ => 0
theorem stW_error {b : List UInt8} {k : Nat} {e : Int} (h : stW b k = .error e) : ∀ n, k ≤ n → stW b n = .error e := by
  intro n hn
  induction n with
  | zero =>
    obtain rfl : k = 0 := by omega
    exact h
  | succ n ih =>
    by_cases he : k = n + 1
    · subst he; exact h
    · simp only [stW, ih (by omega)]
theorem stW_from {b : List UInt8} : ∀ {k : Nat} {ws : List (Nat × Nat)} {o : Option Nat}, stW b k = .ok (ws, o) → (∀ f, o = some f → f < k) ∧ ws.length + (if o.isSome then 1 else 0) ≤ k := by
  intro k
  induction k with
  | zero =>
    intro ws o h
    simp only [stW, Except.ok.injEq, Prod.mk.injEq] at h
    obtain ⟨rfl, rfl⟩ := h
    simp
  | succ k ih =>
    intro ws o h
    simp only [stW] at h
    split at h
    · cases h
    · rename_i st hst
      obtain ⟨vs, q⟩ := st
      obtain ⟨i1, i2⟩ := ih hst
      simp only [stepW] at h
      split at h
      · simp only [Except.ok.injEq, Prod.mk.injEq] at h
        obtain ⟨rfl, rfl⟩ := h
        refine ⟨by simp, ?_⟩
        cases q with
        | none => simp [closeW] at i2 ⊢; omega
        | some f => simp [closeW] at i2 ⊢; omega
      · split at h
        · cases h
        · cases q with
          | none =>
            simp only [Except.ok.injEq, Prod.mk.injEq] at h
            obtain ⟨rfl, rfl⟩ := h
            simp at i2 ⊢
            omega
          | some f =>
            have hf := i1 f rfl
            simp only at h
            split at h
            · cases h
            · simp only [Except.ok.injEq, Prod.mk.injEq] at h
              obtain ⟨rfl, rfl⟩ := h
              simp at i2 ⊢
              omega
/-- No word is open at the beginning and behind a blank, and there alone. -/
theorem stW_none {b : List UInt8} {k : Nat} {ws : List (Nat × Nat)} {o : Option Nat} (h : stW b (k + 1) = .ok (ws, o)) : o = none ↔ blankB (b.getD k 0) = true := by
  simp only [stW] at h
  split at h
  · cases h
  · simp only [stepW] at h
    split at h
    · rename_i hb
      simp only [Except.ok.injEq, Prod.mk.injEq] at h
      exact ⟨fun _ => hb, fun _ => h.2.symm⟩
    · rename_i hb
      split at h
      · cases h
      · split at h
        · simp only [Except.ok.injEq, Prod.mk.injEq] at h
          exact ⟨fun hn => absurd (h.2.trans hn) (by simp), fun hc => absurd hc hb⟩
        · rename_i f hf
          split at h
          · cases h
          · simp only [Except.ok.injEq] at h
            subst h
            simp only at hf
            subst hf
            exact ⟨fun hn => (by cases hn), fun hc => absurd hc hb⟩
/-- The bytes of a line and of its part before the remark. -/
theorem bareW_len (t : List UInt8) : (bareW t).length ≤ t.length := (List.takeWhile_prefix (l := t) fun c => !remB c).length_le
theorem bareW_at {t : List UInt8} : ∀ {k : Nat}, k < (bareW t).length → ∃ c, t[k]? = some c ∧ (bareW t).getD k 0 = c ∧ remB c = false := by
  unfold bareW
  induction t with
  | nil => intro k h; simp at h
  | cons x t ih =>
    intro k h
    by_cases hx : remB x = true
    · simp [hx] at h
    · simp only [Bool.not_eq_true] at hx
      rw [List.takeWhile_cons, hx] at h ⊢
      simp only [Bool.not_false, if_true, List.length_cons] at h ⊢
      cases k with
      | zero => exact ⟨x, rfl, rfl, hx⟩
      | succ k =>
        obtain ⟨c, h1, h2, h3⟩ := ih (k := k) (by omega)
        exact ⟨c, by simpa using h1, by simpa using h2, h3⟩
theorem bareW_end {t : List UInt8} (h : (bareW t).length < t.length) : ∃ c, t[(bareW t).length]? = some c ∧ remB c = true := by
  unfold bareW at h ⊢
  induction t with
  | nil => simp at h
  | cons x t ih =>
    by_cases hx : remB x = true
    · exact ⟨x, by simp [hx], hx⟩
    · simp only [Bool.not_eq_true] at hx
      rw [List.takeWhile_cons, hx] at h ⊢
      simp only [Bool.not_false, if_true, List.length_cons] at h ⊢
      obtain ⟨c, h1, h2⟩ := ih (by omega)
      exact ⟨c, by simpa using h1, h2⟩
/-- The cells of a word. -/
def tokC (t : ByteArray) (line : Int) (p : Nat × Nat) : List Value := [.string (t.extract p.1 p.2), .int .i64 line, .int .i64 p.1]
end Go.Proofs.YtfalbdlfopfgcaaGreatDoor

namespace Go.Proofs.YtfalbdlfopfgcaaGreatDoor

/-- The number of so many digits. -/
def dv : List Nat → Nat
  | [] => 0
  | c :: t => c * 10 ^ t.length + dv t
/-- Long division by 2^k: digits given out, what is left. -/
def rsOut (k : Nat) : Nat → List Nat → List Nat × Nat
  | n, [] => ([], n)
  | n, c :: t => (n / 2 ^ k :: (rsOut k (n % 2 ^ k * 10 + c) t).1, (rsOut k (n % 2 ^ k * 10 + c) t).2)
theorem rs_len (k : Nat) : ∀ (t : List Nat) (n : Nat), (rsOut k n t).1.length = t.length := by
  intro t
  induction t with
  | nil => intro n; rfl
  | cons c t ih => intro n; simp only [rsOut, List.length_cons, ih]
theorem rs_law (k : Nat) : ∀ (t : List Nat) (n : Nat), n * 10 ^ t.length + dv t = 2 ^ k * (10 * dv (rsOut k n t).1) + (rsOut k n t).2 := by
  intro t
  induction t with
  | nil => intro n; simp [rsOut, dv]
  | cons c t ih =>
    intro n
    have h := ih (n % 2 ^ k * 10 + c)
    have hd := Nat.div_add_mod n (2 ^ k)
    simp only [rsOut, dv, List.length_cons, rs_len]
    generalize dv (rsOut k (n % 2 ^ k * 10 + c) t).1 = a at *
    generalize (rsOut k (n % 2 ^ k * 10 + c) t).2 = b at *
    generalize n / 2 ^ k = q at *
    generalize n % 2 ^ k = r at *
    rw [Nat.pow_succ]
    generalize 10 ^ t.length = z at *
    generalize dv t = y at *
    generalize 2 ^ k = g at *
    subst hd
    grind
theorem rs_dig (k : Nat) : ∀ (t : List Nat) (n : Nat), n < 10 * 2 ^ k → (∀ c ∈ t, c < 10) → (∀ c ∈ (rsOut k n t).1, c < 10) ∧ (rsOut k n t).2 < 10 * 2 ^ k := by
  intro t
  induction t with
  | nil => intro n hn _; exact ⟨fun c hc => absurd hc List.not_mem_nil, hn⟩
  | cons c t ih =>
    intro n hn hc
    have hg := Nat.two_pow_pos k
    have h1 : n % 2 ^ k < 2 ^ k := Nat.mod_lt _ hg
    have h2 := hc c List.mem_cons_self
    obtain ⟨h3, h4⟩ := ih (n % 2 ^ k * 10 + c) (by omega) fun x hx => hc x (List.mem_cons_of_mem _ hx)
    simp only [rsOut]
    refine ⟨fun x hx => ?_, h4⟩
    rcases List.mem_cons.1 hx with rfl | hx
    · exact Nat.div_lt_of_lt_mul (by rw [Nat.mul_comm]; exact hn)
    · exact h3 x hx
theorem dv_zeros (t : List Nat) (j : Nat) : dv (t ++ List.replicate j 0) = dv t * 10 ^ j := by
  induction t with
  | nil =>
    induction j with
    | zero => rfl
    | succ j ih => rw [List.nil_append] at ih ⊢; simp only [List.replicate_succ, dv, Nat.zero_mul, Nat.zero_add, ih]
  | cons c t ih =>
    simp only [List.cons_append, dv, List.length_append, List.length_replicate, ih, Nat.pow_add]
    rw [Nat.add_mul, Nat.mul_assoc]
theorem rs_app (k : Nat) : ∀ (t u : List Nat) (n : Nat), (rsOut k n (t ++ u)).2 = (rsOut k (rsOut k n t).2 u).2 := by
  intro t
  induction t with
  | nil => intro u n; rfl
  | cons c t ih => intro u n; simp only [List.cons_append, rsOut]; exact ih u _
/-- After k noughts and one more nothing is left: the division comes out. -/
theorem rs_ends (k n : Nat) : (rsOut k n (List.replicate (k + 1) 0)).2 = 0 := by
  have e : List.replicate (k + 1) 0 = List.replicate k 0 ++ [0] := List.replicate_succ'
  have h := rs_law k (List.replicate k 0) n
  have h0 := dv_zeros [] k
  rw [List.nil_append] at h0
  rw [h0, List.length_replicate, show dv [] = 0 from rfl, Nat.zero_mul, Nat.add_zero] at h
  rw [e, rs_app]
  simp only [rsOut]
  generalize (rsOut k n (List.replicate k 0)).2 = m at *
  have h10 : 10 ^ k = 2 ^ k * 5 ^ k := by rw [← Nat.mul_pow]
  rw [h10] at h
  have hd : m % 2 ^ k = 0 := by
    have h2 := congrArg (· % 2 ^ k) h
    simp only [Nat.mul_add_mod] at h2
    rw [← h2, show n * (2 ^ k * 5 ^ k) = 2 ^ k * (n * 5 ^ k) by rw [Nat.mul_left_comm], Nat.mul_mod_right]
  rw [hd, Nat.zero_mul]
/-- Multiplying by 2^k from the right: digits given out, what is carried. -/
def lsOut (k : Nat) : List Nat → List Nat × Nat
  | [] => ([], 0)
  | c :: t => (((lsOut k t).2 + c * 2 ^ k) % 10 :: (lsOut k t).1, ((lsOut k t).2 + c * 2 ^ k) / 10)
theorem ls_len (k : Nat) : ∀ t : List Nat, (lsOut k t).1.length = t.length := by
  intro t
  induction t with
  | nil => rfl
  | cons c t ih => simp only [lsOut, List.length_cons, ih]
theorem ls_law (k : Nat) : ∀ t : List Nat, dv t * 2 ^ k = (lsOut k t).2 * 10 ^ t.length + dv (lsOut k t).1 := by
  intro t
  induction t with
  | nil => simp [lsOut, dv]
  | cons c t ih =>
    have hd := Nat.div_add_mod ((lsOut k t).2 + c * 2 ^ k) 10
    simp only [lsOut, dv, List.length_cons, ls_len]
    generalize dv (lsOut k t).1 = a at *
    generalize (lsOut k t).2 = b at *
    generalize 2 ^ k = g at *
    generalize (b + c * g) / 10 = q at *
    generalize (b + c * g) % 10 = r at *
    rw [Nat.pow_succ]
    generalize 10 ^ t.length = z at *
    generalize dv t = y at *
    grind
theorem ls_dig (k : Nat) : ∀ t : List Nat, (∀ c ∈ (lsOut k t).1, c < 10) := by
  intro t
  induction t with
  | nil => exact fun c hc => absurd hc List.not_mem_nil
  | cons c t ih =>
    intro x hx
    simp only [lsOut] at hx
    rcases List.mem_cons.1 hx with rfl | hx
    · exact Nat.mod_lt _ (by omega)
    · exact ih x hx
theorem dv_lt : ∀ t : List Nat, (∀ c ∈ t, c < 10) → dv t < 10 ^ t.length := by
  intro t
  induction t with
  | nil => intro _; simp [dv]
  | cons c t ih =>
    intro h
    have h1 := ih fun x hx => h x (List.mem_cons_of_mem _ hx)
    have h2 := Nat.mul_le_mul_right (10 ^ t.length) (show c + 1 ≤ 10 from h c List.mem_cons_self)
    simp only [dv, List.length_cons]
    rw [Nat.pow_succ]
    rw [Nat.succ_mul] at h2
    omega
/-- The carry is the product's whole part. -/
theorem ls_carry (k : Nat) (t : List Nat) : (lsOut k t).2 = dv t * 2 ^ k / 10 ^ t.length := by
  have h := ls_law k t
  have h2 := dv_lt _ (ls_dig k t)
  rw [ls_len] at h2
  rw [h, Nat.add_comm, Nat.add_mul_div_right _ _ (Nat.pow_pos (by omega)), Nat.div_eq_of_lt h2, Nat.zero_add]
theorem dv_app : ∀ a b : List Nat, dv (a ++ b) = dv a * 10 ^ b.length + dv b := by
  intro a b
  induction a with
  | nil => simp [dv]
  | cons c t ih =>
    simp only [List.cons_append, dv, List.length_append, ih, Nat.pow_add]
    rw [Nat.add_mul, Nat.mul_assoc, Nat.add_assoc]
/-- A number's digits, none for nought. -/
def dgs (n : Nat) : List Nat := if _h : n = 0 then [] else dgs (n / 10) ++ [n % 10]
theorem dgs_0 : dgs 0 = [] := by rw [dgs, dif_pos rfl]
theorem dgs_pos {n : Nat} (h : n ≠ 0) : dgs n = dgs (n / 10) ++ [n % 10] := by rw [dgs, dif_neg h]
theorem dv_dgs (n : Nat) : dv (dgs n) = n := by
  induction n using Nat.strongRecOn with
  | ind n ih =>
    by_cases h : n = 0
    · rw [h, dgs_0]; rfl
    · rw [dgs_pos h, dv_app, ih (n / 10) (by omega)]
      simp only [dv, List.length_cons, List.length_nil]
      omega
theorem dgs_lt (n : Nat) : ∀ c ∈ dgs n, c < 10 := by
  induction n using Nat.strongRecOn with
  | ind n ih =>
    by_cases h : n = 0
    · rw [h, dgs_0]; exact fun c hc => absurd hc List.not_mem_nil
    · rw [dgs_pos h]
      intro c hc
      rcases List.mem_append.1 hc with hc | hc
      · exact ih (n / 10) (by omega) c hc
      · rw [List.mem_singleton.1 hc]; omega
/-- How many digits a number has. -/
theorem dgs_len (k : Nat) : ∀ n, (dgs n).length ≤ k ↔ n < 10 ^ k := by
  induction k with
  | zero =>
    intro n
    by_cases h : n = 0
    · rw [h, dgs_0]; simp
    · rw [dgs_pos h]; simp; omega
  | succ k ih =>
    intro n
    by_cases h : n = 0
    · rw [h, dgs_0]
      exact ⟨fun _ => Nat.pow_pos (by omega), fun _ => Nat.zero_le _⟩
    · rw [dgs_pos h, List.length_append, List.length_singleton, Nat.add_le_add_iff_right, ih, Nat.pow_succ]
      omega
/-- The whole shift to the left. -/
def lsAll (k : Nat) (t : List Nat) : List Nat := dgs (lsOut k t).2 ++ (lsOut k t).1
theorem lsAll_dv (k : Nat) (t : List Nat) : dv (lsAll k t) = dv t * 2 ^ k := by
  unfold lsAll
  rw [dv_app, dv_dgs, ls_len, ls_law]
theorem lsAll_lt (k : Nat) (t : List Nat) : ∀ c ∈ lsAll k t, c < 10 := by
  intro c hc
  rcases List.mem_append.1 hc with hc | hc
  · exact dgs_lt _ c hc
  · exact ls_dig k t c hc
end Go.Proofs.YtfalbdlfopfgcaaGreatDoor
