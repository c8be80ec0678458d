/- Real numbers of 64 bits as the model has them: 'val' forgets which NaN a NaN is; each operation on values; the laws by which a walk takes the four operations, whatever NaN is drawn. No condition. Slices as lists: what a walk is told of a slice that it reads, and of one that the call itself makes. No condition. What the functions on complex numbers compute, on values (all NaNs being one). Plain functions; no program, no condition. Rows of structs: an element of several cells is appended. No condition. Rows that stand side by side, each by a number of its own, in blocks that differ: made, appended to, kept. No condition. -/
import Derived.WalkKit
import Derived.WalkSpells
import Derived.WalkLawsBesides
import Derived.Deep.Draws
import Derived.Deep.QuietTactic
import Derived.BigQuiet
import Derived.Deep.AppendLies
namespace Go.Proofs.Ytgcakhmdmajplaa
open Go.RowKit

/-- Is a word of 64 bits a NaN? -/
def nanB (b : Nat) : Bool := decide (9218868437227405312 < b % 9223372036854775808)

/-- Has a word 64 bits? (A definition, so that no walk counts its bound up.) -/
def IsW (b : Nat) : Prop := b < 18446744073709551616

/-- What a word stands for, all NaNs being one. -/
def val (b : Nat) : Option Nat := if nanB b then none else some b

theorem read_nan (b : Nat) : (Ieee.double.read b).isNaN = nanB b := by
  have h1 : Ieee.double.signWeight = 9223372036854775808 := by decide +kernel
  have h2 : Ieee.double.binade = 4503599627370496 := by decide +kernel
  have h3 : Ieee.double.infRung = 9218868437227405312 := by decide +kernel
  unfold Ieee.Format.read nanB
  simp only [h1, h2, h3]
  split
  · rename_i h; simp [Ieee.Datum.isNaN]; omega
  · split
    · simp [Ieee.Datum.isNaN]; omega
    · split
      · simp [Ieee.Datum.isNaN]; omega
      · simp [Ieee.Datum.isNaN]; omega

theorem write_not_nan (d : Ieee.Datum) (h : d.isNaN = false) : nanB (Ieee.double.write d) = false ∧ Ieee.double.write d < 18446744073709551616 := by
  have h1 : Ieee.double.signWeight = 9223372036854775808 := by decide +kernel
  have h3 : Ieee.double.infRung = 9218868437227405312 := by decide +kernel
  have hw : ∀ (neg : Bool) (r : Nat), r ≤ 9218868437227405312 → nanB (Ieee.double.word neg r) = false ∧ Ieee.double.word neg r < 18446744073709551616 := by
    intro neg r hr
    unfold Ieee.Format.word nanB
    simp only [h1]
    cases neg <;> simp <;> omega
  cases d with
  | nan s t => simp [Ieee.Datum.isNaN] at h
  | infinity s => exact hw s _ (by rw [h3]; exact Nat.le_refl _)
  | number s m e =>
    show nanB (Ieee.double.nearest s m e) = false ∧ Ieee.double.nearest s m e < _
    unfold Ieee.Format.nearest
    dsimp only
    split
    · exact hw s 0 (by omega)
    · exact hw s _ (by rw [h3]; exact Nat.min_le_right _ _)

theorem sum_nan {x y d : Ieee.Datum} (h : x.sum y = some d) : x.isNaN = false ∧ y.isNaN = false ∧ d.isNaN = false := by
  cases x <;> cases y <;> simp [Ieee.Datum.sum, Ieee.Datum.isNaN] at h ⊢
  all_goals first | (subst h; simp; done) | (obtain ⟨_, rfl⟩ := h; simp)

theorem product_nan {x y d : Ieee.Datum} (h : x.product y = some d) : x.isNaN = false ∧ y.isNaN = false ∧ d.isNaN = false := by
  cases x <;> cases y <;> simp [Ieee.Datum.product, Ieee.Datum.isNaN] at h ⊢
  all_goals first | (subst h; simp; done) | (obtain ⟨_, rfl⟩ := h; simp)

theorem quotient_nan {k : Nat} {x y d : Ieee.Datum} (h : x.quotient k y = some d) : x.isNaN = false ∧ y.isNaN = false ∧ d.isNaN = false := by
  cases x with
  | nan => simp [Ieee.Datum.quotient] at h
  | infinity s =>
    cases y with
    | nan => simp [Ieee.Datum.quotient] at h
    | infinity t => simp [Ieee.Datum.quotient] at h
    | number t n j => simp [Ieee.Datum.quotient] at h; subst h; simp [Ieee.Datum.isNaN]
  | number s m i =>
    cases y with
    | nan => simp [Ieee.Datum.quotient] at h
    | infinity t => simp [Ieee.Datum.quotient] at h; subst h; simp [Ieee.Datum.isNaN]
    | number t n j =>
      refine ⟨rfl, rfl, ?_⟩
      by_cases hn : n = 0
      · by_cases hm : m = 0
        · simp [Ieee.Datum.quotient, hn, hm] at h
        · simp [Ieee.Datum.quotient, hn, hm] at h; subst h; rfl
      · simp [Ieee.Datum.quotient, hn] at h; subst h; rfl

theorem opposite_nan (d : Ieee.Datum) : d.opposite.isNaN = d.isNaN := by cases d <;> rfl

theorem root_nan {k : Nat} {x d : Ieee.Datum} (h : x.root k = some d) : x.isNaN = false ∧ d.isNaN = false := by
  cases x with
  | nan => simp [Ieee.Datum.root] at h
  | infinity s => simp [Ieee.Datum.root] at h; obtain ⟨_, rfl⟩ := h; simp [Ieee.Datum.isNaN]
  | number s m i =>
    refine ⟨rfl, ?_⟩
    unfold Ieee.Datum.root at h
    dsimp only at h
    split at h
    · cases h; rfl
    · split at h
      · cases h
      · cases h; rfl

def isArith (op : BinOp) : Bool := op matches .add | .sub | .mul | .quo

theorem floatBits_parts {op : BinOp} {a b r : Nat} (h : floatBits op .f64 a b = some r) : nanB a = false ∧ nanB b = false ∧ nanB r = false ∧ r < 18446744073709551616 := by
  unfold floatBits at h
  cases op <;> simp only at h <;> try (cases h; done)
  · obtain ⟨d, hd, rfl⟩ := Option.map_eq_some_iff.1 (show ((Ieee.double.read a).sum (Ieee.double.read b)).map Ieee.double.write = some r from h)
    obtain ⟨h1, h2, h3⟩ := sum_nan hd
    rw [read_nan] at h1 h2
    exact ⟨h1, h2, write_not_nan d h3⟩
  · obtain ⟨d, hd, rfl⟩ := Option.map_eq_some_iff.1 (show ((Ieee.double.read a).sum (Ieee.double.read b).opposite).map Ieee.double.write = some r from h)
    obtain ⟨h1, h2, h3⟩ := sum_nan hd
    rw [opposite_nan] at h2
    rw [read_nan] at h1 h2
    exact ⟨h1, h2, write_not_nan d h3⟩
  · obtain ⟨d, hd, rfl⟩ := Option.map_eq_some_iff.1 (show ((Ieee.double.read a).product (Ieee.double.read b)).map Ieee.double.write = some r from h)
    obtain ⟨h1, h2, h3⟩ := product_nan hd
    rw [read_nan] at h1 h2
    exact ⟨h1, h2, write_not_nan d h3⟩
  · obtain ⟨d, hd, rfl⟩ := Option.map_eq_some_iff.1 (show ((Ieee.double.read a).quotient _ (Ieee.double.read b)).map Ieee.double.write = some r from h)
    obtain ⟨h1, h2, h3⟩ := quotient_nan hd
    rw [read_nan] at h1 h2
    exact ⟨h1, h2, write_not_nan d h3⟩

/-- An operation on values. -/
def fop (op : BinOp) (x y : Option Nat) : Option Nat := x.bind fun a => y.bind fun b => floatBits op .f64 a b
def fadd (x y : Option Nat) : Option Nat := fop .add x y
def fsub (x y : Option Nat) : Option Nat := fop .sub x y
def fmul (x y : Option Nat) : Option Nat := fop .mul x y
def fdiv (x y : Option Nat) : Option Nat := fop .quo x y

theorem val_some {b : Nat} (h : nanB b = false) : val b = some b := by simp [val, h]
theorem val_none {b : Nat} (h : nanB b = true) : val b = none := by simp [val, h]

theorem val_fop (op : BinOp) (a b : Nat) : fop op (val a) (val b) = floatBits op .f64 a b := by
  cases ha : nanB a
  · cases hb : nanB b
    · simp [fop, val_some ha, val_some hb]
    · simp only [fop, val_some ha, val_none hb, Option.bind_some, Option.bind_none]
      cases h : floatBits op .f64 a b with
      | none => rfl
      | some r => rw [(floatBits_parts h).2.1] at hb; cases hb
  · simp only [fop, val_none ha, Option.bind_none]
    cases h : floatBits op .f64 a b with
    | none => rfl
    | some r => rw [(floatBits_parts h).1] at ha; cases ha

/-- The answer that the tape gives where a NaN's bits are asked for: a NaN. -/
theorem nan_cut (x y t : Nat) : nanB (Question.cut (.nanBits .f64 x y) t) = true ∧ Question.cut (.nanBits .f64 x y) t < 18446744073709551616 := by
  unfold Question.cut nanB
  simp only [decide_eq_true_eq]
  have h1 : t % 2 < 2 := Nat.mod_lt _ (by omega)
  have h2 : t / 2 % (2 ^ 52 - 1) < 2 ^ 52 - 1 := Nat.mod_lt _ (by decide)
  generalize t % 2 = u at *
  generalize t / 2 % (2 ^ 52 - 1) = v at *
  omega

theorem run_fop {P : Program} (w : World) (op : BinOp) (hop : isArith op = true) (t : TypeId) (p q : Nat) :
    ∃ r n, (binOp op t (.float .f64 p) (.float .f64 q)).run P w = .ok (.float .f64 r) (w.drewN n) ∧ val r = fop op (val p) (val q) ∧ IsW r := by
  rw [val_fop]
  cases h : floatBits op .f64 p q with
  | some r =>
    obtain ⟨_, _, h3, h4⟩ := floatBits_parts h
    exact ⟨r, 0, run_float_arith w op t .f64 p q r h, val_some h3, h4⟩
  | none =>
    have hn := nan_cut p q (w.tape w.drawn (.nanBits .f64 p q))
    refine ⟨_, 1, ?_, val_none hn.1, hn.2⟩
    unfold floatBits at h
    cases op <;> simp [isArith] at hop <;> simp only at h <;> simp [binOp, Op.floatArith, h, Question.forced] <;> rfl

section
variable {P : Program} {o : Oper} {a : Act} {K : Act → World → Prop} {Q : Exit → Act → World → Prop} {w : World}
theorem upon_fop (op : BinOp) (hop : isArith op = true) (t : TypeId) (p q : Nat)
    (h : ∀ r n, val r = fop op (val p) (val q) → IsW r → K (a.put o.dst (.float .f64 r)) (w.drewN n)) :
    Oper.upon P o a K Q ((Sem.run P (binOp op t (.float .f64 p) (.float .f64 q)) w).andThen fun x w' => .ok (.value x) w') := by
  obtain ⟨r, n, hr, hv, hl⟩ := run_fop (P := P) w op hop t p q
  rw [hr]
  exact h r n hv hl
theorem upon_fadd {t : TypeId} {p q : Nat} (h : ∀ r n, val r = fadd (val p) (val q) → IsW r → K (a.put o.dst (.float .f64 r)) (w.drewN n)) :
    Oper.upon P o a K Q ((Sem.run P (binOp .add t (.float .f64 p) (.float .f64 q)) w).andThen fun x w' => .ok (.value x) w') := upon_fop .add rfl t p q h
theorem upon_fsub {t : TypeId} {p q : Nat} (h : ∀ r n, val r = fsub (val p) (val q) → IsW r → K (a.put o.dst (.float .f64 r)) (w.drewN n)) :
    Oper.upon P o a K Q ((Sem.run P (binOp .sub t (.float .f64 p) (.float .f64 q)) w).andThen fun x w' => .ok (.value x) w') := upon_fop .sub rfl t p q h
theorem upon_fmul {t : TypeId} {p q : Nat} (h : ∀ r n, val r = fmul (val p) (val q) → IsW r → K (a.put o.dst (.float .f64 r)) (w.drewN n)) :
    Oper.upon P o a K Q ((Sem.run P (binOp .mul t (.float .f64 p) (.float .f64 q)) w).andThen fun x w' => .ok (.value x) w') := upon_fop .mul rfl t p q h
theorem upon_fdiv {t : TypeId} {p q : Nat} (h : ∀ r n, val r = fdiv (val p) (val q) → IsW r → K (a.put o.dst (.float .f64 r)) (w.drewN n)) :
    Oper.upon P o a K Q ((Sem.run P (binOp .quo t (.float .f64 p) (.float .f64 q)) w).andThen fun x w' => .ok (.value x) w') := upon_fop .quo rfl t p q h
end

/-- How two values stand to each other. -/
def ford (x y : Option Nat) : Option Ordering := x.bind fun a => y.bind fun b => Ieee.double.order a b
def feq (x y : Option Nat) : Bool := ford x y == some .eq
def flt (x y : Option Nat) : Bool := ford x y == some .lt
def fle (x y : Option Nat) : Bool := ford x y == some .lt || ford x y == some .eq

theorem val_ford (a b : Nat) : ford (val a) (val b) = FloatKind.f64.format.order a b := by
  show ford (val a) (val b) = (Ieee.double.read a).order (Ieee.double.read b)
  have hn := read_nan a
  have hm := read_nan b
  cases ha : nanB a
  · cases hb : nanB b
    · simp [ford, val_some ha, val_some hb]; rfl
    · simp only [ford, val_some ha, val_none hb, Option.bind_some, Option.bind_none]
      rw [hb] at hm
      generalize Ieee.double.read b = y at *
      cases y <;> simp [Ieee.Datum.isNaN] at hm
      cases Ieee.double.read a <;> rfl
  · simp only [ford, val_none ha, Option.bind_none]
    rw [ha] at hn
    generalize Ieee.double.read a = y at *
    cases y <;> simp [Ieee.Datum.isNaN] at hn
    rfl

theorem order_swap (a b : Ieee.Datum) : a.order b = (b.order a).map Ordering.swap := by
  cases a <;> cases b <;> simp [Ieee.Datum.order]
  · rename_i s m i t n j
    rw [Int.min_comm]
    generalize Ieee.signed s m (i - min j i).toNat = u
    generalize Ieee.signed t n (j - min j i).toNat = v
    show compare u v = (compare v u).swap
    exact (Int.compare_swap v u).symm
  · split <;> rfl
  · split <;> rfl
  · rename_i s t
    cases s <;> cases t <;> rfl

theorem ford_swap (x y : Option Nat) : ford x y = (ford y x).map Ordering.swap := by
  cases x <;> cases y <;> simp [ford]
  exact order_swap _ _

@[go_sem high] theorem bin_feq (t : TypeId) (a b : Nat) : binOp .eql t (.float .f64 a) (.float .f64 b) = pure (.bool (feq (val a) (val b))) := by
  rw [binOp_float_cmp_eql, feq, val_ford]
@[go_sem high] theorem bin_fne (t : TypeId) (a b : Nat) : binOp .neq t (.float .f64 a) (.float .f64 b) = pure (.bool (!feq (val a) (val b))) := by
  rw [binOp_float_cmp_neq, feq, val_ford]; rfl
@[go_sem high] theorem bin_flt (t : TypeId) (a b : Nat) : binOp .lss t (.float .f64 a) (.float .f64 b) = pure (.bool (flt (val a) (val b))) := by
  rw [binOp_float_cmp_lss, flt, val_ford]
@[go_sem high] theorem bin_fle (t : TypeId) (a b : Nat) : binOp .leq t (.float .f64 a) (.float .f64 b) = pure (.bool (fle (val a) (val b))) := by
  rw [binOp_float_cmp_leq, fle, val_ford]
@[go_sem high] theorem bin_fgt (t : TypeId) (a b : Nat) : binOp .gtr t (.float .f64 a) (.float .f64 b) = pure (.bool (flt (val b) (val a))) := by
  rw [binOp_float_cmp_gtr, flt, ford_swap, val_ford]
  cases FloatKind.f64.format.order a b with
  | none => rfl
  | some o => cases o <;> rfl
@[go_sem high] theorem bin_fge (t : TypeId) (a b : Nat) : binOp .geq t (.float .f64 a) (.float .f64 b) = pure (.bool (fle (val b) (val a))) := by
  rw [binOp_float_cmp_geq, fle, ford_swap, val_ford]
  cases FloatKind.f64.format.order a b with
  | none => rfl
  | some o => cases o <;> rfl
@[go_sem high] theorem run_ceq {P : Program} (w : World) (t : TypeId) (a b c d : Nat) : (binOp .eql t (.complex .f64 a b) (.complex .f64 c d)).run P w = .ok (.bool (feq (val a) (val c) && feq (val b) (val d))) w := by
  rw [run_eql_complex, feq, feq, val_ford, val_ford]
@[go_sem high] theorem run_cne {P : Program} (w : World) (t : TypeId) (a b c d : Nat) : (binOp .neq t (.complex .f64 a b) (.complex .f64 c d)).run P w = .ok (.bool (!(feq (val a) (val c) && feq (val b) (val d)))) w := by
  rw [run_neq_complex, feq, feq, val_ford, val_ford]

theorem isW_0 : IsW 0 := by unfold IsW; omega
theorem isW_inf : IsW 9218868437227405312 := by unfold IsW; omega
theorem val_inj {r c : Nat} (h : val r = some c) : r = c := by
  unfold val at h
  split at h
  · cases h
  · exact Option.some.inj h

/-- The greater, the less of two. -/
def fmax (x y : Option Nat) : Option Nat := x.bind fun a => y.bind fun b => match Ieee.double.order a b with
  | none => none | some .lt => some b | some .gt => some a | some .eq => some (if (Ieee.double.read a).neg then b else a)
def fmin (x y : Option Nat) : Option Nat := x.bind fun a => y.bind fun b => match Ieee.double.order a b with
  | none => none | some .lt => some a | some .gt => some b | some .eq => some (if (Ieee.double.read a).neg then a else b)

theorem order_nan {a b : Nat} (h : Ieee.double.order a b = none) : nanB a = true ∨ nanB b = true := by
  rw [← read_nan, ← read_nan]
  unfold Ieee.Format.order at h
  cases ha : Ieee.double.read a <;> cases hb : Ieee.double.read b <;> rw [ha, hb] at h <;> simp [Ieee.Datum.order] at h <;> simp [Ieee.Datum.isNaN]

theorem order_some {a b : Nat} {o : Ordering} (h : Ieee.double.order a b = some o) : nanB a = false ∧ nanB b = false := by
  rw [← read_nan, ← read_nan]
  unfold Ieee.Format.order at h
  cases ha : Ieee.double.read a <;> cases hb : Ieee.double.read b <;> rw [ha, hb] at h <;> simp [Ieee.Datum.order] at h <;> simp [Ieee.Datum.isNaN]

theorem minmax_cut (g : Bool) (x y t : Nat) : nanB (Question.cut (.nanMinMax .f64 g x y) t) = true ∧ IsW (Question.cut (.nanMinMax .f64 g x y) t) := by
  unfold Question.cut nanB IsW
  simp only [decide_eq_true_eq]
  have h1 : t % 2 < 2 := Nat.mod_lt _ (by omega)
  have h2 : t / 2 % (2 ^ 52 - 1) < 2 ^ 52 - 1 := Nat.mod_lt _ (by decide)
  generalize t % 2 = u at *
  generalize t / 2 % (2 ^ 52 - 1) = v at *
  omega

theorem fmax_none {a b : Nat} (h : Ieee.double.order a b = none) : fmax (val a) (val b) = none := by
  rcases order_nan h with h | h
  · simp [fmax, val_none h]
  · cases ha : val a <;> simp [fmax, val_none h]

theorem fmin_none {a b : Nat} (h : Ieee.double.order a b = none) : fmin (val a) (val b) = none := by
  rcases order_nan h with h | h
  · simp [fmin, val_none h]
  · cases ha : val a <;> simp [fmin, val_none h]

theorem run_fmax {P : Program} (w : World) (ts : Array TypeId) (t : TypeId) (p q : Nat) (hp : IsW p) (hq : IsW q) :
    ∃ r n, (Builtin.max_ ts t #[.float .f64 p, .float .f64 q]).run P w = .ok (.float .f64 r) (w.drewN n) ∧ val r = fmax (val p) (val q) ∧ IsW r := by
  have hb : Builtin.max_ ts t #[.float .f64 p, .float .f64 q] = Builtin.max2 (.float .f64 p) (.float .f64 q) := by
    simp [Builtin.max_]
  rw [hb]
  cases h : Ieee.double.order p q with
  | none =>
    have hn := minmax_cut true p q (w.tape w.drawn (.nanMinMax .f64 true p q))
    refine ⟨_, 1, ?_, ?_, hn.2⟩
    · have h' : FloatKind.f64.format.order p q = none := h
      simp [Builtin.max2, h', Question.forced]; rfl
    · rw [val_none hn.1, fmax_none h]
  | some o =>
    have h' : FloatKind.f64.format.order p q = some o := h
    obtain ⟨h1, h2⟩ := order_some h
    cases o with
    | lt => exact ⟨q, 0, by simp [Builtin.max2, h']; rfl, by simp [fmax, val_some h1, val_some h2, h], hq⟩
    | gt => exact ⟨p, 0, by simp [Builtin.max2, h']; rfl, by simp [fmax, val_some h1, val_some h2, h], hp⟩
    | eq =>
      refine ⟨if (Ieee.double.read p).neg then q else p, 0, by simp [Builtin.max2, h']; exact ⟨rfl, rfl⟩, ?_, by split <;> assumption⟩
      simp only [fmax, val_some h1, val_some h2, h, Option.bind_some]
      split
      · rw [val_some h2]
      · rw [val_some h1]

theorem run_fmin {P : Program} (w : World) (ts : Array TypeId) (t : TypeId) (p q : Nat) (hp : IsW p) (hq : IsW q) :
    ∃ r n, (Builtin.min_ ts t #[.float .f64 p, .float .f64 q]).run P w = .ok (.float .f64 r) (w.drewN n) ∧ val r = fmin (val p) (val q) ∧ IsW r := by
  have hb : Builtin.min_ ts t #[.float .f64 p, .float .f64 q] = Builtin.min2 (.float .f64 p) (.float .f64 q) := by
    simp [Builtin.min_]
  rw [hb]
  cases h : Ieee.double.order p q with
  | none =>
    have hn := minmax_cut false p q (w.tape w.drawn (.nanMinMax .f64 false p q))
    refine ⟨_, 1, ?_, ?_, hn.2⟩
    · have h' : FloatKind.f64.format.order p q = none := h
      simp [Builtin.min2, h', Question.forced]; rfl
    · rw [val_none hn.1, fmin_none h]
  | some o =>
    have h' : FloatKind.f64.format.order p q = some o := h
    obtain ⟨h1, h2⟩ := order_some h
    cases o with
    | lt => exact ⟨p, 0, by simp [Builtin.min2, h']; rfl, by simp [fmin, val_some h1, val_some h2, h], hp⟩
    | gt => exact ⟨q, 0, by simp [Builtin.min2, h']; rfl, by simp [fmin, val_some h1, val_some h2, h], hq⟩
    | eq =>
      refine ⟨if (Ieee.double.read p).neg then p else q, 0, by simp [Builtin.min2, h']; exact ⟨rfl, rfl⟩, ?_, by split <;> assumption⟩
      simp only [fmin, val_some h1, val_some h2, h, Option.bind_some]
      split
      · rw [val_some h1]
      · rw [val_some h2]

/-- The root. -/
def fsqrt (x : Option Nat) : Option Nat := x.bind fun a => Ieee.double.sqrt a

theorem run_fsqrt {P : Program} (w : World) (p : Nat) :
    ∃ r n, (Extern.MathSqrt.sqrt #[.float .f64 p]).run P w = .ok (.float .f64 r) (w.drewN n) ∧ val r = fsqrt (val p) ∧ IsW r := by
  have hbody : Extern.MathSqrt.sqrt #[.float .f64 p] = (match FloatKind.f64.format.sqrt p with
    | some r => pure (.float .f64 r)
    | none => do pure (.float .f64 (← choose (.nanBits .f64 p p)))) := rfl
  rw [hbody]
  cases h : FloatKind.f64.format.sqrt p with
  | some r =>
    obtain ⟨d, hd, rfl⟩ := Option.map_eq_some_iff.1 (show ((Ieee.double.read p).root _).map Ieee.double.write = some r from h)
    obtain ⟨h1, h2⟩ := root_nan hd
    rw [read_nan] at h1
    have hw := write_not_nan d h2
    refine ⟨_, 0, rfl, ?_, hw.2⟩
    rw [val_some h1, val_some hw.1]
    exact h.symm
  | none =>
    have hn := nan_cut p p (w.tape w.drawn (.nanBits .f64 p p))
    refine ⟨_, 1, by simp [Question.forced]; rfl, ?_, hn.2⟩
    rw [val_none hn.1]
    cases hp : nanB p
    · rw [val_some hp]; exact h.symm
    · rw [val_none hp]; rfl

section
variable {P : Program} {o : Oper} {a : Act} {K : Act → World → Prop} {Q : Exit → Act → World → Prop} {w : World}
theorem upon_fmax {ts : Array TypeId} {t : TypeId} {p q : Nat} (hp : IsW p) (hq : IsW q) (h : ∀ r n, val r = fmax (val p) (val q) → IsW r → K (a.put o.dst (.float .f64 r)) (w.drewN n)) :
    Oper.upon P o a K Q ((Sem.run P (Builtin.max_ ts t #[.float .f64 p, .float .f64 q]) w).andThen fun x w' => .ok (.value x) w') := by
  obtain ⟨r, n, hr, hv, hl⟩ := run_fmax (P := P) w ts t p q hp hq
  rw [hr]
  exact h r n hv hl
theorem upon_fmin {ts : Array TypeId} {t : TypeId} {p q : Nat} (hp : IsW p) (hq : IsW q) (h : ∀ r n, val r = fmin (val p) (val q) → IsW r → K (a.put o.dst (.float .f64 r)) (w.drewN n)) :
    Oper.upon P o a K Q ((Sem.run P (Builtin.min_ ts t #[.float .f64 p, .float .f64 q]) w).andThen fun x w' => .ok (.value x) w') := by
  obtain ⟨r, n, hr, hv, hl⟩ := run_fmin (P := P) w ts t p q hp hq
  rw [hr]
  exact h r n hv hl
end

/-- The sign turned; the sign struck; a whole number's real. -/
def negB (b : Nat) : Nat := b ^^^ 9223372036854775808
def fneg (x : Option Nat) : Option Nat := x.map negB
def sizeB (b : Nat) : Nat := b % 9223372036854775808
def fsize (x : Option Nat) : Option Nat := x.map sizeB
def ofInt (n : Int) : Nat := floatOfInt .f64 n

theorem negB_mod (b : Nat) : negB b % 9223372036854775808 = b % 9223372036854775808 := by
  unfold negB
  have h := Nat.xor_mod_two_pow (a := b) (b := 9223372036854775808) (n := 63)
  have e : (2 : Nat) ^ 63 = 9223372036854775808 := by decide
  rw [e] at h
  rw [h]
  simp

theorem nanB_neg (b : Nat) : nanB (negB b) = nanB b := by unfold nanB; rw [negB_mod]
theorem val_neg (b : Nat) : val (negB b) = fneg (val b) := by
  cases h : nanB b
  · rw [val_some h, val_some (by rw [nanB_neg]; exact h)]; rfl
  · rw [val_none h, val_none (by rw [nanB_neg]; exact h)]; rfl
theorem nanB_size (b : Nat) : nanB (sizeB b) = nanB b := by unfold nanB sizeB; rw [Nat.mod_mod]
theorem val_size (b : Nat) : val (sizeB b) = fsize (val b) := by
  cases h : nanB b
  · rw [val_some h, val_some (by rw [nanB_size]; exact h)]; rfl
  · rw [val_none h, val_none (by rw [nanB_size]; exact h)]; rfl
theorem isW_neg {b : Nat} (h : IsW b) : IsW (negB b) := by
  unfold IsW negB at *
  exact Nat.xor_lt_two_pow (n := 64) h (by decide)
theorem isW_size (b : Nat) : IsW (sizeB b) := by unfold IsW sizeB; omega
theorem isW_ofInt (n : Int) : IsW (ofInt n) := by
  have h := floatOfInt_wf .f64 n
  unfold ofInt IsW
  simpa [Lit.wf] using h

@[go_sem high] theorem run_fneg (b : Nat) : Op.unary .neg (.float .f64 b) = pure (.float .f64 (negB b)) := rfl

theorem isW_lit_mod {b : Nat} (h : IsW b) : b % 18446744073709551616 = b := Nat.mod_eq_of_lt h

/-- 'u &^ (1 << 63)', 'u ^ 1<<63' of a word. -/
@[go_sem high] theorem intBits_clear (x : Nat) : Op.intBits .andNot .u64 (x : Int) 9223372036854775808 = pure (.int .u64 (sizeB x : Nat)) := by
  rw [intBits_andNot]
  have h : bits .andNot .u64 (x : Int) 9223372036854775808 = (sizeB x : Nat) := by
    show IntKind.u64.wrap ((BitVec.ofInt 64 (x : Int) &&& ~~~ (BitVec.ofInt 64 9223372036854775808)).toNat : Int) = _
    have e : (~~~ (BitVec.ofInt 64 9223372036854775808)).toNat = 2 ^ 63 - 1 := by decide
    rw [BitVec.toNat_and, e, Nat.and_two_pow_sub_one_eq_mod, BitVec.ofInt_natCast, BitVec.toNat_ofNat, IntKind.wrap_u64]
    unfold sizeB
    omega
  rw [h]

theorem intBits_turn (x : Nat) (hx : IsW x) : Op.intBits .xor .u64 (x : Int) 9223372036854775808 = pure (.int .u64 (negB x : Nat)) := by
  rw [intBits_xor]
  have h : bits .xor .u64 (x : Int) 9223372036854775808 = (negB x : Nat) := by
    show IntKind.u64.wrap ((BitVec.ofInt 64 (x : Int) ^^^ (BitVec.ofInt 64 9223372036854775808)).toNat : Int) = _
    have e : (BitVec.ofInt 64 9223372036854775808).toNat = 9223372036854775808 := by decide
    have hn := isW_neg hx
    unfold IsW at hn hx
    unfold negB at hn ⊢
    rw [BitVec.toNat_xor, BitVec.ofInt_natCast, BitVec.toNat_ofNat, e, Nat.mod_eq_of_lt hx, IntKind.wrap_u64]
    omega
  rw [h]

end Go.Proofs.Ytgcakhmdmajplaa

namespace Go.Proofs.Ytgcakhmdmajplaa
open Go.RowKit

theorem hid {p : Prop} (h : p) : Hid p := h

/-- The slice at 'a' reads as xs, a cell an element. -/
def Row (w : World) (a : Option Addr) (xs : List Value) : Prop :=
  xs ≠ [] → ∃ b off, a = some ⟨b, off, none⟩ ∧ ∀ i x, xs[i]? = some x → w.cell? ⟨b, off + i, none⟩ = some x

theorem Row.nil (w : World) (a : Option Addr) : Row w a [] := fun h => absurd rfl h

theorem Row.at {w : World} {a : Option Addr} {xs : List Value} (h : Row w a xs) {k : Nat} {x : Value} (hx : xs[k]? = some x) :
    ∃ b off, a = some ⟨b, off, none⟩ ∧ ∀ i x, xs[i]? = some x → w.cell? ⟨b, off + i, none⟩ = some x :=
  h (by intro e; subst e; simp at hx)

theorem Row.below {w w' : World} {a : Option Addr} {xs : List Value} (h : Row w a xs) (hb : Below w.heap.size w w') : Row w' a xs := by
  intro hne
  obtain ⟨b, off, rfl, hc⟩ := h hne
  exact ⟨b, off, rfl, fun i x hx => by rw [hb.cell (World.block_lt_of_cell? _ _ (hc i x hx))]; exact hc i x hx⟩

theorem Row.drewN {w : World} {a : Option Addr} {xs : List Value} (h : Row w a xs) (n : Nat) : Row (w.drewN n) a xs := h

theorem Row.take {w : World} {a : Option Addr} {xs : List Value} (h : Row w a xs) (n : Nat) : Row w a (xs.take n) := by
  intro hne
  obtain ⟨b, off, rfl, hc⟩ := h (by intro e; subst e; simp at hne)
  refine ⟨b, off, rfl, fun i x hx => hc i x ?_⟩
  rw [List.getElem?_take] at hx
  split at hx
  · exact hx
  · cases hx

theorem Row.of_owns {w : World} {base e : Nat} {v : Value} {n : Nat} {xs : List Value} (h : w.ownsRow base e 1 v n xs) :
    ∃ a cap, v = .slice a n cap ∧ xs.length = n ∧ Row w a xs ∧ n ≤ cap ∧ (a = none ∨ ∃ g, a = some ⟨g, 0, none⟩ ∧ base ≤ g ∧ g < w.heap.size) := by
  have hl : xs.length = n := by simpa using h.1
  rcases h.2 with ⟨rfl, rfl⟩ | ⟨g, cap, cur, rfl, hb, hg, hnc, hcm, hcs, ht⟩
  · refine ⟨none, 0, rfl, hl, ?_, by omega, .inl rfl⟩
    obtain rfl : xs = [] := List.eq_nil_of_length_eq_zero hl
    exact Row.nil _ _
  · refine ⟨some ⟨g, 0, none⟩, cap, rfl, hl, fun _ => ⟨g, 0, rfl, fun i x hx => ?_⟩, hnc, .inr ⟨g, rfl, hb, (Array.getElem?_eq_some_iff.1 hg).1⟩⟩
    have hi : i < n * 1 := by
      have := (List.getElem?_eq_some_iff.1 hx).1
      omega
    rw [Nat.zero_add, World.ownsRow.cellAt h i hi]
    exact hx

theorem bcell {W w1 : World} (hb : Below W.heap.size W w1) : (∀ b o, b < W.heap.size → w1.cell? ⟨b, o, none⟩ = W.cell? ⟨b, o, none⟩) ∧ (∀ b o, b < W.heap.size → w1.frozen? ⟨b, o, none⟩ = W.frozen? ⟨b, o, none⟩) :=
  ⟨fun b o h => hb.cell (p := ⟨b, o, none⟩) h, fun b o h => hb.frozen (p := ⟨b, o, none⟩) h⟩

/-- A slice value that reads as xs. -/
def Sl (w : World) (v : Value) (xs : List Value) : Prop := ∃ a cap, v = .slice a xs.length cap ∧ Row w a xs ∧ (a = none → cap = 0) ∧ xs.length ≤ cap

theorem Sl.below {w w' : World} {v : Value} {xs : List Value} (h : Sl w v xs) (hb : Below w.heap.size w w') : Sl w' v xs := by
  obtain ⟨a, cap, rfl, hr, hc, hl⟩ := h
  exact ⟨a, cap, rfl, hr.below hb, hc, hl⟩
theorem Sl.drewN {w : World} {v : Value} {xs : List Value} (h : Sl w v xs) (n : Nat) : Sl (w.drewN n) v xs := h
theorem Sl.nil (w : World) : Sl w (.slice none 0 0) [] := ⟨none, 0, rfl, Row.nil _ _, fun _ => rfl, Nat.le_refl _⟩
theorem Sl.of_owns {w : World} {base e : Nat} {v : Value} {n : Nat} {xs : List Value} (h : w.ownsRow base e 1 v n xs) : Sl w v xs := by
  have h' := h
  obtain ⟨a, cap, rfl, hl, hr, hnc, _⟩ := Row.of_owns h
  refine ⟨a, cap, by rw [hl], hr, fun ha => ?_, by omega⟩
  subst ha
  rcases h'.2 with ⟨e, _⟩ | ⟨g, c, cur, e, _⟩
  · cases e; rfl
  · cases e
/-- The beginning of a slice: full[:k]. -/
theorem Sl.take {w : World} {a : Option Addr} {n cap : Nat} {xs : List Value} (h : Sl w (.slice a n cap) xs) {k : Nat} (hk : k ≤ n) : Sl w (.slice a k cap) (xs.take k) := by
  obtain ⟨a', cap', e, hr, hc, hl⟩ := h
  cases e
  exact ⟨a, cap, by rw [List.length_take, Nat.min_eq_left hk], hr.take k, hc, by rw [List.length_take]; omega⟩

theorem below_drewN' {B : Nat} {w w' : World} (h : Below B w w') (n : Nat) : Below B w (w'.drewN n) := h.trans ⟨rfl, rfl, rfl, Nat.le_refl _, fun _ _ => rfl⟩
theorem below_of_drewN {B : Nat} {w w' : World} {n : Nat} (h : Below B (w.drewN n) w') : Below B w w' := ⟨h.os, h.tape, h.output, h.size, h.block⟩
theorem owns_drewN {w : World} {base e size : Nat} {v : Value} {n : Nat} {xs : List Value} (h : w.ownsRow base e size v n xs) (k : Nat) : (w.drewN k).ownsRow base e size v n xs := h

/-- What the call owns stays owned behind a callee that leaves all that was there alone. -/
theorem owns_below {w w' : World} {base e size : Nat} {v : Value} {n : Nat} {xs : List Value} (h : w.ownsRow base e size v n xs) (hb : Below w.heap.size w w') : w'.ownsRow base e size v n xs := by
  refine ⟨h.1, ?_⟩
  rcases h.2 with h2 | ⟨g, cap, cur, rfl, hbg, hg, r⟩
  · exact .inl h2
  · exact .inr ⟨g, cap, cur, rfl, hbg, by rw [hb.block g (Array.getElem?_eq_some_iff.1 hg).1]; exact hg, r⟩

theorem cell_new (w : World) (u : Value) (e : Nat) : ∀ j x, [u][j]? = some x → (w.alloc (.cells #[u] e)).cell? ((⟨w.heap.size, 0, none⟩ : Addr).add j) = some x := by
  intro j x hx
  match j, hx with
  | 0, hx => simp at hx; subst hx; simp [Addr.add]

/-- 'out = append(out, u)': the next element, laid in a new block of one cell, is appended. -/
theorem wpList_app1 {P : Program} {ops : Array Oper} {rest : List Oper} {o : Oper} {a : Act} {Q : Exit → Act → World → Prop} {w0 : World} (hgd : o.guard = none) (s x : Operand) (t : TypeId)
    (ho : o.op = .call { callee := .builtin .append, args := #[s, x], argTypes := #[t, t] })
    (base : Nat) (e : TypeId) (z : Value) (bytes : Nat) (ht : P.underlying t = some (.slice e)) (hinfo : (P.info? e).map (fun i => (i.zero, i.size, i.bytes)) = some (some z, 1, bytes)) (hz : z.cells.size = 1)
    (v : Value) (n : Nat) (xs : List Value) (u : Value) (hs : a.eval s = v) (hx : a.eval x = .slice (some ⟨w0.heap.size, 0, none⟩) 1 1) (hu : u.oneCell' = true)
    (hown : w0.ownsRow base e 1 v n xs) (hbytes : (n + 1) * bytes ≤ 140737488355328) (h63 : n + 1 ≤ 9223372036854775807) (hbase : base ≤ w0.heap.size)
    (h : ∀ v' w', w'.ownsRow base e 1 v' (n + 1) (xs ++ [u]) → Below base w0 w' → w0.heap.size ≤ w'.heap.size → wpList P ops Q rest (a.put o.dst v') w') : wpList P ops Q (o :: rest) a (w0.alloc (.cells #[u] e)) := by
  obtain ⟨i, hi, hz0, hz1, hz2⟩ := info_parts hinfo
  refine wpList_append_own _ hgd s x t ho base e i z 1 bytes ht hi hz0 hz1 hz2 hz (by decide) v n xs hs (hown.alloc _) ⟨w0.heap.size, 0, none⟩ 1 1 [u] hx rfl (cell_new w0 u e) (by simpa using hu) (by unfold maxLen; omega) hbytes (by simp; omega) ?_
  intro v' w' h1 h2 _
  have hbl : Below base w0 w' := ((Below.refl base w0).alloc hbase _).grown h2 (by simp; omega) (fun k hk => ((hown.alloc (.cells #[u] e)).lt k hk).1)
  exact h v' w' h1 hbl hbl.size

/-- 'out = append(out, xs...)'. -/
theorem wpList_appN {P : Program} {ops : Array Oper} {rest : List Oper} {o : Oper} {a : Act} {Q : Exit → Act → World → Prop} {w : World} (hgd : o.guard = none) (s x : Operand) (t : TypeId)
    (ho : o.op = .call { callee := .builtin .append, args := #[s, x], argTypes := #[t, t] })
    (base : Nat) (e : TypeId) (z : Value) (bytes : Nat) (ht : P.underlying t = some (.slice e)) (hinfo : (P.info? e).map (fun i => (i.zero, i.size, i.bytes)) = some (some z, 1, bytes)) (hz : z.cells.size = 1)
    (v : Value) (n : Nat) (xs : List Value) (vx : Value) (ys : List Value) (hs : a.eval s = v) (hx : a.eval x = vx) (hsl : Sl w vx ys) (hu : ∀ u ∈ ys, u.oneCell' = true)
    (hown : w.ownsRow base e 1 v n xs) (hbytes : (n + ys.length) * bytes ≤ 140737488355328) (h63 : n + ys.length ≤ 9223372036854775807) (hbase : base ≤ w.heap.size)
    (h : ∀ v' w', w'.ownsRow base e 1 v' (n + ys.length) (xs ++ ys) → Below base w w' → w.heap.size ≤ w'.heap.size → wpList P ops Q rest (a.put o.dst v') w') : wpList P ops Q (o :: rest) a w := by
  obtain ⟨i, hi, hz0, hz1, hz2⟩ := info_parts hinfo
  obtain ⟨ad, cap, rfl, hr, hc, hl⟩ := hsl
  cases ad with
  | none =>
    have hy : ys = [] := by
      by_cases hne : ys = []
      · exact hne
      · obtain ⟨b, off, e, _⟩ := hr hne; cases e
    subst hy
    obtain rfl := hc rfl
    refine wpList_plain hgd fun K hK => ?_
    have hrun := run_append_owned_none (P := P) w base t o.type e i 1 ht hi v n xs hown
    unfold Oper.wp execOp
    simp only [ho, resolve, invoke, builtin, Sem.run_bind, Sem.run_pure, Result.andThen_ok, List.map_toArray, List.map_cons, List.map_nil, hs, hx]
    simp only [List.length_nil, hrun, Result.andThen_ok, Oper.upon_value]
    refine hK _ _ (h v w ?_ (Below.refl _ _) (Nat.le_refl _))
    simpa using hown
  | some ad =>
    refine wpList_append_own _ hgd s x t ho base e i z 1 bytes ht hi hz0 hz1 hz2 hz (by decide) v n xs hs hown ad ys.length cap ys hx (by simp) ?_ hu (by unfold maxLen; omega) hbytes hbase ?_
    · intro j u hu
      obtain ⟨b, off, e, hcell⟩ := hr (by intro e; subst e; simp at hu)
      cases e
      have := hcell j u hu
      unfold Addr.add
      split
      · subst j; exact this
      · exact this
    · intro v' w' h1 h2 _
      have hbl : Below base w w' := (Below.refl base w).grown h2 hbase (fun k hk => (hown.lt k hk).1)
      exact h v' w' h1 hbl hbl.size

/-- A real, a whole number, a word, a complex number as values. -/
def F (b : Nat) : Value := .float .f64 b
def I (n : Int) : Value := .int .i64 n
def U (b : Nat) : Value := .int .u64 b
def C (z : Nat × Nat) : Value := .complex .f64 z.1 z.2

end Go.Proofs.Ytgcakhmdmajplaa

namespace Go.Proofs.Ytgcakhmdmajplaa

abbrev CV := Option Nat × Option Nat
def cv (a b : Nat) : CV := (val a, val b)
/-- Nothing but draws. -/
def Dr (w w' : World) : Prop := ∃ n, w' = w.drewN n
theorem Dr.refl (w : World) : Dr w w := ⟨0, rfl⟩
theorem Dr.mk (w : World) (n : Nat) : Dr w (w.drewN n) := ⟨n, rfl⟩
theorem Dr.trans {a b c : World} (h : Dr a b) (k : Dr b c) : Dr a c := by
  obtain ⟨n, rfl⟩ := h
  obtain ⟨m, rfl⟩ := k
  exact ⟨n + m, by simp⟩
/-- What a function hands back that makes no memory: a bool; a real; a number; with an error. -/
def RetB (w : World) (b : Bool) (e : Ending) (w' : World) : Prop := e = .returned (.bool b) ∧ Dr w w'
def RetF (w : World) (v : Option Nat) (e : Ending) (w' : World) : Prop := ∃ x, e = .returned (.float .f64 x) ∧ Dr w w' ∧ val x = v ∧ IsW x
def RetC (w : World) (z : CV) (e : Ending) (w' : World) : Prop := ∃ x y, e = .returned (.complex .f64 x y) ∧ Dr w w' ∧ cv x y = z ∧ IsW x ∧ IsW y
def RetFE (w : World) (v : Option Nat) (n : Int) (e : Ending) (w' : World) : Prop := ∃ x, e = .returned (.tuple #[.float .f64 x, .int .i64 n]) ∧ Dr w w' ∧ val x = v ∧ IsW x
def RetCE (w : World) (z : CV) (n : Int) (e : Ending) (w' : World) : Prop := ∃ x y, e = .returned (.tuple #[.complex .f64 x y, .int .i64 n]) ∧ Dr w w' ∧ cv x y = z ∧ IsW x ∧ IsW y
/-- Is a real finite? x - x is 0. -/
def fin (x : Option Nat) : Bool := feq (fsub x x) (val 0)
def cfin (z : CV) : Bool := fin z.1 && fin z.2
def czero (z : CV) : Bool := feq z.1 (val 0) && feq z.2 (val 0)
def cadd (a b : CV) : CV := (fadd a.1 b.1, fadd a.2 b.2)
def csub (a b : CV) : CV := (fsub a.1 b.1, fsub a.2 b.2)
def cmul (a b : CV) : CV := (fsub (fmul a.1 b.1) (fmul a.2 b.2), fadd (fmul a.1 b.2) (fmul a.2 b.1))
def cdiv (a b : CV) : CV :=
  if fle (fsize b.2) (fsize b.1) = true then
    (fdiv (fadd a.1 (fmul a.2 (fdiv b.2 b.1))) (fadd b.1 (fmul b.2 (fdiv b.2 b.1))), fdiv (fsub a.2 (fmul a.1 (fdiv b.2 b.1))) (fadd b.1 (fmul b.2 (fdiv b.2 b.1))))
  else
    (fdiv (fadd (fmul a.1 (fdiv b.1 b.2)) a.2) (fadd (fmul b.1 (fdiv b.1 b.2)) b.2), fdiv (fsub (fmul a.2 (fdiv b.1 b.2)) a.1) (fadd (fmul b.1 (fdiv b.1 b.2)) b.2))
def cconj (z : CV) : CV := (z.1, fneg z.2)
def cscale (x : Option Nat) (z : CV) : CV := (fmul x z.1, fmul x z.2)
def size1 (z : CV) : Option Nat := fadd (fsize z.1) (fsize z.2)
def size2 (z : CV) : Option Nat := fadd (fmul z.1 z.1) (fmul z.2 z.2)
/-- The number's size, the greater part g, the other l. -/
def hyp (g l : Option Nat) : Option Nat := fmul g (fsqrt (fadd (val 4607182418800017408) (fmul (fdiv l g) (fdiv l g))))
def inf : Option Nat := val 9218868437227405312
/-- math.IsInf(x, 0): beyond the greatest real. -/
def isInf (x : Option Nat) : Bool := flt (val 9218868437227405311) (fsize x)
def absP (z : CV) : Option Nat :=
  if (isInf z.1 || isInf z.2) = true then inf
  else if (feq (fsize z.1) (val 0) && feq (fsize z.2) (val 0)) = true then val 0
  else if flt (fsize z.1) (fsize z.2) = true then hyp (fsize z.2) (fsize z.1) else hyp (fsize z.1) (fsize z.2)
/-- gridworkref02.Abs. -/
def absR (z : CV) : Option Nat :=
  if (feq (fsize z.1) inf || feq (fsize z.2) inf) = true then inf
  else if (feq (fsize z.1) (val 0) && feq (fsize z.2) (val 0)) = true then val 0
  else if (!feq (fsize z.1) (fsize z.1) || !feq (fsize z.2) (fsize z.2)) = true then fadd (fsize z.1) (fsize z.2)
  else if flt (fsize z.1) (fsize z.2) = true then hyp (fsize z.2) (fsize z.1) else hyp (fsize z.1) (fsize z.2)
def one : Option Nat := val 4607182418800017408
/-- One step of the halving of an angle. -/
def angT (t : Option Nat) : Option Nat := fdiv t (fadd one (fsqrt (fadd one (fmul t t))))
def angTs : Nat → Option Nat → Option Nat
  | 0, t => t
  | k + 1, t => angT (angTs k t)
/-- 13, 11, .., 1, -1 -/
def dB (k : Nat) : Nat := ofInt (13 - 2 * (k : Int))
def angS (u : Option Nat) : Nat → Option Nat
  | 0 => val 4589468260265693457
  | k + 1 => fsub (fdiv one (val (dB k))) (fmul u (angS u k))
/-- The angle in steps of which t is the tangent of an eighth. -/
def angV (t : Option Nat) : Option Nat := fmul (fmul (fmul (val 4620693217682128896) t) (angS (fmul t t) 7)) (val 4615783660508851396)
def angB (c : Bool) (v : Option Nat) : Option Nat := if c = true then fsub (val 4618441417868443648) v else v
def angR (c : Bool) (v : Option Nat) : Option Nat := if c = true then fsub (val 4622945017495814144) v else v
def angI (c : Bool) (v : Option Nat) : Option Nat := if c = true then fsub (val 0) v else v
/-- The angle of re, im, t being the quotient of the less and the greater size. -/
def angW (z : CV) (t : Option Nat) : Option Nat :=
  angI (flt z.2 (val 0)) (angR (flt z.1 (val 0)) (angB (flt (fsize z.1) (fsize z.2)) (angV (angTs 3 t))))
def angP (z : CV) : Option Nat := angW z (fdiv (fmin (fsize z.1) (fsize z.2)) (fmax (fsize z.1) (fsize z.2)))
def angRef (z : CV) : Option Nat := angW z (if flt (fsize z.2) (fsize z.1) = true then fdiv (fsize z.2) (fsize z.1) else fdiv (fsize z.1) (fsize z.2))
/-- The errors of an angle. -/
def angE (z : CV) : Int := if cfin z = true then (if czero z = true then 2 else 0) else 5
/-- What a gain is told to be, with its error. -/
def ofE (a b : CV) : Int := if (cfin a && cfin b) = true then (if czero b = true then 7 else if cfin (cdiv a b) = true then 0 else 6) else 5
def ofG (a b : CV) : CV := if ofE a b = 0 then cdiv a b else (val 0, val 0)
def szE (z : CV) (x : Option Nat) : Int := if cfin z = true then (if fin x = true then 0 else 6) else 5
def szG (z : CV) (x : Option Nat) : Option Nat := if szE z x = 0 then x else val 0
def lagG (z : CV) (a : Option Nat) : Option Nat := if angE z = 0 then fsub (val 0) a else val 0
/-- above: finite, above 0. -/
def aboveE (x : Option Nat) : Int := if fin x = true then (if flt (val 0) x = true then 0 else 2) else 5
def RetE (w : World) (n : Int) (e : Ending) (w' : World) : Prop := e = .returned (.int .i64 n) ∧ Dr w w'
/-- Half power: the error; the greatest; at which places the side changes. -/
def halfE (l : List (Option Nat)) : Int := if 4096 < l.length then 3 else if l.all fin = true then (if l.any (fun x => flt x (val 0)) = true then 2 else 0) else 5
def halfM (l : List (Option Nat)) : Option Nat := l.foldl fmax (val 0)
def halfAt (l : List (Option Nat)) (h : Option Nat) (i : Nat) : Bool := decide (1 ≤ i) && (flt (l.getD (i - 1) none) h != flt (l.getD i none) h)
def halfP (l : List (Option Nat)) (h : Option Nat) (n : Nat) : List Int := ((List.range n).filter (halfAt l h)).map Int.ofNat
def halfL (l : List (Option Nat)) : List Int := if halfE l = 0 then halfP l (fdiv (halfM l) (val 4611686018427387904)) l.length else []
theorem halfP_zero (l : List (Option Nat)) (h : Option Nat) : halfP l h 0 = [] := rfl
theorem halfP_one (l : List (Option Nat)) (h : Option Nat) : halfP l h 1 = [] := rfl
theorem halfP_succ (l : List (Option Nat)) (h : Option Nat) (n : Nat) : halfP l h (n + 1) = halfP l h n ++ (if halfAt l h n = true then [(n : Int)] else []) := by
  unfold halfP
  rw [List.range_succ, List.filter_append, List.map_append]
  congr 1
  by_cases hn : halfAt l h n = true <;> simp [hn]
theorem halfP_length (l : List (Option Nat)) (h : Option Nat) (n : Nat) : (halfP l h n).length ≤ n := by
  unfold halfP
  rw [List.length_map]
  have := List.length_filter_le (halfAt l h) (List.range n)
  simpa using this
end Go.Proofs.Ytgcakhmdmajplaa

namespace Go.Proofs.Ytgcakhmdmajplaa
open Go.RowKit

theorem cells_new (w : World) (cs : List Value) (e : Nat) : ∀ j x, cs[j]? = some x → (w.alloc (.cells cs.toArray e)).cell? ((⟨w.heap.size, 0, none⟩ : Addr).add j) = some x := by
  intro j x hx
  have h : (⟨w.heap.size, 0, none⟩ : Addr).add j = ⟨w.heap.size, j, none⟩ := by
    simp [Addr.add]
    intro hj
    omega
  rw [h, World.cell?_alloc_new]
  simpa using hx

/-- 'out = append(out, u)', u a struct of the cells cs. -/
theorem wpList_appS {P : Program} {ops : Array Oper} {rest : List Oper} {o : Oper} {a : Act} {Q : Exit → Act → World → Prop} {w0 : World} (hgd : o.guard = none) (s x : Operand) (t : TypeId)
    (ho : o.op = .call { callee := .builtin .append, args := #[s, x], argTypes := #[t, t] })
    (base : Nat) (e : TypeId) (z : Value) (size bytes : Nat) (hsz : 0 < size) (ht : P.underlying t = some (.slice e)) (hinfo : (P.info? e).map (fun i => (i.zero, i.size, i.bytes)) = some (some z, size, bytes)) (hz : z.cells.size = size)
    (v : Value) (n : Nat) (xs : List Value) (cs : List Value) (hs : a.eval s = v) (hx : a.eval x = .slice (some ⟨w0.heap.size, 0, none⟩) 1 1) (hl : cs.length = size) (hu : ∀ u ∈ cs, u.oneCell' = true)
    (hown : w0.ownsRow base e size v n xs) (hbytes : (n + 1) * bytes ≤ 140737488355328) (h63 : n + 1 ≤ 9223372036854775807) (hbase : base ≤ w0.heap.size)
    (h : ∀ v' w', w'.ownsRow base e size v' (n + 1) (xs ++ cs) → Below base w0 w' → w0.heap.size ≤ w'.heap.size → wpList P ops Q rest (a.put o.dst v') w') : wpList P ops Q (o :: rest) a (w0.alloc (.cells cs.toArray e)) := by
  obtain ⟨i, hi, hz0, hz1, hz2⟩ := info_parts hinfo
  refine wpList_append_own _ hgd s x t ho base e i z size bytes ht hi hz0 hz1 hz2 hz hsz v n xs hs (hown.alloc _) ⟨w0.heap.size, 0, none⟩ 1 1 cs hx (by rw [hl, Nat.one_mul]) (cells_new w0 cs e) hu (by unfold maxLen; omega) hbytes (by simp; omega) ?_
  intro v' w' h1 h2 _
  have hbl : Below base w0 w' := ((Below.refl base w0).alloc hbase _).grown h2 (by simp; omega) (fun k hk => ((hown.alloc (.cells cs.toArray e)).lt k hk).1)
  exact h v' w' h1 hbl hbl.size
end Go.Proofs.Ytgcakhmdmajplaa

namespace Go.Proofs.Ytgcakhmdmajplaa
open Go.RowKit

structure Rw where
  e : TypeId
  size : Nat
  v : Value
  n : Nat
  xs : List Value
def Rw.nil (e size : Nat) : Rw := ⟨e, size, .slice none 0 0, 0, []⟩
structure RS (B : Nat) (ρ : Nat → Rw) (w : World) : Prop where
  own : ∀ i, w.ownsRow B (ρ i).e (ρ i).size (ρ i).v (ρ i).n (ρ i).xs
  ap : ∀ i j, i ≠ j → (ρ i).v.ownBlock = none ∨ (ρ i).v.ownBlock ≠ (ρ j).v.ownBlock
def upd (ρ : Nat → Rw) (i : Nat) (r : Rw) : Nat → Rw := fun j => if j = i then r else ρ j
theorem upd_same (ρ : Nat → Rw) (i : Nat) (r : Rw) : upd ρ i r i = r := by simp [upd]
theorem upd_ne (ρ : Nat → Rw) {i j : Nat} (r : Rw) (h : j ≠ i) : upd ρ i r j = ρ j := by simp [upd, h]
theorem upd_b (ρ : Nat → Rw) {a b c : Nat} (x y z : Rw) (h : b ≠ c) : upd (upd (upd ρ a x) b y) c z b = y := (upd_ne _ _ h).trans (upd_same _ _ _)
theorem upd_c (ρ : Nat → Rw) {a b c : Nat} (x y z : Rw) (h : b ≠ a) (h2 : b ≠ c) : upd (upd (upd ρ b y) a x) c z b = y := ((upd_ne _ _ h2).trans (upd_ne _ _ h)).trans (upd_same _ _ _)
theorem own_mono {w : World} {b b' e size : Nat} {v : Value} {n : Nat} {xs : List Value} (h : w.ownsRow b e size v n xs) (hb : b' ≤ b) : w.ownsRow b' e size v n xs := by
  refine ⟨h.1, ?_⟩
  rcases h.2 with h2 | ⟨g, cap, cur, rfl, hbg, r⟩
  · exact .inl h2
  · exact .inr ⟨g, cap, cur, rfl, Nat.le_trans hb hbg, r⟩
theorem own_cap {w : World} {B e size : Nat} {v : Value} {n : Nat} {xs : List Value} (h : w.ownsRow B e size v n xs) : ∃ a c, v = .slice a n c ∧ n ≤ c := by
  rcases h.2 with ⟨rfl, rfl⟩ | ⟨g, cap, cur, rfl, _, _, h, _⟩
  · exact ⟨_, _, rfl, Nat.le_refl _⟩
  · exact ⟨_, _, rfl, h⟩
section
variable {B : Nat} {ρ : Nat → Rw} {w w' : World}
theorem RS.start (B : Nat) (ty : Nat → Nat × Nat) (w : World) : RS B (fun i => Rw.nil (ty i).1 (ty i).2) w := ⟨fun _ => World.ownsRow_nil _ _ _ _, fun _ _ _ => .inl rfl⟩
theorem RS.drew (h : RS B ρ w) : RS B ρ w.drew := ⟨h.own, h.ap⟩
theorem RS.drewN (h : RS B ρ w) (n : Nat) : RS B ρ (w.drewN n) := ⟨h.own, h.ap⟩
theorem RS.below (h : RS B ρ w) (hb : Below w.heap.size w w') : RS B ρ w' := ⟨fun i => owns_below (h.own i) hb, h.ap⟩
theorem RS.alloc (h : RS B ρ w) (o : Obj) : RS B ρ (w.alloc o) := h.below ((Below.refl _ w).alloc (Nat.le_refl _) o)
/-- Whatever turns one row's block alone. -/
theorem RS.grow (h : RS B ρ w) {i : Nat} (hg : w.grownBy w' (ρ i).v.ownBlock) {e size n : Nat} {v : Value} {xs : List Value} (hr : w'.ownsRow B e size v n xs) (hv : v.ownBlock = none ∨ v.ownBlock = (ρ i).v.ownBlock ∨ ∃ g, v.ownBlock = some g ∧ w.heap.size ≤ g) : RS B (upd ρ i ⟨e, size, v, n, xs⟩) w' := by
  refine ⟨fun j => ?_, fun j k hjk => ?_⟩
  · by_cases hj : j = i
    · subst hj
      rw [upd_same]
      exact hr
    · rw [upd_ne _ _ hj]
      exact (h.own j).kept hg (h.ap j i hj)
  · have old : ∀ j, ∀ g, (ρ j).v.ownBlock = some g → g < w.heap.size := fun j g hg => ((h.own j).lt g hg).2
    by_cases hj : j = i
    · subst hj
      rw [upd_same, upd_ne _ _ (Ne.symm hjk)]
      rcases hv with hv | hv | ⟨g, hv, hgs⟩
      · exact .inl hv
      · show v.ownBlock = none ∨ v.ownBlock ≠ _
        rw [hv]
        exact h.ap j k hjk
      · refine .inr fun e2 => ?_
        have e3 : v.ownBlock = (ρ k).v.ownBlock := e2
        rw [hv] at e3
        have := old k g e3.symm
        omega
    · rw [upd_ne _ _ hj]
      by_cases hk : k = i
      · subst hk
        rw [upd_same]
        show _ ∨ _ ≠ v.ownBlock
        rcases hv with hv | hv | ⟨g, hv, hgs⟩
        · rw [hv]
          cases (ρ j).v.ownBlock <;> simp
        · rw [hv]
          exact h.ap j k hjk
        · rw [hv]
          refine .inr fun e2 => ?_
          have := old j g e2
          omega
      · rw [upd_ne _ _ hk]
        exact h.ap j k hjk
/-- A row that somebody has made in memory of its own. -/
theorem RS.push (h : RS B ρ w) (hB : B ≤ w.heap.size) (hb : Below w.heap.size w w') (i : Nat) {b e size n : Nat} {v : Value} {xs : List Value} (hbb : w.heap.size ≤ b) (hr : w'.ownsRow b e size v n xs) : RS B (upd ρ i ⟨e, size, v, n, xs⟩) w' := by
  refine RS.grow h (w' := w') ⟨hb.os, hb.tape, hb.output, hb.size, fun k hk _ => hb.block k hk⟩ (own_mono hr (Nat.le_trans hB hbb)) ?_
  cases hv : v.ownBlock with
  | none => exact .inl rfl
  | some g => exact .inr (.inr ⟨g, rfl, Nat.le_trans hbb (hr.lt g hv).1⟩)
/-- The slice of one element that a call of append is handed. -/
theorem RS.one (h : RS B ρ w) (hB : B ≤ w.heap.size) (i : Nat) (e : Nat) (cs : List Value) : RS B (upd ρ i ⟨e, cs.length, .slice (some ⟨w.heap.size, 0, none⟩) 1 1, 1, cs⟩) (w.alloc (.cells cs.toArray e)) := by
  refine h.push hB ((Below.refl _ w).alloc (Nat.le_refl _) _) i (Nat.le_refl _) ⟨by simp, .inr ⟨w.heap.size, 1, cs.toArray, rfl, Nat.le_refl _, ?_, Nat.le_refl _, by decide, by simp, by simp⟩⟩
  show (w.heap.push _)[w.heap.size]? = _
  simp
theorem RS.sl (h : RS B ρ w) (i : Nat) (hs : (ρ i).size = 1) : Sl w (ρ i).v (ρ i).xs := Sl.of_owns (by have := h.own i; rw [hs] at this; exact this)
theorem RS.at (h : RS B ρ w) {i e size n : Nat} {v : Value} {xs : List Value} (hi : ρ i = ⟨e, size, v, n, xs⟩) : w.ownsRow B e size v n xs := by
  have h1 := h.own i
  rw [hi] at h1
  exact h1
/-- A cell stored into the row i. -/
theorem RS.store (h : RS B ρ w) {i e size g n cap : Nat} {xs : List Value} (hi : ρ i = ⟨e, size, .slice (some ⟨g, 0, none⟩) n cap, n, xs⟩) (j : Nat) (x : Value) : RS B (upd ρ i ⟨e, size, .slice (some ⟨g, 0, none⟩) n cap, n, xs.set j x⟩) (w.setCell ⟨g, j, none⟩ x) := by
  have h1 := h.own i
  rw [hi] at h1
  obtain ⟨h2, h3⟩ := h1.stored j x
  exact h.grow (i := i) (by rw [hi]; exact h3) h2 (.inr (.inl (by rw [hi])))
theorem RS.cell (h : RS B ρ w) {i e size g n cap : Nat} {xs : List Value} (hi : ρ i = ⟨e, size, .slice (some ⟨g, 0, none⟩) n cap, n, xs⟩) {j : Nat} {u : Value} (hu : xs[j]? = some u) : w.cell? ⟨g, j, none⟩ = some u := by
  have h1 := h.at hi
  have h2 := (List.getElem?_eq_some_iff.1 hu).1
  have h3 : xs.length = n * size := h1.1
  rw [h1.cellAt j (by omega)]
  exact hu
theorem RS.cell' (h : RS B ρ w) {ρ0 : Nat → Rw} {i e size g n cap : Nat} {xs : List Value} (h0 : ρ0 i = ⟨e, size, .slice (some ⟨g, 0, none⟩) n cap, n, xs⟩) {j : Nat} {u : Value} (hu : xs[j]? = some u) (hi : ρ i = ρ0 i) : w.cell? ⟨g, j, none⟩ = some u := h.cell (hi.trans h0) hu
theorem RS.fr (h : RS B ρ w) {i e size g n cap : Nat} {xs : List Value} (hi : ρ i = ⟨e, size, .slice (some ⟨g, 0, none⟩) n cap, n, xs⟩) (j : Nat) : w.frozen? ⟨g, j, none⟩ = false := by
  have h1 := h.own i
  rw [hi] at h1
  exact h1.frozenAt j
theorem RS.form (h : RS B ρ w) {i e size n : Nat} {v : Value} {xs : List Value} (hi : ρ i = ⟨e, size, v, n, xs⟩) (hn : 0 < n) : ∃ g cap, v = .slice (some ⟨g, 0, none⟩) n cap := by
  obtain ⟨g, cap, rfl, _, _⟩ := (h.at hi).form hn
  exact ⟨g, cap, rfl⟩
theorem flat_get {f : Nat → List Value} {m : Nat} (hm : ∀ j, (f j).length = m) : ∀ (k j t : Nat), j < k → t < m → ((List.range k).flatMap f)[j * m + t]? = (f j)[t]? := by
  intro k
  induction k with
  | zero => intro j t hj; omega
  | succ k ih =>
    intro j t hj ht
    have hlen : ∀ q, ((List.range q).flatMap f).length = q * m := by
      intro q
      induction q with
      | zero => simp
      | succ q ihq => rw [List.range_succ, List.flatMap_append, List.length_append, ihq]; simp [hm, Nat.succ_mul]
    rw [List.range_succ, List.flatMap_append]
    by_cases hjk : j < k
    · have h1 : j * m + t < k * m := by
        have : (j + 1) * m ≤ k * m := Nat.mul_le_mul_right m hjk
        rw [Nat.succ_mul] at this
        omega
      rw [List.getElem?_append_left (by rw [hlen]; exact h1)]
      exact ih j t hjk ht
    · obtain rfl : j = k := by omega
      rw [List.getElem?_append_right (by rw [hlen]; omega), hlen]
      simp
theorem flat_snoc {f : Nat → List Value} (k : Nat) : (List.range (k + 1)).flatMap f = (List.range k).flatMap f ++ f k := by
  rw [List.range_succ, List.flatMap_append]
  simp
/-- What append wants to know of the row of one element. -/
theorem RS.news (h : RS B ρ w) {p e size b : Nat} {cs : List Value} (hp : ρ p = ⟨e, size, .slice (some ⟨b, 0, none⟩) 1 1, 1, cs⟩) : cs.length = 1 * size ∧ ∀ j u, cs[j]? = some u → w.cell? ((⟨b, 0, none⟩ : Addr).add j) = some u := by
  have h1 := h.own p
  rw [hp] at h1
  exact ⟨h1.1, h1.cells rfl⟩
end

/-- Rows of a call that began in the world W0. -/
def RSW (W0 : World) (ρ : Nat → Rw) (w : World) : Prop := RS W0.heap.size ρ w ∧ Below W0.heap.size W0 w
theorem RSW.drew {W0 w : World} {ρ : Nat → Rw} (h : RSW W0 ρ w) : RSW W0 ρ w.drew := ⟨h.1.drew, h.2.drew⟩
theorem RSW.one {W0 w : World} {ρ : Nat → Rw} (h : RSW W0 ρ w) (i : Nat) (e : Nat) (cs : List Value) : RSW W0 (upd ρ i ⟨e, cs.length, .slice (some ⟨w.heap.size, 0, none⟩) 1 1, 1, cs⟩) (w.alloc (.cells cs.toArray e)) := ⟨h.1.one h.2.size i e cs, h.2.alloc h.2.size _⟩
/-- Two rows that one call has made. -/
theorem RS.push2 {B : Nat} {ρ : Nat → Rw} {w w' : World} (h : RS B ρ w) (hB : B ≤ w.heap.size) (hb : Below w.heap.size w w') {i j : Nat} (hij : i ≠ j) {e size n e' size' n' : Nat} {v v' : Value} {xs xs' : List Value} (h1 : w'.ownsRow w.heap.size e size v n xs) (h2 : w'.ownsRow w.heap.size e' size' v' n' xs') (ha : ∀ g, v.ownBlock = some g → v'.ownBlock = some g → False) :
    RS B (upd (upd ρ i ⟨e, size, v, n, xs⟩) j ⟨e', size', v', n', xs'⟩) w' := by
  have H := h.push hB hb i (Nat.le_refl _) h1
  have key : ∀ q, q ≠ j → (upd ρ i ⟨e, size, v, n, xs⟩ q).v.ownBlock = none ∨ (upd ρ i ⟨e, size, v, n, xs⟩ q).v.ownBlock ≠ v'.ownBlock := by
    intro q hq
    by_cases hqi : q = i
    · subst hqi
      rw [upd_same]
      show v.ownBlock = none ∨ v.ownBlock ≠ v'.ownBlock
      cases hv : v.ownBlock with
      | none => exact .inl rfl
      | some g => exact .inr fun e2 => ha g hv e2.symm
    · rw [upd_ne _ _ hqi]
      cases hv : (ρ q).v.ownBlock with
      | none => exact .inl rfl
      | some g =>
        refine .inr fun e2 => ?_
        have a1 := ((h.own q).lt g hv).2
        have a2 := (h2.lt g e2.symm).1
        omega
  refine ⟨fun q => ?_, fun q r hqr => ?_⟩
  · by_cases hq : q = j
    · subst hq
      rw [upd_same]
      exact own_mono h2 hB
    · rw [upd_ne _ _ hq]
      exact H.own q
  · by_cases hq : q = j
    · subst hq
      rw [upd_same, upd_ne _ _ (Ne.symm hqr)]
      show v'.ownBlock = none ∨ v'.ownBlock ≠ _
      rcases key r (Ne.symm hqr) with k | k
      · rw [k]
        cases v'.ownBlock <;> simp
      · exact .inr fun e2 => k e2.symm
    · rw [upd_ne _ _ hq]
      by_cases hr : r = j
      · subst hr
        rw [upd_same]
        exact key q hqr
      · rw [upd_ne _ _ hr]
        exact H.ap q r hqr
theorem flat_upd {α : Type} (F : α → List Value) (f : Nat → α) (y : α) (k : Nat) : (List.range (k + 1)).flatMap (fun j => F (if j = k then y else f j)) = ((List.range k).flatMap fun j => F (f j)) ++ F y := by
  have hc : ∀ m, m ≤ k → (List.range m).flatMap (fun j => F (if j = k then y else f j)) = (List.range m).flatMap fun j => F (f j) := by
    intro m
    induction m with
    | zero => intro _; rfl
    | succ m ih =>
      intro hm
      rw [flat_snoc, flat_snoc (f := fun j => F (f j)), ih (by omega), if_neg (by omega)]
  rw [flat_snoc, hc k (Nat.le_refl _), if_pos rfl]

/-- 'out = append(out, u)' at a step of a region that draws its order: the row i grows by the element of the row p. -/
theorem step_app_rs {P : Program} {ops : Array Oper} {o : Oper} {a : Act} {K : Act → World → Prop} {Q : Exit → Act → World → Prop} {E : Prop} {w : World} (hgd : o.guard = none) (s x : Operand) (t : TypeId)
    (ho : o.op = .call { callee := .builtin .append, args := #[s, x], argTypes := #[t, t] })
    (B e : Nat) (z : Value) (size bytes : Nat) (ht : P.underlying t = some (.slice e)) (hinfo : (P.info? e).map (fun i => (i.zero, i.size, i.bytes)) = some (some z, size, bytes)) (hz : z.cells.size = size) (hsz : 0 < size)
    (ρ : Nat → Rw) (i p : Nat) (H : RS B ρ w) (v : Value) (n : Nat) (xs : List Value) (hi : ρ i = ⟨e, size, v, n, xs⟩) (b : Nat) (cs : List Value) (hp : ρ p = ⟨e, size, .slice (some ⟨b, 0, none⟩) 1 1, 1, cs⟩)
    (hs : a.eval s = v) (hx : a.eval x = .slice (some ⟨b, 0, none⟩) 1 1) (hu : ∀ u ∈ cs, u.oneCell' = true) (h63 : n + 1 ≤ maxLen) (hbytes : (n + 1) * bytes ≤ 140737488355328) (hB : B ≤ w.heap.size)
    (h : ∀ g cap w', RS B (upd ρ i ⟨e, size, .slice (some ⟨g, 0, none⟩) (n + 1) cap, n + 1, xs ++ cs⟩) w' → Below B w w' → K (a.put o.dst (.slice (some ⟨g, 0, none⟩) (n + 1) cap)) w') :
    if Region.wanted o (yielded ops a.tmps) = true then Oper.wp P o a w K Q else E := by
  obtain ⟨iE, hi1, hz0, hz1, hz2⟩ := info_parts hinfo
  obtain ⟨n1, n2⟩ := H.news hp
  have hown := H.own i
  rw [hi] at hown
  refine step_append_lies _ hgd s x t ho B e iE z size bytes ht hi1 hz0 hz1 hz2 hz hsz v n xs hs hown ⟨b, 0, none⟩ 1 1 cs hx n1 n2 hu (by decide) h63 hbytes hB _ rfl ?_
  intro g cap w' h2 h3 h4 _
  refine h g cap w' (H.grow (i := i) (by rw [hi]; exact h3) h2 ?_) ((Below.refl B w).grown h3 hB fun k hk => (hown.lt k hk).1)
  rcases h4 with h4 | h4
  · exact .inr (.inl (by rw [hi]; exact h4.symm))
  · exact .inr (.inr ⟨g, rfl, Nat.le_of_eq h4.symm⟩)
/-- The same where the order stands. -/
theorem wpList_app_rs {P : Program} {ops : Array Oper} {rest : List Oper} {o : Oper} {a : Act} {Q : Exit → Act → World → Prop} {w : World} (hgd : o.guard = none) (s x : Operand) (t : TypeId)
    (ho : o.op = .call { callee := .builtin .append, args := #[s, x], argTypes := #[t, t] })
    (B e : Nat) (z : Value) (size bytes : Nat) (ht : P.underlying t = some (.slice e)) (hinfo : (P.info? e).map (fun i => (i.zero, i.size, i.bytes)) = some (some z, size, bytes)) (hz : z.cells.size = size) (hsz : 0 < size)
    (ρ : Nat → Rw) (i : Nat) (H : RS B ρ w) (v : Value) (n : Nat) (xs : List Value) (hi : ρ i = ⟨e, size, v, n, xs⟩) (cs : List Value) (hcs : cs.length = size)
    (hs : a.eval s = v) (hx : a.eval x = .slice (some ⟨w.heap.size, 0, none⟩) 1 1) (hu : ∀ u ∈ cs, u.oneCell' = true) (h63 : n + 1 ≤ maxLen) (hbytes : (n + 1) * bytes ≤ 140737488355328) (hB : B ≤ w.heap.size)
    (h : ∀ g cap w', RS B (upd ρ i ⟨e, size, .slice (some ⟨g, 0, none⟩) (n + 1) cap, n + 1, xs ++ cs⟩) w' → Below B w w' → wpList P ops Q rest (a.put o.dst (.slice (some ⟨g, 0, none⟩) (n + 1) cap)) w') : wpList P ops Q (o :: rest) a (w.alloc (.cells cs.toArray e)) := by
  obtain ⟨iE, hi1, hz0, hz1, hz2⟩ := info_parts hinfo
  have H1 := H.alloc (.cells cs.toArray e)
  have hown := H1.own i
  rw [hi] at hown
  have hnew : ∀ j u, cs[j]? = some u → (w.alloc (.cells cs.toArray e)).cell? ((⟨w.heap.size, 0, none⟩ : Addr).add j) = some u := by
    intro j u hu
    have hadd : (⟨w.heap.size, 0, none⟩ : Addr).add j = ⟨w.heap.size, j, none⟩ := by
      simp [Addr.add]
      intro hj
      omega
    rw [hadd, World.cell?_alloc_new]
    simpa using hu
  refine wpList_append_lies _ hgd s x t ho B e iE z size bytes ht hi1 hz0 hz1 hz2 hz hsz v n xs hs hown ⟨w.heap.size, 0, none⟩ 1 1 cs hx (by omega) hnew hu (by decide) h63 hbytes (by simp; omega) _ rfl ?_
  intro g cap w' h2 h3 h4 _
  refine h g cap w' (H1.grow (i := i) (by rw [hi]; exact h3) h2 ?_) (((Below.refl B w).alloc hB _).grown h3 (by simp; omega) fun k hk => (hown.lt k hk).1)
  rcases h4 with h4 | h4
  · exact .inr (.inl (by rw [hi]; exact h4.symm))
  · exact .inr (.inr ⟨g, rfl, Nat.le_of_eq h4.symm⟩)
/-- The law of a step, the rows told behind. -/
theorem step_app_rsw {P : Program} {ops : Array Oper} {o : Oper} {a : Act} {K : Act → World → Prop} {Q : Exit → Act → World → Prop} {E : Prop} {w : World} (hgd : o.guard = none) (s x : Operand) (t : TypeId)
    (ho : o.op = .call { callee := .builtin .append, args := #[s, x], argTypes := #[t, t] })
    (W0 : World) (e : Nat) (z : Value) (size bytes : Nat) (ht : P.underlying t = some (.slice e)) (hinfo : (P.info? e).map (fun i => (i.zero, i.size, i.bytes)) = some (some z, size, bytes)) (hz : z.cells.size = size) (hsz : 0 < size) (i p : Nat) {ρ : Nat → Rw} {v : Value} {n : Nat} {xs : List Value} {b : Nat} {cs : List Value} (H : RSW W0 ρ w) (hi : ρ i = ⟨e, size, v, n, xs⟩) (hp : ρ p = ⟨e, size, .slice (some ⟨b, 0, none⟩) 1 1, 1, cs⟩) (hs : a.eval s = v) (hx : a.eval x = .slice (some ⟨b, 0, none⟩) 1 1) (hu : ∀ u ∈ cs, u.oneCell' = true) (h63 : n + 1 ≤ maxLen) (hby : (n + 1) * bytes ≤ 140737488355328)
    (hk : ∀ g cap w', RSW W0 (upd ρ i ⟨e, size, .slice (some ⟨g, 0, none⟩) (n + 1) cap, n + 1, xs ++ cs⟩) w' → K (a.put o.dst (.slice (some ⟨g, 0, none⟩) (n + 1) cap)) w') :
    if Region.wanted o (yielded ops a.tmps) = true then Oper.wp P o a w K Q else E := by
  exact step_app_rs hgd s x t ho W0.heap.size e z size bytes ht hinfo hz hsz ρ i p H.1 v n xs hi b cs hp hs hx hu h63 hby H.2.size fun g cap w' h1 h2 => hk g cap w' ⟨h1, H.2.trans h2⟩
end Go.Proofs.Ytgcakhmdmajplaa
