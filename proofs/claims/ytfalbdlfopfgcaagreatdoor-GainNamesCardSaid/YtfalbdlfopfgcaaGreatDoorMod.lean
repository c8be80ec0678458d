/- What the functions on complex numbers compute, on values (all NaNs being one). Plain functions; no program, no condition. -/
import Derived.Test.YtfalbdlfopfgcaaGreatDoorFl
namespace Go.Proofs.YtfalbdlfopfgcaaGreatDoor

abbrev CV := Option Nat × Option Nat
def cv (a b : Nat) : CV := (val a, val b)
/-- Nothing but draws. -/
def Dr (w w' : World) : Prop := ∃ n, w' = w.drewN n
theorem Dr.refl (w : World) : Dr w w := ⟨0, rfl⟩
theorem Dr.mk (w : World) (n : Nat) : Dr w (w.drewN n) := ⟨n, rfl⟩
theorem Dr.trans {a b c : World} (h : Dr a b) (k : Dr b c) : Dr a c := by
  obtain ⟨n, rfl⟩ := h
  obtain ⟨m, rfl⟩ := k
  exact ⟨n + m, by simp⟩
/-- What a function hands back that makes no memory: a bool; a real; a number; with an error. -/
def RetB (w : World) (b : Bool) (e : Ending) (w' : World) : Prop := e = .returned (.bool b) ∧ Dr w w'
def RetF (w : World) (v : Option Nat) (e : Ending) (w' : World) : Prop := ∃ x, e = .returned (.float .f64 x) ∧ Dr w w' ∧ val x = v ∧ IsW x
def RetC (w : World) (z : CV) (e : Ending) (w' : World) : Prop := ∃ x y, e = .returned (.complex .f64 x y) ∧ Dr w w' ∧ cv x y = z ∧ IsW x ∧ IsW y
def RetFE (w : World) (v : Option Nat) (n : Int) (e : Ending) (w' : World) : Prop := ∃ x, e = .returned (.tuple #[.float .f64 x, .int .i64 n]) ∧ Dr w w' ∧ val x = v ∧ IsW x
def RetCE (w : World) (z : CV) (n : Int) (e : Ending) (w' : World) : Prop := ∃ x y, e = .returned (.tuple #[.complex .f64 x y, .int .i64 n]) ∧ Dr w w' ∧ cv x y = z ∧ IsW x ∧ IsW y
/-- Is a real finite? x - x is 0. -/
def fin (x : Option Nat) : Bool := feq (fsub x x) (val 0)
def cfin (z : CV) : Bool := fin z.1 && fin z.2
def czero (z : CV) : Bool := feq z.1 (val 0) && feq z.2 (val 0)
def cadd (a b : CV) : CV := (fadd a.1 b.1, fadd a.2 b.2)
def csub (a b : CV) : CV := (fsub a.1 b.1, fsub a.2 b.2)
def cmul (a b : CV) : CV := (fsub (fmul a.1 b.1) (fmul a.2 b.2), fadd (fmul a.1 b.2) (fmul a.2 b.1))
def cdiv (a b : CV) : CV :=
  if fle (fsize b.2) (fsize b.1) = true then
    (fdiv (fadd a.1 (fmul a.2 (fdiv b.2 b.1))) (fadd b.1 (fmul b.2 (fdiv b.2 b.1))), fdiv (fsub a.2 (fmul a.1 (fdiv b.2 b.1))) (fadd b.1 (fmul b.2 (fdiv b.2 b.1))))
  else
    (fdiv (fadd (fmul a.1 (fdiv b.1 b.2)) a.2) (fadd (fmul b.1 (fdiv b.1 b.2)) b.2), fdiv (fsub (fmul a.2 (fdiv b.1 b.2)) a.1) (fadd (fmul b.1 (fdiv b.1 b.2)) b.2))
def cconj (z : CV) : CV := (z.1, fneg z.2)
def cscale (x : Option Nat) (z : CV) : CV := (fmul x z.1, fmul x z.2)
def size1 (z : CV) : Option Nat := fadd (fsize z.1) (fsize z.2)
def size2 (z : CV) : Option Nat := fadd (fmul z.1 z.1) (fmul z.2 z.2)
/-- The number's size, the greater part g, the other l. -/
def hyp (g l : Option Nat) : Option Nat := fmul g (fsqrt (fadd (val 4607182418800017408) (fmul (fdiv l g) (fdiv l g))))
def inf : Option Nat := val 9218868437227405312
/-- math.IsInf(x, 0): beyond the greatest real. -/
def isInf (x : Option Nat) : Bool := flt (val 9218868437227405311) (fsize x)
def absP (z : CV) : Option Nat :=
  if (isInf z.1 || isInf z.2) = true then inf
  else if (feq (fsize z.1) (val 0) && feq (fsize z.2) (val 0)) = true then val 0
  else if flt (fsize z.1) (fsize z.2) = true then hyp (fsize z.2) (fsize z.1) else hyp (fsize z.1) (fsize z.2)
/-- gridworkref02.Abs. -/
def absR (z : CV) : Option Nat :=
  if (feq (fsize z.1) inf || feq (fsize z.2) inf) = true then inf
  else if (feq (fsize z.1) (val 0) && feq (fsize z.2) (val 0)) = true then val 0
  else if (!feq (fsize z.1) (fsize z.1) || !feq (fsize z.2) (fsize z.2)) = true then fadd (fsize z.1) (fsize z.2)
  else if flt (fsize z.1) (fsize z.2) = true then hyp (fsize z.2) (fsize z.1) else hyp (fsize z.1) (fsize z.2)
def one : Option Nat := val 4607182418800017408
/-- One step of the halving of an angle. -/
def angT (t : Option Nat) : Option Nat := fdiv t (fadd one (fsqrt (fadd one (fmul t t))))
def angTs : Nat → Option Nat → Option Nat
  | 0, t => t
  | k + 1, t => angT (angTs k t)
/-- 13, 11, .., 1, -1 -/
def dB (k : Nat) : Nat := ofInt (13 - 2 * (k : Int))
def angS (u : Option Nat) : Nat → Option Nat
  | 0 => val 4589468260265693457
  | k + 1 => fsub (fdiv one (val (dB k))) (fmul u (angS u k))
/-- The angle in steps of which t is the tangent of an eighth. -/
def angV (t : Option Nat) : Option Nat := fmul (fmul (fmul (val 4620693217682128896) t) (angS (fmul t t) 7)) (val 4615783660508851396)
def angB (c : Bool) (v : Option Nat) : Option Nat := if c = true then fsub (val 4618441417868443648) v else v
def angR (c : Bool) (v : Option Nat) : Option Nat := if c = true then fsub (val 4622945017495814144) v else v
def angI (c : Bool) (v : Option Nat) : Option Nat := if c = true then fsub (val 0) v else v
/-- The angle of re, im, t being the quotient of the less and the greater size. -/
def angW (z : CV) (t : Option Nat) : Option Nat :=
  angI (flt z.2 (val 0)) (angR (flt z.1 (val 0)) (angB (flt (fsize z.1) (fsize z.2)) (angV (angTs 3 t))))
def angP (z : CV) : Option Nat := angW z (fdiv (fmin (fsize z.1) (fsize z.2)) (fmax (fsize z.1) (fsize z.2)))
def angRef (z : CV) : Option Nat := angW z (if flt (fsize z.2) (fsize z.1) = true then fdiv (fsize z.2) (fsize z.1) else fdiv (fsize z.1) (fsize z.2))
/-- The errors of an angle. -/
def angE (z : CV) : Int := if cfin z = true then (if czero z = true then 2 else 0) else 5
/-- What a gain is told to be, with its error. -/
def ofE (a b : CV) : Int := if (cfin a && cfin b) = true then (if czero b = true then 7 else if cfin (cdiv a b) = true then 0 else 6) else 5
def ofG (a b : CV) : CV := if ofE a b = 0 then cdiv a b else (val 0, val 0)
def szE (z : CV) (x : Option Nat) : Int := if cfin z = true then (if fin x = true then 0 else 6) else 5
def szG (z : CV) (x : Option Nat) : Option Nat := if szE z x = 0 then x else val 0
def lagG (z : CV) (a : Option Nat) : Option Nat := if angE z = 0 then fsub (val 0) a else val 0
/-- above: finite, above 0. -/
def aboveE (x : Option Nat) : Int := if fin x = true then (if flt (val 0) x = true then 0 else 2) else 5
def RetE (w : World) (n : Int) (e : Ending) (w' : World) : Prop := e = .returned (.int .i64 n) ∧ Dr w w'
/-- Half power: the error; the greatest; at which places the side changes. -/
def halfE (l : List (Option Nat)) : Int := if 4096 < l.length then 3 else if l.all fin = true then (if l.any (fun x => flt x (val 0)) = true then 2 else 0) else 5
def halfM (l : List (Option Nat)) : Option Nat := l.foldl fmax (val 0)
def halfAt (l : List (Option Nat)) (h : Option Nat) (i : Nat) : Bool := decide (1 ≤ i) && (flt (l.getD (i - 1) none) h != flt (l.getD i none) h)
def halfP (l : List (Option Nat)) (h : Option Nat) (n : Nat) : List Int := ((List.range n).filter (halfAt l h)).map Int.ofNat
def halfL (l : List (Option Nat)) : List Int := if halfE l = 0 then halfP l (fdiv (halfM l) (val 4611686018427387904)) l.length else []
theorem halfP_zero (l : List (Option Nat)) (h : Option Nat) : halfP l h 0 = [] := rfl
theorem halfP_one (l : List (Option Nat)) (h : Option Nat) : halfP l h 1 = [] := rfl
theorem halfP_succ (l : List (Option Nat)) (h : Option Nat) (n : Nat) : halfP l h (n + 1) = halfP l h n ++ (if halfAt l h n = true then [(n : Int)] else []) := by
  unfold halfP
  rw [List.range_succ, List.filter_append, List.map_append]
  congr 1
  by_cases hn : halfAt l h n = true <;> simp [hn]
theorem halfP_length (l : List (Option Nat)) (h : Option Nat) (n : Nat) : (halfP l h n).length ≤ n := by
  unfold halfP
  rw [List.length_map]
  have := List.length_filter_le (halfAt l h) (List.range n)
  simpa using this
end Go.Proofs.YtfalbdlfopfgcaaGreatDoor

