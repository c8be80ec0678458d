/- What this program's own tables say: the functions without a body that are met, the types of the slices. No condition. A store of a real, of a complex number. No condition. The functions of package parts and of its reference on complex numbers, each once: what they give. No condition. The size of a complex number, in the program and in its references: what they give. Conditions: words have 64 bits. Polynomials: what is refused; a value. No condition. A polynomial's value. Conditions: the number's parts have 64 bits. The sum of two polynomials. Conditions: words have 64 bits. A polynomial derived; the product of two. Conditions: words have 64 bits. The kit's functions on lists of numbers: out of bits, held against each other. Conditions: words have 64 bits. The kit's functions on lists of numbers that are lent: copied, marks behind; are they kept? Conditions: lengths as the reach has them. -/
import Derived.Test.YtgcakhmdmajplaaFlM
import Derived.Test.YtgcakhmdmajplaaRows
import Derived.Deep.RegionHeld3
import Derived.Deep.AppendLies
import Derived.Deep.RegionLaw
import Derived.OwnWalk
import Derived.Deep.QuietTactic
import Derived.BigQuiet
namespace Go.Proofs.Ytgcakhmdmajplaa
open Go.RowKit

@[go_sem high] theorem call_bits (x : Nat) (w : World) : (callFunc 53 #[.float .f64 x]).run Try.prog w = .ok (.value (.int .u64 x)) w :=
  run_callFunc_extern (e := Extern.MathFloatBits.float64bits) Try.func53 (by kernel_rfl) (by kernel_rfl) (by kernel_rfl) (by kernel_rfl) _ w
@[go_sem high] theorem call_frombits (n : Int) (w : World) : (callFunc 29 #[.int .u64 n]).run Try.prog w = .ok (.value (.float .f64 n.toNat)) w :=
  run_callFunc_extern (e := Extern.MathFloatBits.float64frombits) Try.func29 (by kernel_rfl) (by kernel_rfl) (by kernel_rfl) (by kernel_rfl) _ w

theorem info_f64 : (Try.prog.info? 38).map (fun i => (i.zero, i.size, i.bytes)) = some (some (.float .f64 0), 1, 8) := by kernel_rfl
theorem info_int : (Try.prog.info? 3).map (fun i => (i.zero, i.size, i.bytes)) = some (some (.int .i64 0), 1, 8) := by kernel_rfl
end Go.Proofs.Ytgcakhmdmajplaa

namespace Go.Proofs.Ytgcakhmdmajplaa
open Go.RowKit

@[go_sem] theorem run_store_float {P : Program} {w : World} {a : Addr} {m : Mode} (k : FloatKind) (b : Nat) : (store a (.float k b) m).run P w = stored P w a (.float k b) m := run_store P w a _ m rfl
@[go_sem] theorem run_store_complex {P : Program} {w : World} {a : Addr} {m : Mode} (k : FloatKind) (x y : Nat) : (store a (.complex k x y) m).run P w = stored P w a (.complex k x y) m := run_store P w a _ m rfl
end Go.Proofs.Ytgcakhmdmajplaa

namespace Go.Proofs.Ytgcakhmdmajplaa
open Go.RowKit

theorem size_any (x : Nat) (w : World) :
    Calls Try.prog 101 #[.float .f64 x] w fun e w' => e = .returned (.float .f64 (sizeB x)) ∧ w = w' := by
  go_enter Try.func101, Try.ntmps101
  go_wp2
  go_ret
  exact ⟨rfl, rfl⟩
set_option maxHeartbeats 400000 in
theorem Finite_any (a b : Nat) (w : World) :
    Calls Try.prog 61 #[.complex .f64 a b] w (RetB w (cfin (cv a b))) := by
  unfold cfin fin cv
  by_cases h : feq (fsub (val a) (val a)) (val 0) = true
  all_goals
    try simp only [Bool.not_eq_true] at h
    go_enter Try.func61, Try.ntmps61
    go_wp2_with (first | ((with_reducible refine upon_fadd ?_); intro r n hr hl) | ((with_reducible refine upon_fsub ?_); intro r n hr hl) | ((with_reducible refine upon_fmul ?_); intro r n hr hl) | ((with_reducible refine upon_fdiv ?_); intro r n hr hl) | ((with_reducible refine upon_fmax (by assumption) (by assumption) ?_); intro r n hr hl) | ((with_reducible refine upon_fmin (by assumption) (by assumption) ?_); intro r n hr hl))
    go_ret
    exact ⟨by simp [*], (by first | with_reducible exact Dr.mk _ _ | with_reducible exact Dr.refl _)⟩
set_option maxHeartbeats 400000 in
theorem Zero_any (a b : Nat) (w : World) :
    Calls Try.prog 103 #[.complex .f64 a b] w fun e w' => e = .returned (.bool (czero (cv a b))) ∧ w = w' := by
  unfold czero cv
  by_cases h : feq (val a) (val 0) = true
  all_goals
    try simp only [Bool.not_eq_true] at h
    go_enter Try.func103, Try.ntmps103
    go_wp2
    go_ret
    exact ⟨by simp [*], rfl⟩
set_option maxHeartbeats 400000 in
theorem Div_any (a b c d : Nat) (w : World) :
    Calls Try.prog 94 #[.complex .f64 a b, .complex .f64 c d] w (RetC w (cdiv (cv a b) (cv c d))) := by
  go_enter Try.func94, Try.ntmps94
  go_wp2_with (first | (go_at_call 101; refine (size_any _ _).mono ?_; rintro e w' ⟨rfl, rfl⟩) | ((with_reducible refine upon_fadd ?_); intro r n hr hl) | ((with_reducible refine upon_fsub ?_); intro r n hr hl) | ((with_reducible refine upon_fmul ?_); intro r n hr hl) | ((with_reducible refine upon_fdiv ?_); intro r n hr hl) | ((with_reducible refine upon_fmax (by assumption) (by assumption) ?_); intro r n hr hl) | ((with_reducible refine upon_fmin (by assumption) (by assumption) ?_); intro r n hr hl))
  all_goals
    go_ret
    exact ⟨_, _, rfl, (by first | with_reducible exact Dr.mk _ _ | with_reducible exact Dr.refl _), by simp [cdiv, cv, ← val_size, *], (by first | with_reducible assumption | with_reducible exact isW_0 | with_reducible exact isW_inf), (by first | with_reducible assumption | with_reducible exact isW_0 | with_reducible exact isW_inf)⟩
set_option maxRecDepth 100000 in
set_option maxHeartbeats 400000 in
theorem Add_any (a b c d : Nat) (w : World) :
    Calls Try.prog 64 #[.complex .f64 a b, .complex .f64 c d] w (RetC w (cadd (cv a b) (cv c d))) := by
  go_enter Try.func64, Try.ntmps64
  go_wp2_with (first | ((with_reducible refine upon_fadd ?_); intro r n hr hl) | ((with_reducible refine upon_fsub ?_); intro r n hr hl) | ((with_reducible refine upon_fmul ?_); intro r n hr hl) | ((with_reducible refine upon_fdiv ?_); intro r n hr hl) | ((with_reducible refine upon_fmax (by assumption) (by assumption) ?_); intro r n hr hl) | ((with_reducible refine upon_fmin (by assumption) (by assumption) ?_); intro r n hr hl))
  go_ret
  exact ⟨_, _, rfl, (by first | with_reducible exact Dr.mk _ _ | with_reducible exact Dr.refl _), by simp [cadd, cv, *], (by first | with_reducible assumption | with_reducible exact isW_0 | with_reducible exact isW_inf), (by first | with_reducible assumption | with_reducible exact isW_0 | with_reducible exact isW_inf)⟩

set_option maxRecDepth 100000 in
set_option maxHeartbeats 400000 in
theorem Sub_any (a b c d : Nat) (w : World) :
    Calls Try.prog 63 #[.complex .f64 a b, .complex .f64 c d] w (RetC w (csub (cv a b) (cv c d))) := by
  go_enter Try.func63, Try.ntmps63
  go_wp2_with (first | ((with_reducible refine upon_fadd ?_); intro r n hr hl) | ((with_reducible refine upon_fsub ?_); intro r n hr hl) | ((with_reducible refine upon_fmul ?_); intro r n hr hl) | ((with_reducible refine upon_fdiv ?_); intro r n hr hl) | ((with_reducible refine upon_fmax (by assumption) (by assumption) ?_); intro r n hr hl) | ((with_reducible refine upon_fmin (by assumption) (by assumption) ?_); intro r n hr hl))
  go_ret
  exact ⟨_, _, rfl, (by first | with_reducible exact Dr.mk _ _ | with_reducible exact Dr.refl _), by simp [csub, cv, *], (by first | with_reducible assumption | with_reducible exact isW_0 | with_reducible exact isW_inf), (by first | with_reducible assumption | with_reducible exact isW_0 | with_reducible exact isW_inf)⟩

set_option maxRecDepth 100000 in
set_option maxHeartbeats 400000 in
theorem Mul_any (a b c d : Nat) (w : World) :
    Calls Try.prog 93 #[.complex .f64 a b, .complex .f64 c d] w (RetC w (cmul (cv a b) (cv c d))) := by
  go_enter Try.func93, Try.ntmps93
  go_wp2_with (first | ((with_reducible refine upon_fadd ?_); intro r n hr hl) | ((with_reducible refine upon_fsub ?_); intro r n hr hl) | ((with_reducible refine upon_fmul ?_); intro r n hr hl) | ((with_reducible refine upon_fdiv ?_); intro r n hr hl) | ((with_reducible refine upon_fmax (by assumption) (by assumption) ?_); intro r n hr hl) | ((with_reducible refine upon_fmin (by assumption) (by assumption) ?_); intro r n hr hl))
  go_ret
  exact ⟨_, _, rfl, (by first | with_reducible exact Dr.mk _ _ | with_reducible exact Dr.refl _), by simp [cmul, cv, *], (by first | with_reducible assumption | with_reducible exact isW_0 | with_reducible exact isW_inf), (by first | with_reducible assumption | with_reducible exact isW_0 | with_reducible exact isW_inf)⟩

set_option maxRecDepth 100000 in
set_option maxHeartbeats 400000 in
theorem Scale_any (x a b : Nat) (w : World) :
    Calls Try.prog 83 #[.float .f64 x, .complex .f64 a b] w (RetC w (cscale (val x) (cv a b))) := by
  go_enter Try.func83, Try.ntmps83
  go_wp2_with (first | ((with_reducible refine upon_fadd ?_); intro r n hr hl) | ((with_reducible refine upon_fsub ?_); intro r n hr hl) | ((with_reducible refine upon_fmul ?_); intro r n hr hl) | ((with_reducible refine upon_fdiv ?_); intro r n hr hl) | ((with_reducible refine upon_fmax (by assumption) (by assumption) ?_); intro r n hr hl) | ((with_reducible refine upon_fmin (by assumption) (by assumption) ?_); intro r n hr hl))
  go_ret
  exact ⟨_, _, rfl, (by first | with_reducible exact Dr.mk _ _ | with_reducible exact Dr.refl _), by simp [cscale, cv, *], (by first | with_reducible assumption | with_reducible exact isW_0 | with_reducible exact isW_inf), (by first | with_reducible assumption | with_reducible exact isW_0 | with_reducible exact isW_inf)⟩

set_option maxRecDepth 100000 in
set_option maxHeartbeats 400000 in
theorem Size1_any (a b : Nat) (w : World) :
    Calls Try.prog 104 #[.complex .f64 a b] w (RetF w (size1 (cv a b))) := by
  go_enter Try.func104, Try.ntmps104
  go_wp2_with (first | (go_at_call 101; refine (size_any _ _).mono ?_; rintro e w' ⟨rfl, rfl⟩) | ((with_reducible refine upon_fadd ?_); intro r n hr hl) | ((with_reducible refine upon_fsub ?_); intro r n hr hl) | ((with_reducible refine upon_fmul ?_); intro r n hr hl) | ((with_reducible refine upon_fdiv ?_); intro r n hr hl) | ((with_reducible refine upon_fmax (by assumption) (by assumption) ?_); intro r n hr hl) | ((with_reducible refine upon_fmin (by assumption) (by assumption) ?_); intro r n hr hl))
  go_ret
  exact ⟨_, rfl, (by first | with_reducible exact Dr.mk _ _ | with_reducible exact Dr.refl _), by simp [size1, cv, ← val_size, *], (by first | with_reducible assumption | with_reducible exact isW_0 | with_reducible exact isW_inf)⟩

end Go.Proofs.Ytgcakhmdmajplaa

namespace Go.Proofs.Ytgcakhmdmajplaa
open Go.RowKit

theorem mabs_any (x : Nat) (w : World) :
    Calls Try.prog 44 #[.float .f64 x] w fun e w' => e = .returned (.float .f64 (sizeB x)) ∧ w = w' := by
  go_enter Try.func44, Try.ntmps44
  go_wp2
  go_ret
  exact ⟨rfl, rfl⟩
theorem isInf_any (x : Nat) (w : World) :
    Calls Try.prog 26 #[.float .f64 x, .int .i64 0] w fun e w' => e = .returned (.bool (isInf (val x))) ∧ w = w' := by
  unfold isInf
  go_enter Try.func26, Try.ntmps26
  go_wp2_with (first | (go_at_call 44; refine (mabs_any _ _).mono ?_; rintro e w' ⟨rfl, rfl⟩))
  go_ret
  exact ⟨by simp [val_size], rfl⟩
theorem upon_res {P : Program} {o : Oper} {a : Act} {K : Act → World → Prop} {Q : Exit → Act → World → Prop} {w : World} {R : Result Next} {v : Option Nat}
    (hR : ∃ r n, R = .ok (.value (.float .f64 r)) (w.drewN n) ∧ val r = v ∧ IsW r) (h : ∀ r n, val r = v → IsW r → K (a.put o.dst (.float .f64 r)) (w.drewN n)) : Oper.upon P o a K Q R := by
  obtain ⟨r, n, rfl, h2, h3⟩ := hR
  exact h r n h2 h3
theorem upon_sqrt {P : Program} {f : FuncId} (hf : ∀ x w, ∃ r n, (callFunc f #[.float .f64 x]).run P w = .ok (.value (.float .f64 r)) (w.drewN n) ∧ val r = fsqrt (val x) ∧ IsW r)
    {o : Oper} {a : Act} {K : Act → World → Prop} {Q : Exit → Act → World → Prop} {w : World} {x : Nat} (h : ∀ r n, val r = fsqrt (val x) → IsW r → K (a.put o.dst (.float .f64 r)) (w.drewN n)) :
    Oper.upon P o a K Q (Sem.run P (callFunc f #[.float .f64 x]) w) := upon_res (hf x w) h
end Go.Proofs.Ytgcakhmdmajplaa

namespace Go.Proofs.Ytgcakhmdmajplaa
open Go.RowKit

abbrev Z := Nat × Nat
def zv (z : Z) : CV := cv z.1 z.2
def pf (p : List Z) : Bool := p.all fun z => cfin (zv z)
/-- What all calls refuse. -/
def refE (p : List Z) : Int := if 256 < p.length then 3 else if pf p = true then 0 else 5
def bothE (p q : List Z) : Int := if 256 < p.length ∨ 256 < q.length then 3 else if pf p = true then (if pf q = true then 0 else 5) else 5
def horN (p : List Z) (z : CV) : Nat → CV → CV
  | 0, x => x
  | k + 1, x => horN p z k (cadd (cmul x z) (zv (p.getD k (0, 0))))
def horner (p : List Z) (z : CV) : CV := if p.length = 0 then (val 0, val 0) else horN p z (p.length - 1) (zv (p.getD (p.length - 1) (0, 0)))
def atE (p : List Z) (z : CV) : Int := if refE p = 0 then (if cfin z = true then (if cfin (horner p z) = true then 0 else 6) else 5) else refE p
def atG (p : List Z) (z : CV) : CV := if atE p z = 0 then horner p z else (val 0, val 0)

theorem pf_false {p : List Z} {k : Nat} {z : Z} (h : p[k]? = some z) (hz : cfin (zv z) = false) : pf p = false := by
  unfold pf
  rw [← Bool.not_eq_true, List.all_eq_true]
  intro h2
  have := h2 z (List.mem_of_getElem? h)
  rw [hz] at this
  cases this
theorem pf_true {p : List Z} (h : ∀ (k : Nat) z, p[k]? = some z → cfin (zv z) = true) : pf p = true := by
  unfold pf
  rw [List.all_eq_true]
  intro z hz
  obtain ⟨k, hk⟩ := List.getElem?_of_mem hz
  exact h k z hk
/-- A row of numbers. -/
theorem Sl.cz {w : World} {v : Value} {p : List Z} (h : Sl w v (p.map C)) : ∃ a cap, v = .slice a p.length cap ∧ (∀ (k : Nat) (z : Z), p[k]? = some z → ∃ b off, a = some ⟨b, off, none⟩ ∧ w.cell? ⟨b, off + k, none⟩ = some (.complex .f64 z.1 z.2)) := by
  obtain ⟨a, cap, rfl, hr, hc, hl⟩ := h
  refine ⟨a, cap, by rw [List.length_map], fun k z hz => ?_⟩
  have hx : (p.map C)[k]? = some (C z) := by rw [List.getElem?_map, hz]; rfl
  obtain ⟨b, off, e, hcell⟩ := hr.at hx
  exact ⟨b, off, e, hcell k _ hx⟩

def RetIx (w : World) (b : Bool) (e : Ending) (w' : World) : Prop := ∃ n : Int, e = .returned (.int .i64 n) ∧ Dr w w' ∧ decide (0 ≤ n) = b
def IxLoop (w : World) (p : List Z) (i : Value) (wr : World) : Prop := ∃ k : Nat, k ≤ p.length ∧ i = .int .i64 k ∧ (∀ (j : Nat) z, j < k → p[j]? = some z → cfin (zv z) = true) ∧ Dr w wr
theorem refE_cases (p : List Z) : (256 < p.length ∧ refE p = 3) ∨ (¬ 256 < p.length ∧ ((pf p = true ∧ refE p = 0) ∨ (pf p = false ∧ refE p = 5))) := by
  unfold refE
  by_cases h : 256 < p.length
  · exact .inl ⟨h, if_pos h⟩
  · rw [if_neg h]
    cases pf p
    · exact .inr ⟨h, .inr ⟨rfl, rfl⟩⟩
    · exact .inr ⟨h, .inl ⟨rfl, rfl⟩⟩
def BothLoop (w : World) (p q : List Z) (i : Value) (wr : World) : Prop := ∃ k : Nat, k ≤ 2 ∧ i = .int .i64 k ∧ wr = w ∧ (1 ≤ k → ¬ 256 < p.length) ∧ (2 ≤ k → ¬ 256 < q.length)
/-- What told hands back: the polynomial, or none. -/
def toldE (p : List Z) : Int := if refE p = 5 then 6 else 0
def RetTold (w : World) (v : Value) (p : List Z) (e : Ending) (w' : World) : Prop := e = .returned (.tuple #[if refE p = 5 then .slice none 0 0 else v, .int .i64 (toldE p)]) ∧ Dr w w'
end Go.Proofs.Ytgcakhmdmajplaa

namespace Go.Proofs.Ytgcakhmdmajplaa
open Go.RowKit

def AtLoop (w : World) (p : List Z) (z r : CV) (i x : Value) (wr : World) : Prop := ∃ (k : Nat) (iv : Int) (a b : Nat), i = .int .i64 iv ∧ iv = (k : Int) - 1 ∧ k < p.length ∧ x = .complex .f64 a b ∧ IsW a ∧ IsW b ∧ horN p z k (cv a b) = r ∧ Dr w wr
def wfP (p : List Z) : Prop := ∀ (k : Nat) z, p[k]? = some z → IsW z.1 ∧ IsW z.2
theorem Mul_z (a b c d : Nat) (p q : CV) (h : cv a b = p) (h' : cv c d = q) (w : World) : Calls Try.prog 93 #[.complex .f64 a b, .complex .f64 c d] w (RetC w (cmul p q)) := h ▸ h' ▸ Mul_any a b c d w
theorem AddC_z (a b c d : Nat) (p q : CV) (h : cv a b = p) (h' : cv c d = q) (w : World) : Calls Try.prog 64 #[.complex .f64 a b, .complex .f64 c d] w (RetC w (cadd p q)) := h ▸ h' ▸ Add_any a b c d w
theorem FiniteC_z (a b : Nat) (z : CV) (h : cv a b = z) (w : World) : Calls Try.prog 61 #[.complex .f64 a b] w (RetB w (cfin z)) := h ▸ Finite_any a b w
theorem zv_at {p : List Z} {k : Nat} {z : Z} (h : p[k]? = some z) : zv (p.getD k (0, 0)) = cv z.1 z.2 := by rw [List.getD_eq_getElem?_getD, h]; rfl

end Go.Proofs.Ytgcakhmdmajplaa

namespace Go.Proofs.Ytgcakhmdmajplaa
open Go.RowKit

theorem info_c : (Try.prog.info? 44).map (fun i => (i.zero, i.size, i.bytes)) = some (some (.complex .f64 0 0), 1, 16) := by kernel_rfl
/-- What is told of the numbers: none, if one of them is not finite. -/
def tol (vs : List CV) : List CV × Int := if vs.all cfin = true then (vs, 0) else ([], 6)
def pz (p : List Z) (i : Nat) : CV := zv (p.getD i (0, 0))
def plusA (p q : List Z) (i : Nat) : CV := if q.length ≤ i then pz p i else if p.length ≤ i then pz q i else cadd (pz p i) (pz q i)
def plusV (p q : List Z) : List CV := (List.range (max p.length q.length)).map (plusA p q)
def plusR (p q : List Z) : List CV × Int := if bothE p q = 0 then tol (plusV p q) else ([], bothE p q)
/-- A polynomial is handed back, with an error. -/
def RetPoly (w : World) (r : List CV × Int) (E : Ending) (w' : World) : Prop := ∃ v l, E = .returned (.tuple #[v, .int .i64 r.2]) ∧ w'.ownsRow w.heap.size 44 1 v l.length (l.map C) ∧ l.map zv = r.1 ∧ wfP l ∧ Below w.heap.size w w'
theorem RetPoly.none {w : World} {e : Int} {E : Ending} {w' : World} (h : E = .returned (.tuple #[.slice none 0 0, .int .i64 e])) (hb : Below w.heap.size w w') {r : List CV × Int} (hr : r = ([], e)) : RetPoly w r E w' := by
  subst hr
  exact ⟨_, [], h, World.ownsRow_nil _ _ _ _, rfl, fun k z hz => by simp at hz, hb⟩
theorem all_pf (l : List Z) : (l.map zv).all cfin = pf l := by
  unfold pf
  rw [List.all_map]
  rfl
theorem RetPoly.ok {w w' : World} {v : Value} {l : List Z} {E : Ending} (h1 : E = .returned (.tuple #[v, .int .i64 0])) (hown : w'.ownsRow w.heap.size 44 1 v l.length (l.map C)) (hw : wfP l) (hb : Below w.heap.size w w') {r : List CV × Int} (hr : r = (l.map zv, 0)) : RetPoly w r E w' := by
  subst hr
  exact ⟨v, l, h1, hown, rfl, hw, hb⟩
theorem tol_cases {l : List Z} (hl : l.length ≤ 256) : (refE l ≠ 5 ∧ tol (l.map zv) = (l.map zv, 0)) ∨ (refE l = 5 ∧ tol (l.map zv) = ([], 6)) := by
  unfold tol
  rw [all_pf]
  rcases refE_cases l with ⟨h3, _⟩ | ⟨_, ⟨h3, h4⟩ | ⟨h3, h4⟩⟩
  · omega
  · exact .inl ⟨by rw [h4]; decide, by rw [h3, if_pos rfl]⟩
  · exact .inr ⟨h4, by rw [h3, if_neg (by simp)]⟩
theorem wfP_snoc {l : List Z} {x : Z} (h : wfP l) (h1 : IsW x.1) (h2 : IsW x.2) : wfP (l ++ [x]) := by
  intro k z hz
  by_cases hk : k < l.length
  · rw [List.getElem?_append_left hk] at hz
    exact h k z hz
  · rw [List.getElem?_append_right (by omega)] at hz
    have := List.mem_of_getElem? hz
    rw [List.mem_singleton] at this
    subst this
    exact ⟨h1, h2⟩
theorem range_snoc (f : Nat → CV) (k : Nat) : (List.range (k + 1)).map f = (List.range k).map f ++ [f k] := by rw [List.range_succ, List.map_append]; rfl
/-- Within the loop. -/
def PolLoop (w : World) (f : Nat → CV) (n : Nat) (i out : Value) (wr : World) : Prop := ∃ (k : Nat) (l : List Z), i = .int .i64 k ∧ k ≤ n ∧ l.length = k ∧ l.map zv = (List.range k).map f ∧ wfP l ∧ wr.ownsRow w.heap.size 44 1 out l.length (l.map C) ∧ Below w.heap.size w wr

theorem PolLoop.next {w wr : World} {f : Nat → CV} {n k : Nat} {l : List Z} {x y : Nat} {v : Value} (hk : k < n) (hlk : l.length = k) (hm : l.map zv = (List.range k).map f) (hw : wfP l) (hx : IsW x) (hy : IsW y) (hf : cv x y = f k) (hown : wr.ownsRow w.heap.size 44 1 v (k + 1) (l.map C ++ [.complex .f64 x y])) (hb : Below w.heap.size w wr) : PolLoop w f n (.int .i64 ((k : Int) + 1)) v wr := by
  refine ⟨k + 1, l ++ [(x, y)], rfl, hk, by rw [List.length_append, hlk]; rfl, ?_, wfP_snoc hw hx hy, ?_, hb⟩
  · rw [List.map_append, hm, range_snoc]
    show _ ++ [cv x y] = _
    rw [hf]
  · rw [List.map_append, List.length_append, hlk]
    exact hown

end Go.Proofs.Ytgcakhmdmajplaa

namespace Go.Proofs.Ytgcakhmdmajplaa
open Go.RowKit

def derA (p : List Z) (j : Nat) : CV := cscale (val (ofInt ((j : Int) + 1))) (pz p (j + 1))
def derV (p : List Z) : List CV := (List.range (p.length - 1)).map (derA p)
def derR (p : List Z) : List CV × Int := if refE p = 0 then tol (derV p) else ([], refE p)
def DerLoop (w : World) (f : Nat → CV) (n : Nat) (i out : Value) (wr : World) : Prop := ∃ (k : Nat), i = .int .i64 ((k : Int) + 1) ∧ PolLoop w f n (.int .i64 k) out wr

/-- The part of the product's number m out of the first i numbers. -/
def timA (p q : List Z) (m : Nat) : Nat → CV
  | 0 => (val 0, val 0)
  | i + 1 => if i ≤ m ∧ m - i < q.length then cadd (timA p q m i) (cmul (pz p i) (pz q (m - i))) else timA p q m i
def timV (p q : List Z) : List CV := (List.range (p.length + q.length - 1)).map fun m => timA p q m p.length
def timR (p q : List Z) : List CV × Int := if bothE p q = 0 then (if p.length = 0 ∨ q.length = 0 then ([], 0) else if 256 < p.length + q.length - 1 then ([], 3) else tol (timV p q)) else ([], bothE p q)
/-- In the round i, up to k. -/
def timI (p q : List Z) (i k m : Nat) : CV := if i ≤ m ∧ m < i + k then timA p q m (i + 1) else timA p q m i
structure TimAt (w : World) (f : Nat → CV) (g n : Nat) (l : List Z) (wr : World) : Prop where
  len : l.length = n
  at' : ∀ (m : Nat) z, l[m]? = some z → zv z = f m
  wf : wfP l
  own : wr.ownsRow w.heap.size 44 1 (.slice (some ⟨g, 0, none⟩) n n) n (l.map C)
  bl : Below w.heap.size w wr
theorem TimAt.congr {w wr : World} {f f' : Nat → CV} {g n : Nat} {l : List Z} (h : TimAt w f g n l wr) (hf : ∀ m, m < n → f m = f' m) : TimAt w f' g n l wr :=
  { h with at' := fun m z hz => by rw [h.at' m z hz]; exact hf m (by have := (List.getElem?_eq_some_iff.1 hz).1; have := h.len; omega) }
theorem TimAt.set {w wr : World} {f : Nat → CV} {g n : Nat} {l : List Z} (h : TimAt w f g n l wr) (j x y nd : Nat) (hx : IsW x) (hy : IsW y) : TimAt w (fun m => if m = j then cv x y else f m) g n (l.set j (x, y)) ((wr.drewN nd).setCell ⟨g, j, none⟩ (.complex .f64 x y)) := by
  have hst := (owns_drewN h.own nd).stored j (.complex .f64 x y)
  have hg := h.own.lt g rfl
  refine ⟨by rw [List.length_set, h.len], ?_, ?_, ?_, (below_drewN' h.bl nd).setCell hg.1 _⟩
  · intro m z hz
    rw [List.getElem?_set] at hz
    split at hz
    · rename_i e
      subst e
      split at hz
      · cases hz; rw [if_pos rfl]; rfl
      · cases hz
    · rename_i e
      rw [if_neg (fun e2 => e e2.symm)]
      exact h.at' m z hz
  · intro m z hz
    rw [List.getElem?_set] at hz
    split at hz
    · split at hz
      · cases hz; exact ⟨hx, hy⟩
      · cases hz
    · exact h.wf m z hz
  · have := hst.1
    rw [show (l.set j (x, y)).map C = (l.map C).set j (.complex .f64 x y) from by rw [List.map_set]; rfl]
    exact this
def TimO (w : World) (p q : List Z) (g n : Nat) (i : Value) (wr : World) : Prop := ∃ (k : Nat) (l : List Z), i = .int .i64 k ∧ k ≤ p.length ∧ TimAt w (fun m => timA p q m k) g n l wr
def TimN (w : World) (p q : List Z) (g n i : Nat) (k : Value) (wr : World) : Prop := ∃ (j : Nat) (l : List Z), k = .int .i64 j ∧ j ≤ q.length ∧ TimAt w (timI p q i j) g n l wr
theorem timI_zero (p q : List Z) (i m : Nat) : timI p q i 0 m = timA p q m i := by
  unfold timI
  rw [if_neg (by omega)]
theorem timI_end (p q : List Z) (i m : Nat) : timI p q i q.length m = timA p q m (i + 1) := by
  unfold timI
  split
  · rfl
  · rw [timA, if_neg (by omega)]
theorem timI_succ (p q : List Z) (i j m : Nat) (hj : j < q.length) : timI p q i (j + 1) m = if m = i + j then cadd (timA p q (i + j) i) (cmul (pz p i) (pz q j)) else timI p q i j m := by
  unfold timI
  by_cases h : m = i + j
  · subst h
    rw [if_pos (by omega), if_pos rfl, timA, if_pos (by omega), show i + j - i = j by omega]
  · rw [if_neg h]
    by_cases h2 : i ≤ m ∧ m < i + j
    · rw [if_pos h2, if_pos (by omega)]
    · rw [if_neg h2, if_neg (by omega)]
theorem timI_at (p q : List Z) (i j : Nat) : timI p q i j (i + j) = timA p q (i + j) i := by
  unfold timI
  rw [if_neg (by omega)]

end Go.Proofs.Ytgcakhmdmajplaa

namespace Go.Proofs.Ytgcakhmdmajplaa
open Go.RowKit

theorem feq_self (a : Nat) : feq (val a) (val a) = !nanB a := by
  cases h : nanB a
  · rw [val_some h]
    have : Ieee.double.order a a = some .eq := by
      rw [← read_nan] at h
      unfold Ieee.Format.order
      cases hr : Ieee.double.read a <;> rw [hr] at h <;> simp [Ieee.Datum.isNaN] at h <;> simp [Ieee.Datum.order]
    simp [feq, ford, this]
  · rw [val_none h]; rfl

theorem val_eq_iff {a b : Nat} : val a = val b ↔ (a = b ∨ nanB a = true ∧ nanB b = true) := by
  unfold val
  cases ha : nanB a <;> cases hb : nanB b <;> simp
  · intro e; subst e; rw [ha] at hb; cases hb
  · intro e; subst e; rw [ha] at hb; cases hb
/-- Are two values the same? -/
def same (x y : Option Nat) : Bool := decide (x = y)
def csame (x y : CV) : Bool := same x.1 y.1 && same x.2 y.2
theorem same_val (a b : Nat) : same (val a) (val b) = ((a : Int) == (b : Int) || (nanB a && nanB b)) := by
  unfold same
  rw [Bool.eq_iff_iff, decide_eq_true_eq, val_eq_iff]
  simp only [Bool.or_eq_true, beq_iff_eq, Bool.and_eq_true]
  constructor
  · rintro (h | h)
    · exact .inl (by omega)
    · exact .inr h
  · rintro (h | h)
    · exact .inl (by omega)
    · exact .inr h

theorem csame_iff (x y : CV) : csame x y = decide (x = y) := by
  unfold csame same
  obtain ⟨a, b⟩ := x
  obtain ⟨c, d⟩ := y
  by_cases h1 : a = c <;> by_cases h2 : b = d <;> simp [h1, h2]
def wfL (l : List Z) : Prop := ∀ z ∈ l, IsW z.1 ∧ IsW z.2
theorem wfL.wfP {l : List Z} (h : wfL l) : wfP l := fun _ z hz => h z (List.mem_of_getElem? hz)
/-- A slice of bits reads as l. -/
def NsAt (w : World) (v : Value) (l : List Z) : Prop := ∃ a cap, v = .slice a l.length cap ∧ ∀ (k : Nat) (z : Z), l[k]? = some z → ∃ b off, a = some ⟨b, off, none⟩ ∧ w.cell? ⟨b, off + k * 2, none⟩ = some (.int .u64 z.1) ∧ w.cell? ⟨b, off + k * 2 + 1, none⟩ = some (.int .u64 z.2)
theorem NsAt.below {w w' : World} {v : Value} {l : List Z} (h : NsAt w v l) (hb : Below w.heap.size w w') : NsAt w' v l := by
  obtain ⟨a, cap, rfl, hr⟩ := h
  refine ⟨a, cap, rfl, fun k z hz => ?_⟩
  obtain ⟨b, off, rfl, h1, h2⟩ := hr k z hz
  exact ⟨b, off, rfl, by rw [hb.cell (World.block_lt_of_cell? _ _ h1)]; exact h1, by rw [hb.cell (World.block_lt_of_cell? _ _ h2)]; exact h2⟩
def RetL (w : World) (e0 : Nat) (xs : List Value) (e : Ending) (w' : World) : Prop := ∃ v, e = .returned v ∧ w'.ownsRow w.heap.size e0 1 v xs.length xs ∧ Below w.heap.size w w'
theorem take_snoc {α : Type} {l : List α} {k : Nat} {x : α} (h : l[k]? = some x) : l.take (k + 1) = l.take k ++ [x] := by
  rw [List.take_add_one, h]
  rfl
def NumLoop (w : World) (l : List Z) (i v : Value) (wr : World) : Prop := ∃ k : Nat, k ≤ l.length ∧ i = .int .i64 k ∧ wr.ownsRow w.heap.size 44 1 v k ((l.take k).map C) ∧ Below w.heap.size w wr
/-- Are two lists of numbers the same? -/
def sameC (xs ys : List Z) : Bool := decide (xs.map zv = ys.map zv)
def SameLoop (w : World) (xs ys : List Z) (i : Value) (wr : World) : Prop := ∃ k : Nat, k ≤ xs.length ∧ i = .int .i64 k ∧ (∀ j : Nat, j < k → (xs[j]?).map zv = (ys[j]?).map zv) ∧ Dr w wr
theorem sameC_true {xs ys : List Z} (h : xs.length = ys.length) (hs : ∀ j : Nat, j < xs.length → (xs[j]?).map zv = (ys[j]?).map zv) : sameC xs ys = true := by
  unfold sameC
  rw [decide_eq_true_eq]
  apply List.ext_getElem?
  intro j
  rw [List.getElem?_map, List.getElem?_map]
  by_cases hj : j < xs.length
  · exact hs j hj
  · rw [List.getElem?_eq_none (by omega), List.getElem?_eq_none (by omega)]
theorem sameC_len {xs ys : List Z} (h : xs.length ≠ ys.length) : sameC xs ys = false := by
  unfold sameC
  rw [decide_eq_false_iff_not]
  intro e
  have := congrArg List.length e
  simp at this
  exact h this
theorem sameC_at {xs ys : List Z} {j : Nat} {x y : Z} (hx : xs[j]? = some x) (hy : ys[j]? = some y) (h : csame (zv x) (zv y) = false) : sameC xs ys = false := by
  unfold sameC
  rw [decide_eq_false_iff_not]
  intro e
  have := congrArg (fun l => l[j]?) e
  simp [hx, hy] at this
  rw [csame_iff] at h
  simp [this] at h
end Go.Proofs.Ytgcakhmdmajplaa

namespace Go.Proofs.Ytgcakhmdmajplaa
open Go.RowKit

/-- A mark. -/
def markV (k i : Int) : Option Nat := fsub (val (ofInt (-1000 * k - i))) (val 4620130267728707584)
def markW (k : Int) : Option Nat := val (ofInt k)
/-- The marks behind a list that is lent. -/
def markB (i : Nat) : Nat := (markV 7 i).getD 0
theorem markB_some : ∀ i : Nat, i < 6 → markV 7 (i : Int) = some (markB i) := by decide +kernel
theorem markB_w : ∀ i : Nat, i < 6 → markB i < 18446744073709551616 := by decide +kernel
def sevenB : Nat := ofInt 7
theorem seven_some : markW 7 = some sevenB := by decide +kernel
def markZ (i : Nat) : Z := (markB i, sevenB)
def lent (l : List Z) : List Z := l ++ (List.range 6).map markZ
theorem lent_length (l : List Z) : (lent l).length = l.length + 6 := by simp [lent]
theorem lent_take (l : List Z) : (lent l).take l.length = l := by simp [lent]
def LentLoop (w : World) (l : List Z) (v i : Value) (wr : World) : Prop := ∃ k : Nat, k ≤ 6 ∧ i = .int .i64 k ∧ wr.ownsRow w.heap.size 44 1 v (l.length + k) ((l ++ (List.range k).map markZ).map C) ∧ Below w.heap.size w wr

theorem sameC_self (xs : List Z) : sameC xs xs = true := by simp [sameC]
end Go.Proofs.Ytgcakhmdmajplaa
