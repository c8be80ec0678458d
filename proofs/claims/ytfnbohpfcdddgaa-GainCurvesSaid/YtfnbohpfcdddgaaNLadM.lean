/- ladder.elements: a ladder's elements. Condition: as many in series as in shunt, at most 16. ladder.Net: a ladder's net. Condition: kinds are bytes. The functions of package parts and of its reference, each once: what they give. No condition but that a word has 64 bits where the sign is turned. gridwork/admit: an element's admittance, its impedance. Condition: an element's kind is a byte, its Value has 64 bits. ladder.Input: what one sees of a ladder. Condition: kinds are bytes, Values have 64 bits. -/
import Derived.Test.YtfnbohpfcdddgaaNOfK
import Derived.Test.YtfnbohpfcdddgaaStore
import Derived.Test.YtfnbohpfcdddgaaShelf
import Derived.StillTailTactics
import Derived.Deep.AppendLies
import Derived.Test.YtfnbohpfcdddgaaNOf
import Derived.Test.YtfnbohpfcdddgaaBase
import Derived.Test.YtfnbohpfcdddgaaMod
import Derived.Test.YtfnbohpfcdddgaaNChk
namespace Go.Proofs.Ytfnbohpfcdddgaa
open Go.RowKit

def el0 : El := ⟨0, ⟨#[]⟩, ⟨#[]⟩, ⟨#[]⟩, ⟨#[]⟩, ⟨#[]⟩, 0, 0⟩
def ladS (x : El) (a b : ByteArray) : El := ⟨x.kind, x.name, a, b, ⟨#[]⟩, ⟨#[]⟩, x.v, 0⟩
/-- The told list lies in the box lb. -/
structure LstAt (w : World) (B lb : Nat) (v : Value) (L : List El) : Prop where
  box : w.heap[lb]? = some (.cells #[v] 26 (0, 0))
  own : w.ownsRow B 74 8 v L.length (cellsL L)
  ne : v.ownBlock ≠ some lb
  ge : B ≤ lb
section
variable {w w' : World} {B lb : Nat} {v : Value} {L : List El}
theorem LstAt.lt (h : LstAt w B lb v L) : lb < w.heap.size := (Array.getElem?_eq_some_iff.1 h.box).1
theorem LstAt.cell (h : LstAt w B lb v L) : w.cell? ⟨lb, 0, none⟩ = some v := by have := h.box; simp [World.cell?, this]
theorem LstAt.frozen (h : LstAt w B lb v L) : w.frozen? ⟨lb, 0, none⟩ = false := by have := h.box; simp [World.frozen?, this]
theorem LstAt.grown (h : LstAt w B lb v L) {row : Option Nat} (hg : w.grownBy w' row) (h1 : some lb ≠ row) (h2 : v.ownBlock = none ∨ v.ownBlock ≠ row) : LstAt w' B lb v L :=
  ⟨by rw [hg.block _ h.lt h1]; exact h.box, h.own.kept hg h2, h.ne, h.ge⟩
theorem LstAt.below (h : LstAt w B lb v L) (hb : Below w.heap.size w w') : LstAt w' B lb v L := h.grown (grown_of_below hb) (by simp) (own_none _)
theorem LstAt.alloc (h : LstAt w B lb v L) (o : Obj) : LstAt (w.alloc o) B lb v L := h.below ((Below.refl _ w).alloc (Nat.le_refl _) o)
theorem LstAt.form (h : LstAt w B lb v L) : ∃ a cap, v = .slice a L.length cap := by
  rcases h.own.2 with ⟨h1, h2⟩ | ⟨g, cap, cur, h1, _⟩
  · exact ⟨none, 0, by rw [h1, h2]⟩
  · exact ⟨_, _, h1⟩
theorem LstAt.app (h : LstAt w B lb v L) {g n c : Nat} (hg : w.grownBy w' v.ownBlock) (hat : v.ownBlock = some g ∨ g = w.heap.size) (e : El) (hown : w'.ownsRow B 74 8 (.slice (some ⟨g, 0, none⟩) (L.length + 1) c) (L.length + 1) (cellsL L ++ elC e)) (hn : n = L.length + 1) :
    w'.cell? ⟨lb, 0, none⟩ = some v ∧ w'.frozen? ⟨lb, 0, none⟩ = false ∧ LstAt (w'.setCell ⟨lb, 0, none⟩ (.slice (some ⟨g, 0, none⟩) n c)) B lb (.slice (some ⟨g, 0, none⟩) n c) (L ++ [e]) := by
  subst hn
  have hb : w'.heap[lb]? = some (.cells #[v] 26 (0, 0)) := by rw [hg.block _ h.lt h.ne.symm]; exact h.box
  have hne : (Value.slice (some ⟨g, 0, none⟩) (L.length + 1) c).ownBlock ≠ some lb := by
    rcases hat with h1 | h1
    · have := h.ne
      rw [h1] at this
      exact this
    · rw [h1]
      intro h2
      injection h2 with h2
      have h3 := h.lt
      simp only at h2
      omega
  exact ⟨by simp [World.cell?, hb], by simp [World.frozen?, hb], one_setCell hb, by rw [List.length_append, cellsL_snoc]; exact ownsRow_setCell_other hown hne _, hne, h.ge⟩
end

def RetPutL (W : World) (B lb : Nat) (L : List El) (E : Ending) (w' : World) : Prop := E = .returned (.tuple #[]) ∧ Below B W w' ∧ ∃ v, LstAt w' B lb v L

def RetEls (w : World) (L : List El) (E : Ending) (w' : World) : Prop := ∃ v, E = .returned v ∧ w'.ownsRow w.heap.size 74 8 v L.length (cellsL L) ∧ Below w.heap.size w w'
end Go.Proofs.Ytfnbohpfcdddgaa

namespace Go.Proofs.Ytfnbohpfcdddgaa
open Go.RowKit Go.Maps

theorem NetR.weaken {w : World} {B B' : Nat} {N : NB} {V : NV} {l : List El} {nodes br ks ps bs : List ByteArray} (h : NetR w B N V l nodes br ks ps bs) (hB : B' ≤ B) : NetR w B' N V l nodes br ks ps bs := by
  have ow : ∀ {e size : Nat} {v : Value} {n : Nat} {xs : List Value}, w.ownsRow B e size v n xs → w.ownsRow B' e size v n xs := by
    rintro e size v n xs ⟨h1, h2⟩
    refine ⟨h1, ?_⟩
    rcases h2 with h2 | ⟨g, cap, cur, h3, h4, h5⟩
    · exact .inl h2
    · exact .inr ⟨g, cap, cur, h3, by omega, h5⟩
  exact { h with L := ow h.L, R := ow h.R, Q := ow h.Q, gn := by have := h.gn; omega, gm := by have := h.gm; omega, gp := by have := h.gp; omega, gb := by have := h.gb; omega }
end Go.Proofs.Ytfnbohpfcdddgaa

namespace Go.Proofs.Ytfnbohpfcdddgaa
open Go.RowKit

theorem size_any (x : Nat) (w : World) :
    Calls Try.prog 73 #[.float .f64 x] w fun e w' => e = .returned (.float .f64 (sizeB x)) ∧ w = w' := by
  go_enter Try.func73, Try.ntmps73
  go_wp2
  go_ret
  exact ⟨rfl, rfl⟩
theorem rsize_any (x : Nat) (w : World) :
    Calls Try.prog 84 #[.float .f64 x] w fun e w' => e = .returned (.float .f64 (sizeB x)) ∧ w = w' := by
  go_enter Try.func84, Try.ntmps84
  go_wp2
  go_ret
  exact ⟨rfl, rfl⟩
set_option maxHeartbeats 400000 in
theorem Finite_any (a b : Nat) (w : World) :
    Calls Try.prog 44 #[.complex .f64 a b] w (RetB w (cfin (cv a b))) := by
  unfold cfin fin cv
  by_cases h : feq (fsub (val a) (val a)) (val 0) = true
  all_goals
    try simp only [Bool.not_eq_true] at h
    go_enter Try.func44, Try.ntmps44
    go_wp2_with (first | ((with_reducible refine upon_fadd ?_); intro r n hr hl) | ((with_reducible refine upon_fsub ?_); intro r n hr hl) | ((with_reducible refine upon_fmul ?_); intro r n hr hl) | ((with_reducible refine upon_fdiv ?_); intro r n hr hl) | ((with_reducible refine upon_fmax (by assumption) (by assumption) ?_); intro r n hr hl) | ((with_reducible refine upon_fmin (by assumption) (by assumption) ?_); intro r n hr hl))
    go_ret
    exact ⟨by simp [*], (by first | with_reducible exact Dr.mk _ _ | with_reducible exact Dr.refl _)⟩

set_option maxHeartbeats 400000 in
theorem FiniteReal_any (a : Nat) (w : World) :
    Calls Try.prog 83 #[.float .f64 a] w (RetB w (fin (val a))) := by
  unfold fin
  go_enter Try.func83, Try.ntmps83
  go_wp2_with (first | ((with_reducible refine upon_fadd ?_); intro r n hr hl) | ((with_reducible refine upon_fsub ?_); intro r n hr hl) | ((with_reducible refine upon_fmul ?_); intro r n hr hl) | ((with_reducible refine upon_fdiv ?_); intro r n hr hl) | ((with_reducible refine upon_fmax (by assumption) (by assumption) ?_); intro r n hr hl) | ((with_reducible refine upon_fmin (by assumption) (by assumption) ?_); intro r n hr hl))
  go_ret
  exact ⟨by simp [*], (by first | with_reducible exact Dr.mk _ _ | with_reducible exact Dr.refl _)⟩

set_option maxHeartbeats 400000 in
theorem rFinite_any (a b : Nat) (w : World) :
    Calls Try.prog 67 #[.complex .f64 a b] w (RetB w (cfin (cv a b))) := by
  unfold cfin cv
  by_cases h : fin (val a) = true
  all_goals
    try simp only [Bool.not_eq_true] at h
    go_enter Try.func67, Try.ntmps67
    go_wp2_with (first | (go_at_call 83; refine (FiniteReal_any _ _).mono ?_; rintro e w' ⟨rfl, n, rfl⟩) | ((with_reducible refine upon_fadd ?_); intro r n hr hl) | ((with_reducible refine upon_fsub ?_); intro r n hr hl) | ((with_reducible refine upon_fmul ?_); intro r n hr hl) | ((with_reducible refine upon_fdiv ?_); intro r n hr hl) | ((with_reducible refine upon_fmax (by assumption) (by assumption) ?_); intro r n hr hl) | ((with_reducible refine upon_fmin (by assumption) (by assumption) ?_); intro r n hr hl))
    go_ret
    exact ⟨by simp [*], (by first | with_reducible exact Dr.mk _ _ | with_reducible exact Dr.refl _)⟩

set_option maxHeartbeats 400000 in
theorem Zero_any (a b : Nat) (w : World) :
    Calls Try.prog 45 #[.complex .f64 a b] w fun e w' => e = .returned (.bool (czero (cv a b))) ∧ w = w' := by
  unfold czero cv
  by_cases h : feq (val a) (val 0) = true
  all_goals
    try simp only [Bool.not_eq_true] at h
    go_enter Try.func45, Try.ntmps45
    go_wp2
    go_ret
    exact ⟨by simp [*], rfl⟩
set_option maxHeartbeats 400000 in
theorem rZero_any (a b : Nat) (w : World) :
    Calls Try.prog 68 #[.complex .f64 a b] w fun e w' => e = .returned (.bool (czero (cv a b))) ∧ w = w' := by
  unfold czero cv
  by_cases h : feq (val a) (val 0) = true
  all_goals
    try simp only [Bool.not_eq_true] at h
    go_enter Try.func68, Try.ntmps68
    go_wp2
    go_ret
    exact ⟨by simp [*], rfl⟩

set_option maxHeartbeats 400000 in
theorem Div_any (a b c d : Nat) (w : World) :
    Calls Try.prog 46 #[.complex .f64 a b, .complex .f64 c d] w (RetC w (cdiv (cv a b) (cv c d))) := by
  go_enter Try.func46, Try.ntmps46
  go_wp2_with (first | (go_at_call 73; refine (size_any _ _).mono ?_; rintro e w' ⟨rfl, rfl⟩) | ((with_reducible refine upon_fadd ?_); intro r n hr hl) | ((with_reducible refine upon_fsub ?_); intro r n hr hl) | ((with_reducible refine upon_fmul ?_); intro r n hr hl) | ((with_reducible refine upon_fdiv ?_); intro r n hr hl) | ((with_reducible refine upon_fmax (by assumption) (by assumption) ?_); intro r n hr hl) | ((with_reducible refine upon_fmin (by assumption) (by assumption) ?_); intro r n hr hl))
  all_goals
    go_ret
    exact ⟨_, _, rfl, (by first | with_reducible exact Dr.mk _ _ | with_reducible exact Dr.refl _), by simp [cdiv, cv, ← val_size, *], (by first | with_reducible assumption | with_reducible exact isW_0 | with_reducible exact isW_inf), (by first | with_reducible assumption | with_reducible exact isW_0 | with_reducible exact isW_inf)⟩

theorem of_any (a b : Nat) (w : World) :
    Calls Try.prog 85 #[.float .f64 a, .float .f64 b] w fun e w' => e = .returned (.complex .f64 a b) ∧ w = w' := by
  go_enter Try.func85, Try.ntmps85
  go_wp2
  go_ret
  exact ⟨rfl, rfl⟩
set_option maxRecDepth 100000 in
set_option maxHeartbeats 400000 in
theorem rDiv_any (a b c d : Nat) (w : World) :
    Calls Try.prog 69 #[.complex .f64 a b, .complex .f64 c d] w (RetC w (cdiv (cv a b) (cv c d))) := by
  go_enter Try.func69, Try.ntmps69
  go_wp2_with (first | (go_at_call 84; refine (rsize_any _ _).mono ?_; rintro e w' ⟨rfl, rfl⟩) | (go_at_call 85; refine (of_any _ _ _).mono ?_; rintro e w' ⟨rfl, rfl⟩) | ((with_reducible refine upon_fadd ?_); intro r n hr hl) | ((with_reducible refine upon_fsub ?_); intro r n hr hl) | ((with_reducible refine upon_fmul ?_); intro r n hr hl) | ((with_reducible refine upon_fdiv ?_); intro r n hr hl) | ((with_reducible refine upon_fmax (by assumption) (by assumption) ?_); intro r n hr hl) | ((with_reducible refine upon_fmin (by assumption) (by assumption) ?_); intro r n hr hl))
  all_goals
    go_ret
    exact ⟨_, _, rfl, (by first | with_reducible exact Dr.mk _ _ | with_reducible exact Dr.refl _), by simp [cdiv, cv, ← val_size, *], (by first | with_reducible assumption | with_reducible exact isW_0 | with_reducible exact isW_inf), (by first | with_reducible assumption | with_reducible exact isW_0 | with_reducible exact isW_inf)⟩

set_option maxHeartbeats 400000 in
theorem Size2_any (a b : Nat) (w : World) :
    Calls Try.prog 71 #[.complex .f64 a b] w (RetF w (size2 (cv a b))) := by
  go_enter Try.func71, Try.ntmps71
  go_wp2_with (first | ((with_reducible refine upon_fadd ?_); intro r n hr hl) | ((with_reducible refine upon_fsub ?_); intro r n hr hl) | ((with_reducible refine upon_fmul ?_); intro r n hr hl) | ((with_reducible refine upon_fdiv ?_); intro r n hr hl) | ((with_reducible refine upon_fmax (by assumption) (by assumption) ?_); intro r n hr hl) | ((with_reducible refine upon_fmin (by assumption) (by assumption) ?_); intro r n hr hl))
  go_ret
  exact ⟨_, rfl, (by first | with_reducible exact Dr.mk _ _ | with_reducible exact Dr.refl _), by simp [size2, cv, *], (by first | with_reducible assumption | with_reducible exact isW_0 | with_reducible exact isW_inf)⟩
set_option maxHeartbeats 400000 in
theorem rSize2_any (a b : Nat) (w : World) :
    Calls Try.prog 87 #[.complex .f64 a b] w (RetF w (size2 (cv a b))) := by
  go_enter Try.func87, Try.ntmps87
  go_wp2_with (first | ((with_reducible refine upon_fadd ?_); intro r n hr hl) | ((with_reducible refine upon_fsub ?_); intro r n hr hl) | ((with_reducible refine upon_fmul ?_); intro r n hr hl) | ((with_reducible refine upon_fdiv ?_); intro r n hr hl) | ((with_reducible refine upon_fmax (by assumption) (by assumption) ?_); intro r n hr hl) | ((with_reducible refine upon_fmin (by assumption) (by assumption) ?_); intro r n hr hl))
  go_ret
  exact ⟨_, rfl, (by first | with_reducible exact Dr.mk _ _ | with_reducible exact Dr.refl _), by simp [size2, cv, *], (by first | with_reducible assumption | with_reducible exact isW_0 | with_reducible exact isW_inf)⟩
end Go.Proofs.Ytfnbohpfcdddgaa

namespace Go.Proofs.Ytfnbohpfcdddgaa
open Go.RowKit

/-- An admittance, an impedance, with its error; nothing of what was there is turned. -/
def RetCB (w : World) (z : CV) (n : Int) (E : Ending) (w' : World) : Prop := ∃ x y, E = .returned (.tuple #[.complex .f64 x y, .int .i64 n]) ∧ Below w.heap.size w w' ∧ cv x y = z ∧ IsW x ∧ IsW y
def recZ (adm : Bool) (k : Nat) (v o : Option Nat) : CV :=
  if (k == 1 || k == 8) = true then (if adm = true then (fdiv one v, val 0) else (v, val 0))
  else if (adm == (k == 2)) = true then (val 0, fneg (fdiv one (fmul o v))) else (val 0, fmul o v)
def recW (k : Nat) (v o : Option Nat) : Option Nat := if (k == 1 || k == 8) = true then val 0 else fmul o v
def recE (adm : Bool) (e : El) (o : Option Nat) : Int :=
  if aboveE o = 0 then
    (if checkE e = 0 then
      (if (e.kind == 1 || e.kind == 8 || e.kind == 2 || e.kind == 3) = true then (if (fin (recW e.kind (val e.v) o) && cfin (recZ adm e.kind (val e.v) o)) = true then 0 else 6) else 2)
    else checkE e)
  else aboveE o
def recG (adm : Bool) (e : El) (o : Option Nat) : CV := if recE adm e o = 0 then recZ adm e.kind (val e.v) o else (val 0, val 0)
theorem isW_one : IsW 4607182418800017408 := by unfold IsW; omega

@[go_sem] theorem negFloat_f64 (b : Nat) : Op.negFloat .f64 b = negB b := by
  unfold Op.negFloat negB
  rfl

/-- The element's box; nothing else is turned. -/
def AdW (W : World) (e : El) (w : World) : Prop := ElAt w W.heap.size e ∧ Below W.heap.size W w
section
variable {W w w' : World} {e : El}
theorem AdW.new (W : World) (e : El) : AdW W e (W.alloc (.cells (elC e).toArray 74)) := ⟨ElAt.new W e, (Below.refl _ W).alloc (Nat.le_refl _) _⟩
theorem AdW.drewN (h : AdW W e w) (n : Nat) : AdW W e (w.drewN n) := ⟨h.1, below_drewN' h.2 n⟩
theorem AdW.below (h : AdW W e w) (hb : Below w.heap.size w w') : AdW W e w' := ⟨h.1.below hb h.1.lt, h.2.trans (hb.mono h.2.size)⟩
theorem AdW.cells (h : AdW W e w) : w.cell? ⟨W.heap.size, 0, none⟩ = some (.int .u8 e.kind) ∧ w.cell? ⟨W.heap.size, 1, none⟩ = some (.string e.name) ∧ w.cell? ⟨W.heap.size, 2, none⟩ = some (.string e.a) ∧ w.cell? ⟨W.heap.size, 3, none⟩ = some (.string e.b) ∧ w.cell? ⟨W.heap.size, 4, none⟩ = some (.string e.c) ∧ w.cell? ⟨W.heap.size, 5, none⟩ = some (.string e.d) ∧ w.cell? ⟨W.heap.size, 6, none⟩ = some (.float .f64 e.v) ∧ w.cell? ⟨W.heap.size, 7, none⟩ = some (.int .i64 e.ph) := h.1.cells
end
/-- What the kind says. -/
theorem k4 (k : Nat) : ((k == 1 || k == 8) = true ∧ ((k : Int) == 1) = true) ∨ ((k == 1 || k == 8) = true ∧ ((k : Int) == 1) = false ∧ ((k : Int) == 8) = true) ∨
    ((k == 1 || k == 8) = false ∧ (k == 2) = true ∧ ((k : Int) == 1) = false ∧ ((k : Int) == 8) = false ∧ ((k : Int) == 2) = true) ∨
    ((k == 1 || k == 8) = false ∧ (k == 2) = false ∧ (k == 3) = true ∧ ((k : Int) == 1) = false ∧ ((k : Int) == 8) = false ∧ ((k : Int) == 2) = false ∧ ((k : Int) == 3) = true) ∨
    ((k == 1 || k == 8) = false ∧ (k == 2) = false ∧ (k == 3) = false ∧ ((k : Int) == 1) = false ∧ ((k : Int) == 8) = false ∧ ((k : Int) == 2) = false ∧ ((k : Int) == 3) = false) := by
  by_cases h1 : k = 1
  · subst h1; simp
  by_cases h2 : k = 8
  · subst h2; simp
  by_cases h3 : k = 2
  · subst h3; simp
  by_cases h4 : k = 3
  · subst h4; simp
  refine .inr (.inr (.inr (.inr ⟨by simp [h1, h2], by simp [h3], by simp [h4], ?_, ?_, ?_, ?_⟩))) <;> simp <;> omega

theorem Finite_z (a b : Nat) (z : CV) (h : cv a b = z) (w : World) : Calls Try.prog 44 #[.complex .f64 a b] w (RetB w (cfin z)) := h ▸ Finite_any a b w
end Go.Proofs.Ytfnbohpfcdddgaa

namespace Go.Proofs.Ytfnbohpfcdddgaa
open Go.RowKit Go.Maps

def cinv (z : CV) : CV := cdiv (cv 4607182418800017408 0) z
/-- The admittance across the rung i. -/
def inY (n i : Nat) (t : El) (o : Option Nat) (z : CV) : CV := if i + 1 < n then cadd (recG true t o) (cinv z) else recG true t o
def inStep (n i : Nat) (s t : El) (o : Option Nat) (z : CV) : Int × CV :=
  if recE true t o = 0 then
    (if cfin (inY n i t o z) = true then
      (if recE false s o = 0 then (if cfin (cadd (recG false s o) (cinv (inY n i t o z))) = true then (0, cadd (recG false s o) (cinv (inY n i t o z))) else (6, (val 0, val 0))) else (recE false s o, (val 0, val 0)))
    else (6, (val 0, val 0)))
  else (recE true t o, (val 0, val 0))
def inN (L : List El) (n : Nat) (o : Option Nat) : Nat → CV → CV × (Int × Int)
  | 0, z => (z, (0, 0))
  | i + 1, z => if (inStep n i (L.getD (2 * i) el0) (L.getD (2 * i + 1) el0) o z).1 = 0 then inN L n o i (inStep n i (L.getD (2 * i) el0) (L.getD (2 * i + 1) el0) o z).2 else ((val 0, val 0), ((inStep n i (L.getD (2 * i) el0) (L.getD (2 * i + 1) el0) o z).1, (i : Int)))
/-- What ladder.Input hands back. -/
def RetIn (w : World) (r : CV × (Int × Int)) (E : Ending) (w' : World) : Prop := ∃ x y, E = .returned (.tuple #[.complex .f64 x y, .agg #[.int .i64 r.2.1, .int .i64 r.2.2]]) ∧ Below w.heap.size w w' ∧ cv x y = r.1 ∧ IsW x ∧ IsW y
theorem RetIn.mk {w : World} {r : CV × (Int × Int)} {x y : Nat} {e a : Int} {E : Ending} {w' : World} (h : E = .returned (.tuple #[.complex .f64 x y, .agg #[.int .i64 e, .int .i64 a]])) (hb : Below w.heap.size w w') (h1 : IsW x) (h2 : IsW y) (hr : r = (cv x y, (e, a))) : RetIn w r E w' := by
  subst hr
  exact ⟨x, y, h, hb, rfl, h1, h2⟩
/-- Within the loop: k rungs are left. -/
def InLoop (W : World) (L : List El) (n : Nat) (o : Option Nat) (lv : Value) (r : CV × (Int × Int)) (i z : Value) (w : World) : Prop := ∃ (k : Nat) (iv : Int) (x y : Nat), i = .int .i64 iv ∧ iv = (k : Int) - 1 ∧ k ≤ n ∧ z = .complex .f64 x y ∧ IsW x ∧ IsW y ∧ inN L n o k (cv x y) = r ∧ ElsAt w lv L ∧ FltAt w W.heap.size 0 0 ∧ Below W.heap.size W w
theorem aboveE_cases (o : Option Nat) : (feq (fsub o o) (val 0) = false ∧ aboveE o = 5) ∨ (feq (fsub o o) (val 0) = true ∧ ((flt (val 0) o = false ∧ aboveE o = 2) ∨ (flt (val 0) o = true ∧ aboveE o = 0))) := by
  unfold aboveE fin
  cases feq (fsub o o) (val 0)
  · exact .inl ⟨rfl, rfl⟩
  · cases flt (val 0) o
    · exact .inr ⟨rfl, .inl ⟨rfl, rfl⟩⟩
    · exact .inr ⟨rfl, .inr ⟨rfl, rfl⟩⟩

/-- The fault alone. -/
def RetNW (w : World) (f : Int × Int) (E : Ending) (w' : World) : Prop := ∃ p, E = .returned (.tuple #[.pointer p, .agg #[.int .i64 f.1, .int .i64 f.2]]) ∧ Below w.heap.size w w'
theorem RetNet.weak {w : World} {r : (Int × Int) × Option NetS} {E : Ending} {w' : World} (h : RetNet w r E w') : RetNW w r.1 E w' := by
  obtain ⟨f, os⟩ := r
  cases os with
  | none => exact ⟨none, h.1, h.2⟩
  | some s =>
    obtain ⟨N, V, h1, _, h2⟩ := h
    exact ⟨_, h1, h2⟩
/-- The list, the fault's cell; nothing else is turned. -/
def InW (W : World) (lv : Value) (L : List El) (w : World) : Prop := ElsAt w lv L ∧ FltAt w W.heap.size 0 0 ∧ Below W.heap.size W w
theorem InW.drewN {W w : World} {lv : Value} {L : List El} (h : InW W lv L w) (n : Nat) : InW W lv L (w.drewN n) := ⟨h.1, h.2.1, below_drewN' h.2.2 n⟩
theorem InW.flt {W w : World} {lv : Value} {L : List El} (h : InW W lv L w) : FltAt w W.heap.size 0 0 := h.2.1
theorem InW.bl {W w : World} {lv : Value} {L : List El} (h : InW W lv L w) : Below W.heap.size W w := h.2.2
theorem InW.below {W w w' : World} {lv : Value} {L : List El} (h : InW W lv L w) (hb : Below w.heap.size w w') : InW W lv L w' := ⟨h.1.below hb, h.2.1.below hb h.2.1.lt, h.2.2.trans (hb.mono h.2.2.size)⟩
theorem ElsAt.cellsAt {w : World} {b off n cap : Nat} {L : List El} (h : ElsAt w (.slice (some ⟨b, off, none⟩) n cap) L) {k : Nat} {e : El} (he : L[k]? = some e) :
    w.cell? ⟨b, off + k * 8, none⟩ = some (.int .u8 e.kind) ∧ w.cell? ⟨b, off + k * 8 + 1, none⟩ = some (.string e.name) ∧ w.cell? ⟨b, off + k * 8 + 2, none⟩ = some (.string e.a) ∧ w.cell? ⟨b, off + k * 8 + 3, none⟩ = some (.string e.b) ∧ w.cell? ⟨b, off + k * 8 + 4, none⟩ = some (.string e.c) ∧ w.cell? ⟨b, off + k * 8 + 5, none⟩ = some (.string e.d) ∧ w.cell? ⟨b, off + k * 8 + 6, none⟩ = some (.float .f64 e.v) ∧ w.cell? ⟨b, off + k * 8 + 7, none⟩ = some (.int .i64 e.ph) := by
  obtain ⟨b', off', e1, _, r⟩ := h.at he
  cases e1
  exact r
theorem Finite_y (a b : Nat) (z : CV) (h : cv a b = z) (w : World) : Calls Try.prog 44 #[.complex .f64 a b] w (RetB w (cfin z)) := h ▸ Finite_any a b w
end Go.Proofs.Ytfnbohpfcdddgaa
