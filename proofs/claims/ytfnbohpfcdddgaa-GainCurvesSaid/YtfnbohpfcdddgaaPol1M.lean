/- Polynomials: what is refused; a value. No condition. A polynomial's value. Conditions: the number's parts have 64 bits. The sum of two polynomials. Conditions: words have 64 bits. A polynomial derived; the product of two. Conditions: words have 64 bits. The examples of the chapter on ladders that each statement asks first: they hold. No condition. Newton's steps to a zero. Conditions: words have 64 bits. -/
import Derived.Test.YtfnbohpfcdddgaaNLadM
import Derived.Test.YtfnbohpfcdddgaaSl
import Derived.Deep.RegionHeld3
import Derived.Test.YtfnbohpfcdddgaaStore
import Derived.Deep.AppendLies
import Derived.Deep.RegionLaw
import Derived.OwnWalk
import Derived.Deep.QuietTactic
import Derived.BigQuiet
namespace Go.Proofs.Ytfnbohpfcdddgaa
open Go.RowKit

abbrev Z := Nat × Nat
def zv (z : Z) : CV := cv z.1 z.2
def pf (p : List Z) : Bool := p.all fun z => cfin (zv z)
/-- What all calls refuse. -/
def refE (p : List Z) : Int := if 256 < p.length then 3 else if pf p = true then 0 else 5
def bothE (p q : List Z) : Int := if 256 < p.length ∨ 256 < q.length then 3 else if pf p = true then (if pf q = true then 0 else 5) else 5
def horN (p : List Z) (z : CV) : Nat → CV → CV
  | 0, x => x
  | k + 1, x => horN p z k (cadd (cmul x z) (zv (p.getD k (0, 0))))
def horner (p : List Z) (z : CV) : CV := if p.length = 0 then (val 0, val 0) else horN p z (p.length - 1) (zv (p.getD (p.length - 1) (0, 0)))
def atE (p : List Z) (z : CV) : Int := if refE p = 0 then (if cfin z = true then (if cfin (horner p z) = true then 0 else 6) else 5) else refE p
def atG (p : List Z) (z : CV) : CV := if atE p z = 0 then horner p z else (val 0, val 0)

theorem pf_false {p : List Z} {k : Nat} {z : Z} (h : p[k]? = some z) (hz : cfin (zv z) = false) : pf p = false := by
  unfold pf
  rw [← Bool.not_eq_true, List.all_eq_true]
  intro h2
  have := h2 z (List.mem_of_getElem? h)
  rw [hz] at this
  cases this
theorem pf_true {p : List Z} (h : ∀ (k : Nat) z, p[k]? = some z → cfin (zv z) = true) : pf p = true := by
  unfold pf
  rw [List.all_eq_true]
  intro z hz
  obtain ⟨k, hk⟩ := List.getElem?_of_mem hz
  exact h k z hk
/-- A row of numbers. -/
theorem Sl.cz {w : World} {v : Value} {p : List Z} (h : Sl w v (p.map C)) : ∃ a cap, v = .slice a p.length cap ∧ (∀ (k : Nat) (z : Z), p[k]? = some z → ∃ b off, a = some ⟨b, off, none⟩ ∧ w.cell? ⟨b, off + k, none⟩ = some (.complex .f64 z.1 z.2)) := by
  obtain ⟨a, cap, rfl, hr, hc, hl⟩ := h
  refine ⟨a, cap, by rw [List.length_map], fun k z hz => ?_⟩
  have hx : (p.map C)[k]? = some (C z) := by rw [List.getElem?_map, hz]; rfl
  obtain ⟨b, off, e, hcell⟩ := hr.at hx
  exact ⟨b, off, e, hcell k _ hx⟩

def RetIx (w : World) (b : Bool) (e : Ending) (w' : World) : Prop := ∃ n : Int, e = .returned (.int .i64 n) ∧ Dr w w' ∧ decide (0 ≤ n) = b
def IxLoop (w : World) (p : List Z) (i : Value) (wr : World) : Prop := ∃ k : Nat, k ≤ p.length ∧ i = .int .i64 k ∧ (∀ (j : Nat) z, j < k → p[j]? = some z → cfin (zv z) = true) ∧ Dr w wr
theorem refE_cases (p : List Z) : (256 < p.length ∧ refE p = 3) ∨ (¬ 256 < p.length ∧ ((pf p = true ∧ refE p = 0) ∨ (pf p = false ∧ refE p = 5))) := by
  unfold refE
  by_cases h : 256 < p.length
  · exact .inl ⟨h, if_pos h⟩
  · rw [if_neg h]
    cases pf p
    · exact .inr ⟨h, .inr ⟨rfl, rfl⟩⟩
    · exact .inr ⟨h, .inl ⟨rfl, rfl⟩⟩
def BothLoop (w : World) (p q : List Z) (i : Value) (wr : World) : Prop := ∃ k : Nat, k ≤ 2 ∧ i = .int .i64 k ∧ wr = w ∧ (1 ≤ k → ¬ 256 < p.length) ∧ (2 ≤ k → ¬ 256 < q.length)
/-- What told hands back: the polynomial, or none. -/
def toldE (p : List Z) : Int := if refE p = 5 then 6 else 0
def RetTold (w : World) (v : Value) (p : List Z) (e : Ending) (w' : World) : Prop := e = .returned (.tuple #[if refE p = 5 then .slice none 0 0 else v, .int .i64 (toldE p)]) ∧ Dr w w'
end Go.Proofs.Ytfnbohpfcdddgaa

namespace Go.Proofs.Ytfnbohpfcdddgaa
open Go.RowKit

def AtLoop (w : World) (p : List Z) (z r : CV) (i x : Value) (wr : World) : Prop := ∃ (k : Nat) (iv : Int) (a b : Nat), i = .int .i64 iv ∧ iv = (k : Int) - 1 ∧ k < p.length ∧ x = .complex .f64 a b ∧ IsW a ∧ IsW b ∧ horN p z k (cv a b) = r ∧ Dr w wr
def wfP (p : List Z) : Prop := ∀ (k : Nat) z, p[k]? = some z → IsW z.1 ∧ IsW z.2
theorem FiniteC_z (a b : Nat) (z : CV) (h : cv a b = z) (w : World) : Calls Try.prog 44 #[.complex .f64 a b] w (RetB w (cfin z)) := h ▸ Finite_any a b w
theorem zv_at {p : List Z} {k : Nat} {z : Z} (h : p[k]? = some z) : zv (p.getD k (0, 0)) = cv z.1 z.2 := by rw [List.getD_eq_getElem?_getD, h]; rfl

end Go.Proofs.Ytfnbohpfcdddgaa

namespace Go.Proofs.Ytfnbohpfcdddgaa
open Go.RowKit

theorem info_c : (Try.prog.info? 63).map (fun i => (i.zero, i.size, i.bytes)) = some (some (.complex .f64 0 0), 1, 16) := by kernel_rfl
/-- What is told of the numbers: none, if one of them is not finite. -/
def tol (vs : List CV) : List CV × Int := if vs.all cfin = true then (vs, 0) else ([], 6)
def pz (p : List Z) (i : Nat) : CV := zv (p.getD i (0, 0))
def plusA (p q : List Z) (i : Nat) : CV := if q.length ≤ i then pz p i else if p.length ≤ i then pz q i else cadd (pz p i) (pz q i)
def plusV (p q : List Z) : List CV := (List.range (max p.length q.length)).map (plusA p q)
def plusR (p q : List Z) : List CV × Int := if bothE p q = 0 then tol (plusV p q) else ([], bothE p q)
/-- A polynomial is handed back, with an error. -/
def RetPoly (w : World) (r : List CV × Int) (E : Ending) (w' : World) : Prop := ∃ v l, E = .returned (.tuple #[v, .int .i64 r.2]) ∧ w'.ownsRow w.heap.size 63 1 v l.length (l.map C) ∧ l.map zv = r.1 ∧ wfP l ∧ Below w.heap.size w w'
theorem RetPoly.none {w : World} {e : Int} {E : Ending} {w' : World} (h : E = .returned (.tuple #[.slice none 0 0, .int .i64 e])) (hb : Below w.heap.size w w') {r : List CV × Int} (hr : r = ([], e)) : RetPoly w r E w' := by
  subst hr
  exact ⟨_, [], h, World.ownsRow_nil _ _ _ _, rfl, fun k z hz => by simp at hz, hb⟩
theorem all_pf (l : List Z) : (l.map zv).all cfin = pf l := by
  unfold pf
  rw [List.all_map]
  rfl
theorem RetPoly.ok {w w' : World} {v : Value} {l : List Z} {E : Ending} (h1 : E = .returned (.tuple #[v, .int .i64 0])) (hown : w'.ownsRow w.heap.size 63 1 v l.length (l.map C)) (hw : wfP l) (hb : Below w.heap.size w w') {r : List CV × Int} (hr : r = (l.map zv, 0)) : RetPoly w r E w' := by
  subst hr
  exact ⟨v, l, h1, hown, rfl, hw, hb⟩
theorem tol_cases {l : List Z} (hl : l.length ≤ 256) : (refE l ≠ 5 ∧ tol (l.map zv) = (l.map zv, 0)) ∨ (refE l = 5 ∧ tol (l.map zv) = ([], 6)) := by
  unfold tol
  rw [all_pf]
  rcases refE_cases l with ⟨h3, _⟩ | ⟨_, ⟨h3, h4⟩ | ⟨h3, h4⟩⟩
  · omega
  · exact .inl ⟨by rw [h4]; decide, by rw [h3, if_pos rfl]⟩
  · exact .inr ⟨h4, by rw [h3, if_neg (by simp)]⟩
theorem wfP_snoc {l : List Z} {x : Z} (h : wfP l) (h1 : IsW x.1) (h2 : IsW x.2) : wfP (l ++ [x]) := by
  intro k z hz
  by_cases hk : k < l.length
  · rw [List.getElem?_append_left hk] at hz
    exact h k z hz
  · rw [List.getElem?_append_right (by omega)] at hz
    have := List.mem_of_getElem? hz
    rw [List.mem_singleton] at this
    subst this
    exact ⟨h1, h2⟩
theorem range_snoc (f : Nat → CV) (k : Nat) : (List.range (k + 1)).map f = (List.range k).map f ++ [f k] := by rw [List.range_succ, List.map_append]; rfl
/-- Within the loop. -/
def PolLoop (w : World) (f : Nat → CV) (n : Nat) (i out : Value) (wr : World) : Prop := ∃ (k : Nat) (l : List Z), i = .int .i64 k ∧ k ≤ n ∧ l.length = k ∧ l.map zv = (List.range k).map f ∧ wfP l ∧ wr.ownsRow w.heap.size 63 1 out l.length (l.map C) ∧ Below w.heap.size w wr

theorem PolLoop.next {w wr : World} {f : Nat → CV} {n k : Nat} {l : List Z} {x y : Nat} {v : Value} (hk : k < n) (hlk : l.length = k) (hm : l.map zv = (List.range k).map f) (hw : wfP l) (hx : IsW x) (hy : IsW y) (hf : cv x y = f k) (hown : wr.ownsRow w.heap.size 63 1 v (k + 1) (l.map C ++ [.complex .f64 x y])) (hb : Below w.heap.size w wr) : PolLoop w f n (.int .i64 ((k : Int) + 1)) v wr := by
  refine ⟨k + 1, l ++ [(x, y)], rfl, hk, by rw [List.length_append, hlk]; rfl, ?_, wfP_snoc hw hx hy, ?_, hb⟩
  · rw [List.map_append, hm, range_snoc]
    show _ ++ [cv x y] = _
    rw [hf]
  · rw [List.map_append, List.length_append, hlk]
    exact hown

end Go.Proofs.Ytfnbohpfcdddgaa

namespace Go.Proofs.Ytfnbohpfcdddgaa
open Go.RowKit

def derA (p : List Z) (j : Nat) : CV := cscale (val (ofInt ((j : Int) + 1))) (pz p (j + 1))
def derV (p : List Z) : List CV := (List.range (p.length - 1)).map (derA p)
def derR (p : List Z) : List CV × Int := if refE p = 0 then tol (derV p) else ([], refE p)
def DerLoop (w : World) (f : Nat → CV) (n : Nat) (i out : Value) (wr : World) : Prop := ∃ (k : Nat), i = .int .i64 ((k : Int) + 1) ∧ PolLoop w f n (.int .i64 k) out wr

/-- The part of the product's number m out of the first i numbers. -/
def timA (p q : List Z) (m : Nat) : Nat → CV
  | 0 => (val 0, val 0)
  | i + 1 => if i ≤ m ∧ m - i < q.length then cadd (timA p q m i) (cmul (pz p i) (pz q (m - i))) else timA p q m i
def timV (p q : List Z) : List CV := (List.range (p.length + q.length - 1)).map fun m => timA p q m p.length
def timR (p q : List Z) : List CV × Int := if bothE p q = 0 then (if p.length = 0 ∨ q.length = 0 then ([], 0) else if 256 < p.length + q.length - 1 then ([], 3) else tol (timV p q)) else ([], bothE p q)
/-- In the round i, up to k. -/
def timI (p q : List Z) (i k m : Nat) : CV := if i ≤ m ∧ m < i + k then timA p q m (i + 1) else timA p q m i
structure TimAt (w : World) (f : Nat → CV) (g n : Nat) (l : List Z) (wr : World) : Prop where
  len : l.length = n
  at' : ∀ (m : Nat) z, l[m]? = some z → zv z = f m
  wf : wfP l
  own : wr.ownsRow w.heap.size 63 1 (.slice (some ⟨g, 0, none⟩) n n) n (l.map C)
  bl : Below w.heap.size w wr
theorem TimAt.congr {w wr : World} {f f' : Nat → CV} {g n : Nat} {l : List Z} (h : TimAt w f g n l wr) (hf : ∀ m, m < n → f m = f' m) : TimAt w f' g n l wr :=
  { h with at' := fun m z hz => by rw [h.at' m z hz]; exact hf m (by have := (List.getElem?_eq_some_iff.1 hz).1; have := h.len; omega) }
theorem TimAt.set {w wr : World} {f : Nat → CV} {g n : Nat} {l : List Z} (h : TimAt w f g n l wr) (j x y nd : Nat) (hx : IsW x) (hy : IsW y) : TimAt w (fun m => if m = j then cv x y else f m) g n (l.set j (x, y)) ((wr.drewN nd).setCell ⟨g, j, none⟩ (.complex .f64 x y)) := by
  have hst := (owns_drewN h.own nd).stored j (.complex .f64 x y)
  have hg := h.own.lt g rfl
  refine ⟨by rw [List.length_set, h.len], ?_, ?_, ?_, (below_drewN' h.bl nd).setCell hg.1 _⟩
  · intro m z hz
    rw [List.getElem?_set] at hz
    split at hz
    · rename_i e
      subst e
      split at hz
      · cases hz; rw [if_pos rfl]; rfl
      · cases hz
    · rename_i e
      rw [if_neg (fun e2 => e e2.symm)]
      exact h.at' m z hz
  · intro m z hz
    rw [List.getElem?_set] at hz
    split at hz
    · split at hz
      · cases hz; exact ⟨hx, hy⟩
      · cases hz
    · exact h.wf m z hz
  · have := hst.1
    rw [show (l.set j (x, y)).map C = (l.map C).set j (.complex .f64 x y) from by rw [List.map_set]; rfl]
    exact this
def TimO (w : World) (p q : List Z) (g n : Nat) (i : Value) (wr : World) : Prop := ∃ (k : Nat) (l : List Z), i = .int .i64 k ∧ k ≤ p.length ∧ TimAt w (fun m => timA p q m k) g n l wr
def TimN (w : World) (p q : List Z) (g n i : Nat) (k : Value) (wr : World) : Prop := ∃ (j : Nat) (l : List Z), k = .int .i64 j ∧ j ≤ q.length ∧ TimAt w (timI p q i j) g n l wr
theorem timI_zero (p q : List Z) (i m : Nat) : timI p q i 0 m = timA p q m i := by
  unfold timI
  rw [if_neg (by omega)]
theorem timI_end (p q : List Z) (i m : Nat) : timI p q i q.length m = timA p q m (i + 1) := by
  unfold timI
  split
  · rfl
  · rw [timA, if_neg (by omega)]
theorem timI_succ (p q : List Z) (i j m : Nat) (hj : j < q.length) : timI p q i (j + 1) m = if m = i + j then cadd (timA p q (i + j) i) (cmul (pz p i) (pz q j)) else timI p q i j m := by
  unfold timI
  by_cases h : m = i + j
  · subst h
    rw [if_pos (by omega), if_pos rfl, timA, if_pos (by omega), show i + j - i = j by omega]
  · rw [if_neg h]
    by_cases h2 : i ≤ m ∧ m < i + j
    · rw [if_pos h2, if_pos (by omega)]
    · rw [if_neg h2, if_neg (by omega)]
theorem timI_at (p q : List Z) (i j : Nat) : timI p q i j (i + j) = timA p q (i + j) i := by
  unfold timI
  rw [if_neg (by omega)]

end Go.Proofs.Ytfnbohpfcdddgaa

namespace Go.Proofs.Ytfnbohpfcdddgaa
open Go.RowKit

def lvS : List El := [⟨1, ⟨#[82, 49]⟩, ⟨#[]⟩, ⟨#[]⟩, ⟨#[]⟩, ⟨#[]⟩, 4607182418800017408, 0⟩]
def lvT : List El := [⟨1, ⟨#[82, 50]⟩, ⟨#[]⟩, ⟨#[]⟩, ⟨#[]⟩, ⟨#[]⟩, 4611686018427387904, 0⟩]
theorem lvB : (netF [⟨1, ⟨#[82, 49]⟩, ⟨#[97, 48]⟩, ⟨#[97, 49]⟩, ⟨#[]⟩, ⟨#[]⟩, 4607182418800017408, 0⟩, ⟨1, ⟨#[82, 50]⟩, ⟨#[97, 49]⟩, ⟨#[48]⟩, ⟨#[]⟩, ⟨#[]⟩, 4611686018427387904, 0⟩]).1 = (0, 0) := by decide +kernel
theorem lvC : inN [⟨1, ⟨#[82, 49]⟩, ⟨#[97, 48]⟩, ⟨#[97, 49]⟩, ⟨#[]⟩, ⟨#[]⟩, 4607182418800017408, 0⟩, ⟨1, ⟨#[82, 50]⟩, ⟨#[97, 49]⟩, ⟨#[48]⟩, ⟨#[]⟩, ⟨#[]⟩, 4611686018427387904, 0⟩] 1 (val 4607182418800017408) 1 (val 0, val 0) = ((some 4613937818241073152, some 0), (0, 0)) := by decide +kernel
theorem lvW : (∀ e ∈ lvS, e.kind < 256 ∧ IsW e.v) ∧ (∀ e ∈ lvT, e.kind < 256 ∧ IsW e.v) := by unfold IsW; decide +kernel
theorem lvAt : atE [(4607182418800017408, 0), (0, 0), (4607182418800017408, 0)] (cv 0 4607182418800017408) = 0 ∧ atG [(4607182418800017408, 0), (0, 0), (4607182418800017408, 0)] (cv 0 4607182418800017408) = (some 0, some 0) := by decide +kernel
theorem lvTm : timR [(4607182418800017408, 0), (4607182418800017408, 0)] [(4607182418800017408, 0), (4607182418800017408, 0)] = ([(some 4607182418800017408, some 0), (some 4611686018427387904, some 0), (some 4607182418800017408, some 0)], 0) := by decide +kernel

theorem Sl_lit (w : World) (e : Nat) (cs : List Value) : Sl (w.alloc (.cells cs.toArray e)) (.slice (some ⟨w.heap.size, 0, none⟩) cs.length cs.length) cs := by
  refine ⟨some ⟨w.heap.size, 0, none⟩, cs.length, rfl, fun _ => ⟨w.heap.size, 0, rfl, fun i x hx => ?_⟩, (fun h => by cases h), Nat.le_refl _⟩
  rw [Nat.zero_add, World.cell?_alloc_new]
  simpa using hx
theorem Els_lit (w : World) (e : El) : ElsAt (w.alloc (.cells (elC e).toArray 74)) (.slice (some ⟨w.heap.size, 0, none⟩) 1 1) [e] := by
  refine ⟨some ⟨w.heap.size, 0, none⟩, 1, rfl, fun k e' he => ?_⟩
  have hk : k = 0 := by have := (List.getElem?_eq_some_iff.1 he).1; simpa using this
  subst hk
  simp at he
  subst he
  refine ⟨w.heap.size, 0, rfl, fun j x hx => ?_⟩
  rw [Nat.zero_mul, Nat.zero_add, World.cell?_alloc_new]
  simpa using hx

/-- Are two rows of numbers equal? -/
def eqZ (x y : Z) : Bool := feq (val x.1) (val y.1) && feq (val x.2) (val y.2)
def equalL (xs ys : List Z) : Bool := decide (xs.length = ys.length) && (List.range xs.length).all fun i => eqZ (xs.getD i (0, 0)) (ys.getD i (0, 0))
theorem equalL_false {xs ys : List Z} {k : Nat} (hk : k < xs.length) (h : eqZ (xs.getD k (0, 0)) (ys.getD k (0, 0)) = false) : equalL xs ys = false := by
  unfold equalL
  rw [← Bool.not_eq_true]
  intro h2
  rw [Bool.and_eq_true, List.all_eq_true] at h2
  have := h2.2 k (List.mem_range.2 hk)
  rw [h] at this
  cases this
def EqLoop (w : World) (xs ys : List Z) (i : Value) (wr : World) : Prop := ∃ k : Nat, k ≤ xs.length ∧ i = .int .i64 k ∧ (∀ j, j < k → eqZ (xs.getD j (0, 0)) (ys.getD j (0, 0)) = true) ∧ Dr w wr
theorem lvEq {l : List Z} (h : l.map zv = [(some 4607182418800017408, some 0), (some 4611686018427387904, some 0), (some 4607182418800017408, some 0)]) : equalL l [(4607182418800017408, 0), (4611686018427387904, 0), (4607182418800017408, 0)] = true := by
  have hl : l.length = 3 := by rw [← List.length_map (f := zv), h]; rfl
  have hz : ∀ (k : Nat) z, l[k]? = some z → ∀ c, ([(some 4607182418800017408, some 0), (some 4611686018427387904, some 0), (some 4607182418800017408, some 0)] : List CV)[k]? = some c → zv z = c := by
    intro k z hz c hc
    rw [← h, List.getElem?_map, hz] at hc
    exact Option.some.inj hc
  have hd : ∀ k, k < 3 → l[k]? = some (l.getD k (0, 0)) := by
    intro k hk
    rw [List.getD_eq_getElem?_getD, List.getElem?_eq_getElem (by omega)]
    rfl
  unfold equalL
  rw [hl]
  have h0 := hz 0 _ (hd 0 (by omega)) _ rfl
  have h1 := hz 1 _ (hd 1 (by omega)) _ rfl
  have h2 := hz 2 _ (hd 2 (by omega)) _ rfl
  have e : ∀ k, eqZ (l.getD k (0, 0)) = fun y => feq (zv (l.getD k (0, 0))).1 (val y.1) && feq (zv (l.getD k (0, 0))).2 (val y.2) := fun k => rfl
  simp only [List.range, List.range.loop, List.all_cons, List.all_nil, Bool.and_true, e, h0, h1, h2]
  decide +kernel

def lvP : List Z := [(4607182418800017408, 0), (0, 0), (4607182418800017408, 0)]
def lvQ : List Z := [(4607182418800017408, 0), (4607182418800017408, 0)]
def lvE : List Z := [(4607182418800017408, 0), (4611686018427387904, 0), (4607182418800017408, 0)]
theorem lvPw : ∀ z ∈ lvP, IsW z.1 ∧ IsW z.2 := by unfold IsW; decide +kernel
end Go.Proofs.Ytfnbohpfcdddgaa

namespace Go.Proofs.Ytfnbohpfcdddgaa
open Go.RowKit

abbrev Z0 : CV := (val 0, val 0)
def horC (vs : List CV) (z : CV) : Nat → CV → CV
  | 0, x => x
  | k + 1, x => horC vs z k (cadd (cmul x z) (vs.getD k Z0))
def hornC (vs : List CV) (z : CV) : CV := if vs.length = 0 then Z0 else horC vs z (vs.length - 1) (vs.getD (vs.length - 1) Z0)
def refC (vs : List CV) : Int := if 256 < vs.length then 3 else if vs.all cfin = true then 0 else 5
def atC (vs : List CV) (z : CV) : Int := if refC vs = 0 then (if cfin z = true then (if cfin (hornC vs z) = true then 0 else 6) else 5) else refC vs
def atV (vs : List CV) (z : CV) : CV := if atC vs z = 0 then hornC vs z else Z0
theorem getD_zv (p : List Z) (k : Nat) : zv (p.getD k (0, 0)) = (p.map zv).getD k Z0 := by
  rw [List.getD_eq_getElem?_getD, List.getD_eq_getElem?_getD, List.getElem?_map]
  cases p[k]? <;> rfl
theorem horN_c (p : List Z) (z : CV) : ∀ (k : Nat) (x : CV), horN p z k x = horC (p.map zv) z k x := by
  intro k
  induction k with
  | zero => intro x; rfl
  | succ k ih => intro x; rw [horN, horC, ih, getD_zv]
theorem horner_c (p : List Z) (z : CV) : horner p z = hornC (p.map zv) z := by
  unfold horner hornC
  rw [List.length_map, horN_c, getD_zv]
theorem refE_c (p : List Z) : refE p = refC (p.map zv) := by
  unfold refE refC
  rw [List.length_map, all_pf]
theorem atE_c (p : List Z) (z : CV) : atE p z = atC (p.map zv) z := by
  unfold atE atC
  rw [refE_c, horner_c]
theorem atG_c (p : List Z) (z : CV) : atG p z = atV (p.map zv) z := by
  unfold atG atV
  rw [atE_c, horner_c]
/-- Does a step come nearer? -/
def nwOk (vs ds : List CV) (z : CV) : Bool := decide (atC vs z = 0) && decide (atC ds z = 0) && !czero (atV ds z) && decide (atC vs (csub z (cdiv (atV vs z) (atV ds z))) = 0) && flt (size1 (atV vs (csub z (cdiv (atV vs z) (atV ds z))))) (size1 (atV vs z))
def nwt (vs ds : List CV) : Nat → CV → Nat → CV × Nat
  | 0, z, n => (z, n)
  | k + 1, z, n => if nwOk vs ds z = true then nwt vs ds k (csub z (cdiv (atV vs z) (atV ds z))) (n + 1) else (z, n)
def newC (vs : List CV) (z : CV) (m : Int) (d : List CV × Int) : CV × Nat := if d.2 = 0 then nwt vs d.1 m.toNat z 0 else (z, 0)
/-- The number, how many steps, the error. -/
def newR (p : List Z) (z : CV) (m : Int) : CV × Nat × Int :=
  if refE p = 0 then (if cfin z = true then (if m < 0 ∨ 4096 < m then (Z0, 0, 2) else ((newC (p.map zv) z m (derR p)).1, (newC (p.map zv) z m (derR p)).2, 0)) else (Z0, 0, 5)) else (Z0, 0, refE p)
def RetNw (w : World) (r : CV × Nat × Int) (E : Ending) (w' : World) : Prop := ∃ x y, E = .returned (.tuple #[.complex .f64 x y, .int .i64 r.2.1, .int .i64 r.2.2]) ∧ Below w.heap.size w w' ∧ cv x y = r.1 ∧ IsW x ∧ IsW y
theorem RetNw.mk {w : World} {r : CV × Nat × Int} {x y n : Nat} {e : Int} {E : Ending} {w' : World} (h : E = .returned (.tuple #[.complex .f64 x y, .int .i64 n, .int .i64 e])) (hb : Below w.heap.size w w') (h1 : IsW x) (h2 : IsW y) (hr : r = (cv x y, n, e)) : RetNw w r E w' := by
  subst hr
  exact ⟨x, y, h, hb, rfl, h1, h2⟩
def NwLoop (W : World) (vs ds : List CV) (m : Nat) (r : CV × Nat) (dv : Value) (dl : List Z) (n z : Value) (w : World) : Prop := ∃ (k s x y : Nat), n = .int .i64 s ∧ s + k = m ∧ z = .complex .f64 x y ∧ IsW x ∧ IsW y ∧ nwt vs ds k (cv x y) s = r ∧ Sl w dv (dl.map C) ∧ Below W.heap.size W w

theorem tol_len (vs : List CV) : (tol vs).1.length ≤ vs.length := by
  unfold tol
  split <;> simp
theorem derR_len (p : List Z) : (derR p).1.length ≤ p.length := by
  unfold derR
  split
  · have := tol_len (derV p)
    have h : (derV p).length = p.length - 1 := by unfold derV; simp
    omega
  · simp
theorem Zero_z (a b : Nat) (z : CV) (h : cv a b = z) (w : World) : Calls Try.prog 45 #[.complex .f64 a b] w (fun e w' => e = .returned (.bool (czero z)) ∧ w = w') := h ▸ Zero_any a b w
theorem Div_z (a b c d : Nat) (p q : CV) (h : cv a b = p) (h' : cv c d = q) (w : World) : Calls Try.prog 46 #[.complex .f64 a b, .complex .f64 c d] w (RetC w (cdiv p q)) := h ▸ h' ▸ Div_any a b c d w
theorem nw_cases (vs ds : List CV) (z : CV) :
    (nwOk vs ds z = false ∧ (atC vs z == 0) = false ∧ (atC vs z = 0) = False) ∨ ((atC vs z = 0) ∧
    ((nwOk vs ds z = false ∧ (atC ds z == 0) = false ∧ (atC ds z = 0) = False) ∨ (atC ds z = 0 ∧
    ((nwOk vs ds z = false ∧ czero (atV ds z) = true) ∨ (czero (atV ds z) = false ∧
    ((nwOk vs ds z = false ∧ (atC vs (csub z (cdiv (atV vs z) (atV ds z))) == 0) = false ∧ (atC vs (csub z (cdiv (atV vs z) (atV ds z))) = 0) = False) ∨ (atC vs (csub z (cdiv (atV vs z) (atV ds z))) = 0 ∧
    ((nwOk vs ds z = false ∧ flt (size1 (atV vs (csub z (cdiv (atV vs z) (atV ds z))))) (size1 (atV vs z)) = false) ∨ (nwOk vs ds z = true ∧ flt (size1 (atV vs (csub z (cdiv (atV vs z) (atV ds z))))) (size1 (atV vs z)) = true))))))))) := by
  unfold nwOk
  generalize csub z (cdiv (atV vs z) (atV ds z)) = y
  generalize flt (size1 (atV vs y)) (size1 (atV vs z)) = b5
  generalize czero (atV ds z) = b3
  generalize atC vs z = e1
  generalize atC ds z = e2
  generalize atC vs y = e3
  by_cases h1 : e1 = 0
  · by_cases h2 : e2 = 0
    · by_cases h3 : e3 = 0
      · cases b3 <;> cases b5 <;> simp [h1, h2, h3]
      · cases b3 <;> simp [h1, h2, h3]
    · simp [h1, h2]
  · simp [h1]

end Go.Proofs.Ytfnbohpfcdddgaa
