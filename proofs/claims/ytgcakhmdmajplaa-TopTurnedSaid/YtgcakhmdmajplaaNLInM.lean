/- ladder.Input: what one sees of a ladder. Condition: kinds are bytes, Values have 64 bits. The examples of the chapter on ladders that each statement asks first: they hold. No condition. Newton's steps to a zero. Conditions: words have 64 bits. What the chapter's named examples are made of: an element by kind, name and value; rows of noughts. No condition. Rows of noughts that are made, as a fact of every world; worlds that grow. No condition. gridworkkit.Element: an element out of bits. No condition. -/
import Derived.Test.YtgcakhmdmajplaaNOfM
import Derived.Test.YtgcakhmdmajplaaNAdm
import Derived.Test.YtgcakhmdmajplaaBaseM
import Derived.Deep.QuietTactic
import Derived.BigQuiet
import Derived.OwnWalk
import Derived.Deep.OwnRows
import Derived.StillTailTactics
import Derived.BigRegion
namespace Go.Proofs.Ytgcakhmdmajplaa
open Go.RowKit Go.Maps

def cinv (z : CV) : CV := cdiv (cv 4607182418800017408 0) z
/-- The admittance across the rung i. -/
def inY (n i : Nat) (t : El) (o : Option Nat) (z : CV) : CV := if i + 1 < n then cadd (recG true t o) (cinv z) else recG true t o
def inStep (n i : Nat) (s t : El) (o : Option Nat) (z : CV) : Int × CV :=
  if recE true t o = 0 then
    (if cfin (inY n i t o z) = true then
      (if recE false s o = 0 then (if cfin (cadd (recG false s o) (cinv (inY n i t o z))) = true then (0, cadd (recG false s o) (cinv (inY n i t o z))) else (6, (val 0, val 0))) else (recE false s o, (val 0, val 0)))
    else (6, (val 0, val 0)))
  else (recE true t o, (val 0, val 0))
def inN (L : List El) (n : Nat) (o : Option Nat) : Nat → CV → CV × (Int × Int)
  | 0, z => (z, (0, 0))
  | i + 1, z => if (inStep n i (L.getD (2 * i) el0) (L.getD (2 * i + 1) el0) o z).1 = 0 then inN L n o i (inStep n i (L.getD (2 * i) el0) (L.getD (2 * i + 1) el0) o z).2 else ((val 0, val 0), ((inStep n i (L.getD (2 * i) el0) (L.getD (2 * i + 1) el0) o z).1, (i : Int)))
/-- What ladder.Input hands back. -/
def RetIn (w : World) (r : CV × (Int × Int)) (E : Ending) (w' : World) : Prop := ∃ x y, E = .returned (.tuple #[.complex .f64 x y, .agg #[.int .i64 r.2.1, .int .i64 r.2.2]]) ∧ Below w.heap.size w w' ∧ cv x y = r.1 ∧ IsW x ∧ IsW y
theorem RetIn.mk {w : World} {r : CV × (Int × Int)} {x y : Nat} {e a : Int} {E : Ending} {w' : World} (h : E = .returned (.tuple #[.complex .f64 x y, .agg #[.int .i64 e, .int .i64 a]])) (hb : Below w.heap.size w w') (h1 : IsW x) (h2 : IsW y) (hr : r = (cv x y, (e, a))) : RetIn w r E w' := by
  subst hr
  exact ⟨x, y, h, hb, rfl, h1, h2⟩
/-- Within the loop: k rungs are left. -/
def InLoop (W : World) (L : List El) (n : Nat) (o : Option Nat) (lv : Value) (r : CV × (Int × Int)) (i z : Value) (w : World) : Prop := ∃ (k : Nat) (iv : Int) (x y : Nat), i = .int .i64 iv ∧ iv = (k : Int) - 1 ∧ k ≤ n ∧ z = .complex .f64 x y ∧ IsW x ∧ IsW y ∧ inN L n o k (cv x y) = r ∧ ElsAt w lv L ∧ FltAt w W.heap.size 0 0 ∧ Below W.heap.size W w
theorem aboveE_cases (o : Option Nat) : (feq (fsub o o) (val 0) = false ∧ aboveE o = 5) ∨ (feq (fsub o o) (val 0) = true ∧ ((flt (val 0) o = false ∧ aboveE o = 2) ∨ (flt (val 0) o = true ∧ aboveE o = 0))) := by
  unfold aboveE fin
  cases feq (fsub o o) (val 0)
  · exact .inl ⟨rfl, rfl⟩
  · cases flt (val 0) o
    · exact .inr ⟨rfl, .inl ⟨rfl, rfl⟩⟩
    · exact .inr ⟨rfl, .inr ⟨rfl, rfl⟩⟩

/-- The fault alone. -/
def RetNW (w : World) (f : Int × Int) (E : Ending) (w' : World) : Prop := ∃ p, E = .returned (.tuple #[.pointer p, .agg #[.int .i64 f.1, .int .i64 f.2]]) ∧ Below w.heap.size w w'
theorem RetNet.weak {w : World} {r : (Int × Int) × Option NetS} {E : Ending} {w' : World} (h : RetNet w r E w') : RetNW w r.1 E w' := by
  obtain ⟨f, os⟩ := r
  cases os with
  | none => exact ⟨none, h.1, h.2⟩
  | some s =>
    obtain ⟨N, V, h1, _, h2⟩ := h
    exact ⟨_, h1, h2⟩
/-- The list, the fault's cell; nothing else is turned. -/
def InW (W : World) (lv : Value) (L : List El) (w : World) : Prop := ElsAt w lv L ∧ FltAt w W.heap.size 0 0 ∧ Below W.heap.size W w
theorem InW.drewN {W w : World} {lv : Value} {L : List El} (h : InW W lv L w) (n : Nat) : InW W lv L (w.drewN n) := ⟨h.1, h.2.1, below_drewN' h.2.2 n⟩
theorem InW.flt {W w : World} {lv : Value} {L : List El} (h : InW W lv L w) : FltAt w W.heap.size 0 0 := h.2.1
theorem InW.bl {W w : World} {lv : Value} {L : List El} (h : InW W lv L w) : Below W.heap.size W w := h.2.2
theorem InW.below {W w w' : World} {lv : Value} {L : List El} (h : InW W lv L w) (hb : Below w.heap.size w w') : InW W lv L w' := ⟨h.1.below hb, h.2.1.below hb h.2.1.lt, h.2.2.trans (hb.mono h.2.2.size)⟩
theorem ElsAt.cellsAt {w : World} {b off n cap : Nat} {L : List El} (h : ElsAt w (.slice (some ⟨b, off, none⟩) n cap) L) {k : Nat} {e : El} (he : L[k]? = some e) :
    w.cell? ⟨b, off + k * 8, none⟩ = some (.int .u8 e.kind) ∧ w.cell? ⟨b, off + k * 8 + 1, none⟩ = some (.string e.name) ∧ w.cell? ⟨b, off + k * 8 + 2, none⟩ = some (.string e.a) ∧ w.cell? ⟨b, off + k * 8 + 3, none⟩ = some (.string e.b) ∧ w.cell? ⟨b, off + k * 8 + 4, none⟩ = some (.string e.c) ∧ w.cell? ⟨b, off + k * 8 + 5, none⟩ = some (.string e.d) ∧ w.cell? ⟨b, off + k * 8 + 6, none⟩ = some (.float .f64 e.v) ∧ w.cell? ⟨b, off + k * 8 + 7, none⟩ = some (.int .i64 e.ph) := by
  obtain ⟨b', off', e1, _, r⟩ := h.at he
  cases e1
  exact r
theorem Add_z (a b c d : Nat) (p q : CV) (h : cv a b = p) (h' : cv c d = q) (w : World) : Calls Try.prog 64 #[.complex .f64 a b, .complex .f64 c d] w (RetC w (cadd p q)) := h ▸ h' ▸ Add_any a b c d w
theorem Finite_y (a b : Nat) (z : CV) (h : cv a b = z) (w : World) : Calls Try.prog 61 #[.complex .f64 a b] w (RetB w (cfin z)) := h ▸ Finite_any a b w
end Go.Proofs.Ytgcakhmdmajplaa

namespace Go.Proofs.Ytgcakhmdmajplaa
open Go.RowKit

def lvS : List El := [⟨1, ⟨#[82, 49]⟩, ⟨#[]⟩, ⟨#[]⟩, ⟨#[]⟩, ⟨#[]⟩, 4607182418800017408, 0⟩]
def lvT : List El := [⟨1, ⟨#[82, 50]⟩, ⟨#[]⟩, ⟨#[]⟩, ⟨#[]⟩, ⟨#[]⟩, 4611686018427387904, 0⟩]
theorem lvB : (netF [⟨1, ⟨#[82, 49]⟩, ⟨#[97, 48]⟩, ⟨#[97, 49]⟩, ⟨#[]⟩, ⟨#[]⟩, 4607182418800017408, 0⟩, ⟨1, ⟨#[82, 50]⟩, ⟨#[97, 49]⟩, ⟨#[48]⟩, ⟨#[]⟩, ⟨#[]⟩, 4611686018427387904, 0⟩]).1 = (0, 0) := by decide +kernel
theorem lvC : inN [⟨1, ⟨#[82, 49]⟩, ⟨#[97, 48]⟩, ⟨#[97, 49]⟩, ⟨#[]⟩, ⟨#[]⟩, 4607182418800017408, 0⟩, ⟨1, ⟨#[82, 50]⟩, ⟨#[97, 49]⟩, ⟨#[48]⟩, ⟨#[]⟩, ⟨#[]⟩, 4611686018427387904, 0⟩] 1 (val 4607182418800017408) 1 (val 0, val 0) = ((some 4613937818241073152, some 0), (0, 0)) := by decide +kernel
theorem lvW : (∀ e ∈ lvS, e.kind < 256 ∧ IsW e.v) ∧ (∀ e ∈ lvT, e.kind < 256 ∧ IsW e.v) := by unfold IsW; decide +kernel
theorem lvAt : atE [(4607182418800017408, 0), (0, 0), (4607182418800017408, 0)] (cv 0 4607182418800017408) = 0 ∧ atG [(4607182418800017408, 0), (0, 0), (4607182418800017408, 0)] (cv 0 4607182418800017408) = (some 0, some 0) := by decide +kernel
theorem lvTm : timR [(4607182418800017408, 0), (4607182418800017408, 0)] [(4607182418800017408, 0), (4607182418800017408, 0)] = ([(some 4607182418800017408, some 0), (some 4611686018427387904, some 0), (some 4607182418800017408, some 0)], 0) := by decide +kernel

theorem Sl_lit (w : World) (e : Nat) (cs : List Value) : Sl (w.alloc (.cells cs.toArray e)) (.slice (some ⟨w.heap.size, 0, none⟩) cs.length cs.length) cs := by
  refine ⟨some ⟨w.heap.size, 0, none⟩, cs.length, rfl, fun _ => ⟨w.heap.size, 0, rfl, fun i x hx => ?_⟩, (fun h => by cases h), Nat.le_refl _⟩
  rw [Nat.zero_add, World.cell?_alloc_new]
  simpa using hx
theorem Els_lit (w : World) (e : El) : ElsAt (w.alloc (.cells (elC e).toArray 54)) (.slice (some ⟨w.heap.size, 0, none⟩) 1 1) [e] := by
  refine ⟨some ⟨w.heap.size, 0, none⟩, 1, rfl, fun k e' he => ?_⟩
  have hk : k = 0 := by have := (List.getElem?_eq_some_iff.1 he).1; simpa using this
  subst hk
  simp at he
  subst he
  refine ⟨w.heap.size, 0, rfl, fun j x hx => ?_⟩
  rw [Nat.zero_mul, Nat.zero_add, World.cell?_alloc_new]
  simpa using hx

/-- Are two rows of numbers equal? -/
def eqZ (x y : Z) : Bool := feq (val x.1) (val y.1) && feq (val x.2) (val y.2)
def equalL (xs ys : List Z) : Bool := decide (xs.length = ys.length) && (List.range xs.length).all fun i => eqZ (xs.getD i (0, 0)) (ys.getD i (0, 0))
theorem equalL_false {xs ys : List Z} {k : Nat} (hk : k < xs.length) (h : eqZ (xs.getD k (0, 0)) (ys.getD k (0, 0)) = false) : equalL xs ys = false := by
  unfold equalL
  rw [← Bool.not_eq_true]
  intro h2
  rw [Bool.and_eq_true, List.all_eq_true] at h2
  have := h2.2 k (List.mem_range.2 hk)
  rw [h] at this
  cases this
def EqLoop (w : World) (xs ys : List Z) (i : Value) (wr : World) : Prop := ∃ k : Nat, k ≤ xs.length ∧ i = .int .i64 k ∧ (∀ j, j < k → eqZ (xs.getD j (0, 0)) (ys.getD j (0, 0)) = true) ∧ Dr w wr
set_option maxRecDepth 100000 in
set_option maxHeartbeats 1000000 in
theorem EqualNumbers_any (xs ys : List Z) (va vb : Value) (w : World) (hx : Sl w va (xs.map C)) (hy : Sl w vb (ys.map C)) (hn : xs.length ≤ 140737488355328) : Calls Try.prog 17 #[va, vb] w (RetB w (equalL xs ys)) := by
  obtain ⟨a, cap, rfl, hcx⟩ := hx.cz
  obtain ⟨b, cap2, rfl, hcy⟩ := hy.cz
  by_cases hl : xs.length = ys.length
  · have g1 : ((xs.length : Int) != (ys.length : Int)) = false := by simp; omega
    have HL := hid hl
    go_enter Try.func17, Try.ntmps17
    clear hl
    go_wp2
    go_loopw [5] (fun i w' => EqLoop w xs ys i w') (fun i _ => xs.length + 1 - (intOf i).toNat)
    case atStart => exact ⟨0, by omega, rfl, fun j h => by omega, Dr.refl w⟩
    case round =>
      obtain ⟨k, hk, rfl, hj, nd, rfl⟩ := hrel
      by_cases hkl : k < xs.length
      · obtain ⟨⟨x1, x2⟩, hx1⟩ : ∃ z, xs[k]? = some z := ⟨xs[k]'hkl, List.getElem?_eq_getElem hkl⟩
        obtain ⟨⟨y1, y2⟩, hy1⟩ : ∃ z, ys[k]? = some z := ⟨ys[k]'(by rw [← HL.out]; exact hkl), List.getElem?_eq_getElem (by rw [← HL.out]; exact hkl)⟩
        obtain ⟨b1, off1, rfl, cx⟩ := hcx k _ hx1
        obtain ⟨b2, off2, rfl, cy⟩ := hcy k _ hy1
        have g2 : (k : Int) < (ys.length : Int) := by have := HL.out; omega
        have g3 : (k : Int) < (xs.length : Int) := by omega
        have hgx : xs.getD k (0, 0) = (x1, x2) := by rw [List.getD_eq_getElem?_getD, hx1]; rfl
        have hgy : ys.getD k (0, 0) = (y1, y2) := by rw [List.getD_eq_getElem?_getD, hy1]; rfl
        have HE := hid (show eqZ (xs.getD k (0, 0)) (ys.getD k (0, 0)) = (feq (val x1) (val y1) && feq (val x2) (val y2)) by rw [hgx, hgy]; rfl)
        have HJ := hid hj
        clear hcx hcy hx1 hy1 hgx hgy hj
        cases h1 : feq (val x1) (val y1)
        · have HX : eqZ (xs.getD k (0, 0)) (ys.getD k (0, 0)) = false := by rw [HE.out, h1]; rfl
          have HF := hid (equalL_false hkl HX)
          clear HX
          go_wp2
          go_quiet (fail)
          go_wp2
          go_ret
          exact ⟨by rw [HF.out]; rfl, (by first | with_reducible exact Dr.refl _ | with_reducible exact Dr.mk _ _ | with_reducible exact Dr.trans (Dr.mk _ _) (Dr.mk _ _))⟩
        · cases h2 : feq (val x2) (val y2)
          · have HX : eqZ (xs.getD k (0, 0)) (ys.getD k (0, 0)) = false := by rw [HE.out, h1, h2]; rfl
            have HF := hid (equalL_false hkl HX)
            clear HX
            go_wp2
            go_quiet (fail)
            go_wp2
            go_ret
            exact ⟨by rw [HF.out]; rfl, (by first | with_reducible exact Dr.refl _ | with_reducible exact Dr.mk _ _ | with_reducible exact Dr.trans (Dr.mk _ _) (Dr.mk _ _))⟩
          · have HX : eqZ (xs.getD k (0, 0)) (ys.getD k (0, 0)) = true := by rw [HE.out, h1, h2]; rfl
            have HF := hid HX
            clear HX
            go_wp2
            go_quiet (fail)
            go_wp2
            go_roundw
            case rel =>
              refine ⟨k + 1, by omega, by go_num, fun j hj => ?_, (by first | with_reducible exact Dr.refl _ | with_reducible exact Dr.mk _ _ | with_reducible exact Dr.trans (Dr.mk _ _) (Dr.mk _ _))⟩
              by_cases h : j < k
              · exact HJ.out j h
              · obtain rfl : j = k := by omega
                exact HF.out
            case measure => simp [intOf] <;> omega
      · obtain rfl : k = xs.length := by omega
        have HF := hid (show equalL xs ys = true by
          unfold equalL
          rw [HL.out, decide_eq_true rfl, Bool.true_and, List.all_eq_true]
          intro j hm
          rw [← HL.out] at hm
          exact hj j (List.mem_range.1 hm))
        clear hj hcx hcy
        go_wp2
        go_ret
        exact ⟨by rw [HF.out]; rfl, (by first | with_reducible exact Dr.refl _ | with_reducible exact Dr.mk _ _ | with_reducible exact Dr.trans (Dr.mk _ _) (Dr.mk _ _))⟩
  · have g1 : ((xs.length : Int) != (ys.length : Int)) = true := by simp; omega
    have HF := hid (show equalL xs ys = false by unfold equalL; rw [decide_eq_false hl, Bool.false_and])
    clear hcx hcy hl
    go_enter Try.func17, Try.ntmps17
    go_wp2
    go_ret
    exact ⟨by rw [HF.out]; rfl, Dr.refl _⟩

theorem lvEq {l : List Z} (h : l.map zv = [(some 4607182418800017408, some 0), (some 4611686018427387904, some 0), (some 4607182418800017408, some 0)]) : equalL l [(4607182418800017408, 0), (4611686018427387904, 0), (4607182418800017408, 0)] = true := by
  have hl : l.length = 3 := by rw [← List.length_map (f := zv), h]; rfl
  have hz : ∀ (k : Nat) z, l[k]? = some z → ∀ c, ([(some 4607182418800017408, some 0), (some 4611686018427387904, some 0), (some 4607182418800017408, some 0)] : List CV)[k]? = some c → zv z = c := by
    intro k z hz c hc
    rw [← h, List.getElem?_map, hz] at hc
    exact Option.some.inj hc
  have hd : ∀ k, k < 3 → l[k]? = some (l.getD k (0, 0)) := by
    intro k hk
    rw [List.getD_eq_getElem?_getD, List.getElem?_eq_getElem (by omega)]
    rfl
  unfold equalL
  rw [hl]
  have h0 := hz 0 _ (hd 0 (by omega)) _ rfl
  have h1 := hz 1 _ (hd 1 (by omega)) _ rfl
  have h2 := hz 2 _ (hd 2 (by omega)) _ rfl
  have e : ∀ k, eqZ (l.getD k (0, 0)) = fun y => feq (zv (l.getD k (0, 0))).1 (val y.1) && feq (zv (l.getD k (0, 0))).2 (val y.2) := fun k => rfl
  simp only [List.range, List.range.loop, List.all_cons, List.all_nil, Bool.and_true, e, h0, h1, h2]
  decide +kernel

def lvP : List Z := [(4607182418800017408, 0), (0, 0), (4607182418800017408, 0)]
def lvQ : List Z := [(4607182418800017408, 0), (4607182418800017408, 0)]
def lvE : List Z := [(4607182418800017408, 0), (4611686018427387904, 0), (4607182418800017408, 0)]
theorem lvPw : ∀ z ∈ lvP, IsW z.1 ∧ IsW z.2 := by unfold IsW; decide +kernel
theorem lv_Eq (l : List Z) (v v' : Value) (w : World) (hs : Sl w v (l.map C)) (hs' : Sl w v' (lvE.map C)) (h : l.map zv = [(some 4607182418800017408, some 0), (some 4611686018427387904, some 0), (some 4607182418800017408, some 0)]) : Calls Try.prog 17 #[v, v'] w (RetB w true) := by
  have hl : l.length = 3 := by rw [← List.length_map (f := zv), h]; rfl
  have := EqualNumbers_any l lvE v v' w hs hs' (by omega)
  unfold lvE at this
  rw [lvEq h] at this
  exact this

end Go.Proofs.Ytgcakhmdmajplaa

namespace Go.Proofs.Ytgcakhmdmajplaa
open Go.RowKit

abbrev Z0 : CV := (val 0, val 0)
def horC (vs : List CV) (z : CV) : Nat → CV → CV
  | 0, x => x
  | k + 1, x => horC vs z k (cadd (cmul x z) (vs.getD k Z0))
def hornC (vs : List CV) (z : CV) : CV := if vs.length = 0 then Z0 else horC vs z (vs.length - 1) (vs.getD (vs.length - 1) Z0)
def refC (vs : List CV) : Int := if 256 < vs.length then 3 else if vs.all cfin = true then 0 else 5
def atC (vs : List CV) (z : CV) : Int := if refC vs = 0 then (if cfin z = true then (if cfin (hornC vs z) = true then 0 else 6) else 5) else refC vs
def atV (vs : List CV) (z : CV) : CV := if atC vs z = 0 then hornC vs z else Z0
theorem getD_zv (p : List Z) (k : Nat) : zv (p.getD k (0, 0)) = (p.map zv).getD k Z0 := by
  rw [List.getD_eq_getElem?_getD, List.getD_eq_getElem?_getD, List.getElem?_map]
  cases p[k]? <;> rfl
theorem horN_c (p : List Z) (z : CV) : ∀ (k : Nat) (x : CV), horN p z k x = horC (p.map zv) z k x := by
  intro k
  induction k with
  | zero => intro x; rfl
  | succ k ih => intro x; rw [horN, horC, ih, getD_zv]
theorem horner_c (p : List Z) (z : CV) : horner p z = hornC (p.map zv) z := by
  unfold horner hornC
  rw [List.length_map, horN_c, getD_zv]
theorem refE_c (p : List Z) : refE p = refC (p.map zv) := by
  unfold refE refC
  rw [List.length_map, all_pf]
theorem atE_c (p : List Z) (z : CV) : atE p z = atC (p.map zv) z := by
  unfold atE atC
  rw [refE_c, horner_c]
theorem atG_c (p : List Z) (z : CV) : atG p z = atV (p.map zv) z := by
  unfold atG atV
  rw [atE_c, horner_c]
/-- Does a step come nearer? -/
def nwOk (vs ds : List CV) (z : CV) : Bool := decide (atC vs z = 0) && decide (atC ds z = 0) && !czero (atV ds z) && decide (atC vs (csub z (cdiv (atV vs z) (atV ds z))) = 0) && flt (size1 (atV vs (csub z (cdiv (atV vs z) (atV ds z))))) (size1 (atV vs z))
def nwt (vs ds : List CV) : Nat → CV → Nat → CV × Nat
  | 0, z, n => (z, n)
  | k + 1, z, n => if nwOk vs ds z = true then nwt vs ds k (csub z (cdiv (atV vs z) (atV ds z))) (n + 1) else (z, n)
def newC (vs : List CV) (z : CV) (m : Int) (d : List CV × Int) : CV × Nat := if d.2 = 0 then nwt vs d.1 m.toNat z 0 else (z, 0)
/-- The number, how many steps, the error. -/
def newR (p : List Z) (z : CV) (m : Int) : CV × Nat × Int :=
  if refE p = 0 then (if cfin z = true then (if m < 0 ∨ 4096 < m then (Z0, 0, 2) else ((newC (p.map zv) z m (derR p)).1, (newC (p.map zv) z m (derR p)).2, 0)) else (Z0, 0, 5)) else (Z0, 0, refE p)
def RetNw (w : World) (r : CV × Nat × Int) (E : Ending) (w' : World) : Prop := ∃ x y, E = .returned (.tuple #[.complex .f64 x y, .int .i64 r.2.1, .int .i64 r.2.2]) ∧ Below w.heap.size w w' ∧ cv x y = r.1 ∧ IsW x ∧ IsW y
theorem RetNw.mk {w : World} {r : CV × Nat × Int} {x y n : Nat} {e : Int} {E : Ending} {w' : World} (h : E = .returned (.tuple #[.complex .f64 x y, .int .i64 n, .int .i64 e])) (hb : Below w.heap.size w w') (h1 : IsW x) (h2 : IsW y) (hr : r = (cv x y, n, e)) : RetNw w r E w' := by
  subst hr
  exact ⟨x, y, h, hb, rfl, h1, h2⟩
def NwLoop (W : World) (vs ds : List CV) (m : Nat) (r : CV × Nat) (dv : Value) (dl : List Z) (n z : Value) (w : World) : Prop := ∃ (k s x y : Nat), n = .int .i64 s ∧ s + k = m ∧ z = .complex .f64 x y ∧ IsW x ∧ IsW y ∧ nwt vs ds k (cv x y) s = r ∧ Sl w dv (dl.map C) ∧ Below W.heap.size W w

theorem tol_len (vs : List CV) : (tol vs).1.length ≤ vs.length := by
  unfold tol
  split <;> simp
theorem derR_len (p : List Z) : (derR p).1.length ≤ p.length := by
  unfold derR
  split
  · have := tol_len (derV p)
    have h : (derV p).length = p.length - 1 := by unfold derV; simp
    omega
  · simp
theorem Zero_z (a b : Nat) (z : CV) (h : cv a b = z) (w : World) : Calls Try.prog 103 #[.complex .f64 a b] w (fun e w' => e = .returned (.bool (czero z)) ∧ w = w') := h ▸ Zero_any a b w
theorem Div_z (a b c d : Nat) (p q : CV) (h : cv a b = p) (h' : cv c d = q) (w : World) : Calls Try.prog 94 #[.complex .f64 a b, .complex .f64 c d] w (RetC w (cdiv p q)) := h ▸ h' ▸ Div_any a b c d w
theorem Sub_z (a b c d : Nat) (p q : CV) (h : cv a b = p) (h' : cv c d = q) (w : World) : Calls Try.prog 63 #[.complex .f64 a b, .complex .f64 c d] w (RetC w (csub p q)) := h ▸ h' ▸ Sub_any a b c d w
theorem Size1_z (a b : Nat) (z : CV) (h : cv a b = z) (w : World) : Calls Try.prog 104 #[.complex .f64 a b] w (RetF w (size1 z)) := h ▸ Size1_any a b w
theorem nw_cases (vs ds : List CV) (z : CV) :
    (nwOk vs ds z = false ∧ (atC vs z == 0) = false ∧ (atC vs z = 0) = False) ∨ ((atC vs z = 0) ∧
    ((nwOk vs ds z = false ∧ (atC ds z == 0) = false ∧ (atC ds z = 0) = False) ∨ (atC ds z = 0 ∧
    ((nwOk vs ds z = false ∧ czero (atV ds z) = true) ∨ (czero (atV ds z) = false ∧
    ((nwOk vs ds z = false ∧ (atC vs (csub z (cdiv (atV vs z) (atV ds z))) == 0) = false ∧ (atC vs (csub z (cdiv (atV vs z) (atV ds z))) = 0) = False) ∨ (atC vs (csub z (cdiv (atV vs z) (atV ds z))) = 0 ∧
    ((nwOk vs ds z = false ∧ flt (size1 (atV vs (csub z (cdiv (atV vs z) (atV ds z))))) (size1 (atV vs z)) = false) ∨ (nwOk vs ds z = true ∧ flt (size1 (atV vs (csub z (cdiv (atV vs z) (atV ds z))))) (size1 (atV vs z)) = true))))))))) := by
  unfold nwOk
  generalize csub z (cdiv (atV vs z) (atV ds z)) = y
  generalize flt (size1 (atV vs y)) (size1 (atV vs z)) = b5
  generalize czero (atV ds z) = b3
  generalize atC vs z = e1
  generalize atC ds z = e2
  generalize atC vs y = e3
  by_cases h1 : e1 = 0
  · by_cases h2 : e2 = 0
    · by_cases h3 : e3 = 0
      · cases b3 <;> cases b5 <;> simp [h1, h2, h3]
      · cases b3 <;> simp [h1, h2, h3]
    · simp [h1, h2]
  · simp [h1]

end Go.Proofs.Ytgcakhmdmajplaa

namespace Go.Proofs.Ytgcakhmdmajplaa
open Go.RowKit

/-- An element by kind, name and value. -/
def elO (k : Nat) (n : ByteArray) (v : Nat) : El := ⟨k, n, ⟨#[]⟩, ⟨#[]⟩, ⟨#[]⟩, ⟨#[]⟩, v, 0⟩
/-- A block that holds an element. -/
def ElB (w : World) (b : Nat) (e : El) : Prop := w.heap[b]? = some (.cells (elC e).toArray 54 (0, 0))
theorem ElB.cell {w : World} {b : Nat} {e : El} (h : ElB w b e) {j : Nat} {x : Value} (hx : (elC e)[j]? = some x) : w.cell? ⟨b, j, none⟩ = some x := by
  unfold ElB at h
  simp only [World.cell?, h]
  simpa using hx
theorem results_el {fn : Func} {p : Tmp} (h : fn.results = #[.cell p 54]) (tmps : Array Value) (w : World) (b : Nat) (e : El) (hp : tmps.getD p undef = .pointer (some ⟨b, 0, none⟩)) (hf : ElB w b e) :
    (results fn tmps).run Try.prog w = .ok (elV e) w := by
  have h0 := hf.cell (j := 0) rfl
  have h1 := hf.cell (j := 1) rfl
  have h2 := hf.cell (j := 2) rfl
  have h3 := hf.cell (j := 3) rfl
  have h4 := hf.cell (j := 4) rfl
  have h5 := hf.cell (j := 5) rfl
  have h6 := hf.cell (j := 6) rfl
  have h7 := hf.cell (j := 7) rfl
  simp only [Array.getD_eq_getD_getElem?] at hp ⊢
  simp [results, h, hp, go_sem, h0, h1, h2, h3, h4, h5, h6, h7, Sem.run_bind, Result.andThen, elV, elC]

theorem step_make_full {P : Program} (w : World) {ops : Array Oper} {o : Oper} {a : Act} {K : Act → World → Prop} {Q : Exit → Act → World → Prop} {E : Prop}
    (hg : o.guard = none) (l c : Operand) (t : TypeId) (hop : o.op = Op.makeSlice t l c)
    (base : Nat) (e : TypeId) (i : TypeInfo) (z : Value) (size : Nat) (h1 : P.underlying t = some (.slice e)) (h2 : P.info? e = some i) (h3 : i.zero = some z) (h4 : i.size = size)
    (kl kc : IntKind) (L C : Int) (n : Nat) (hl : a.eval l = .int kl L) (hc : a.eval c = .int kc C) (hL : L = (n : Int)) (hC : C = (n : Int)) (b2 : i.bytes * n ≤ 281474976710656) (b3 : n ≤ maxLen) (b4 : base ≤ w.heap.size) (H : Nat) (hH : w.heap.size = H)
    (hK : ∀ w', w'.ownsRow base e size (.slice (some ⟨H, 0, none⟩) n n) n (madeCells z.cells (n * size)).toList → w.grownBy w' none → K (a.put o.dst (.slice (some ⟨H, 0, none⟩) n n)) w') :
    if Region.wanted o (yielded ops a.tmps) = true then Oper.wp P o a w K Q else E := by
  have hw : Region.wanted o (yielded ops a.tmps) = true := by simp [Region.wanted, hg]
  rw [if_pos hw]
  subst hH
  obtain ⟨w', hrun, r1, r2⟩ := run_make_full (P := P) w base t e i z size h1 h2 h3 h4 kl kc n b2 b3 b4
  subst hL
  subst hC
  unfold Oper.wp
  simp [execOp, hop, hl, hc, hrun, Result.andThen]
  exact hK w' r1 r2

/-! ### What the examples come to -/
def nmR : List El := [elO 1 ⟨#[82, 49]⟩ 4607182418800017408, elO 1 ⟨#[82, 51]⟩ 4607182418800017408]
def nmT : List El := [elO 1 ⟨#[82, 50]⟩ 4611686018427387904, elO 1 ⟨#[82, 52]⟩ 4611686018427387904]
def nmT1 : List El := [elO 1 ⟨#[82, 50]⟩ 4611686018427387904]
def nmT2 : List El := [elO 1 ⟨#[82, 50]⟩ 4611686018427387904, elO 4 ⟨#[73, 49]⟩ 4607182418800017408]
def nmE : List El := [⟨1, ⟨#[82, 49]⟩, ⟨#[97, 48]⟩, ⟨#[97, 49]⟩, ⟨#[]⟩, ⟨#[]⟩, 4607182418800017408, 0⟩, ⟨1, ⟨#[82, 50]⟩, ⟨#[97, 49]⟩, ⟨#[48]⟩, ⟨#[]⟩, ⟨#[]⟩, 4611686018427387904, 0⟩, ⟨1, ⟨#[82, 51]⟩, ⟨#[97, 49]⟩, ⟨#[97, 50]⟩, ⟨#[]⟩, ⟨#[]⟩, 4607182418800017408, 0⟩, ⟨1, ⟨#[82, 52]⟩, ⟨#[97, 50]⟩, ⟨#[48]⟩, ⟨#[]⟩, ⟨#[]⟩, 4611686018427387904, 0⟩]
def nmE2 : List El := [⟨1, ⟨#[82, 49]⟩, ⟨#[97, 48]⟩, ⟨#[97, 49]⟩, ⟨#[]⟩, ⟨#[]⟩, 4607182418800017408, 0⟩, ⟨1, ⟨#[82, 50]⟩, ⟨#[97, 49]⟩, ⟨#[48]⟩, ⟨#[]⟩, ⟨#[]⟩, 4611686018427387904, 0⟩, ⟨1, ⟨#[82, 51]⟩, ⟨#[97, 49]⟩, ⟨#[97, 50]⟩, ⟨#[]⟩, ⟨#[]⟩, 4607182418800017408, 0⟩, ⟨4, ⟨#[73, 49]⟩, ⟨#[97, 50]⟩, ⟨#[48]⟩, ⟨#[]⟩, ⟨#[]⟩, 4607182418800017408, 0⟩]
theorem nmB : (netF nmE).1 = (0, 0) := by decide +kernel
theorem nmB2 : (netF nmE2).1 = (0, 0) := by decide +kernel
theorem nmC : inN nmE 2 (val 4607182418800017408) 2 (val 0, val 0) = ((some 4612136378390124954, some 0), (0, 0)) := by decide +kernel
theorem nmC2 : inN nmE2 2 (val 4607182418800017408) 2 (val 0, val 0) = ((some 0, some 0), (2, 1)) := by decide +kernel
theorem nmOm : aboveE (val 4607182418800017408) = 0 := by decide +kernel
theorem nmW : (∀ e ∈ nmR, e.kind < 256 ∧ IsW e.v) ∧ (∀ e ∈ nmT, e.kind < 256 ∧ IsW e.v) ∧ (∀ e ∈ nmT2, e.kind < 256 ∧ IsW e.v) ∧ (∀ e ∈ nmT1, e.kind < 256) := by unfold IsW; decide +kernel
def RetNo (w : World) (e : Int) (E : Ending) (w' : World) : Prop := E = .returned (.tuple #[.pointer none, .agg #[.int .i64 e, .int .i64 (-1)]]) ∧ Below w.heap.size w w'
theorem ElsAt.none (w : World) : ElsAt w (.slice none 0 0) [] := ⟨_, _, rfl, fun k e h => by simp at h⟩
def nmD : List Z := [(4619567317775286272, 0), (4607182418800017408, 0), (4613937818241073152, 0)]
def nmN : List Z := [(13835058055282163712, 0), (0, 0), (4607182418800017408, 0)]
/-- Two numbers told, held against two. -/
theorem nm_Eq {a b : Z} {ca cb : CV} (l : List Z) (v v' : Value) (w : World) (hs : Sl w v (l.map C)) (hs' : Sl w v' ([a, b].map C)) (h : l.map zv = [ca, cb]) (h1 : (feq ca.1 (val a.1) && feq ca.2 (val a.2)) = true) (h2 : (feq cb.1 (val b.1) && feq cb.2 (val b.2)) = true) : Calls Try.prog 17 #[v, v'] w (RetB w true) := by
  match l, h with
  | [x, y], h =>
    simp at h
    obtain ⟨rfl, rfl⟩ := h
    have := EqualNumbers_any [x, y] [a, b] v v' w hs hs' (by simp)
    have e : equalL [x, y] [a, b] = true := by
      unfold equalL
      simp only [List.length_cons, List.length_nil, List.range, List.range.loop, List.all_cons, List.all_nil, Bool.and_true]
      have e1 : eqZ x a = true := h1
      have e2 : eqZ y b = true := h2
      simp [e1, e2]
    rw [e] at this
    exact this
def z0L (n : Nat) : List Z := List.replicate n (0, 0)
theorem pz_z0 (n i : Nat) : pz (z0L n) i = Z0 := by
  unfold pz z0L
  rw [List.getD_eq_getElem?_getD]
  by_cases h : i < n
  · rw [List.getElem?_replicate, if_pos h]; rfl
  · rw [List.getElem?_eq_none (by rw [List.length_replicate]; omega)]; rfl
theorem z0_mul : cadd Z0 (cmul Z0 Z0) = Z0 := by decide +kernel
theorem timA_z0 (n m k : Nat) : ∀ i, timA (z0L n) (z0L m) k i = Z0 := by
  intro i
  induction i with
  | zero => rfl
  | succ i ih =>
    rw [timA]
    split
    · rw [ih, pz_z0, pz_z0, z0_mul]
    · exact ih
theorem pf_z0 (n : Nat) : pf (z0L n) = true := by
  unfold pf z0L
  rw [List.all_eq_true]
  intro z hz
  rw [List.eq_of_mem_replicate hz]
  decide +kernel
theorem z0_len (n : Nat) : (z0L n).length = n := List.length_replicate
theorem nm_tim1 : timR (z0L 129) (z0L 129) = ([], 3) := by
  unfold timR bothE
  rw [z0_len, pf_z0]
  simp
theorem nm_tim2 : (timR (z0L 128) (z0L 129)).2 = 0 := by
  unfold timR bothE
  rw [z0_len, z0_len, pf_z0, pf_z0]
  rw [if_pos (by decide), if_neg (by omega), if_neg (by omega)]
  unfold tol
  rw [if_pos]
  · unfold timV
    rw [List.all_eq_true]
    intro c hc
    obtain ⟨k, _, rfl⟩ := List.mem_map.1 hc
    rw [timA_z0]
    decide +kernel
theorem pair_z {A : Type} {p : A × Int} (h : p.2 = 0) : p = (p.1, 0) := by
  obtain ⟨a, b⟩ := p
  subst h
  rfl
/-- Rows of noughts that are made. -/
theorem Sl_made {w w' : World} {n : Nat} (h : w'.ownsRow w.heap.size 44 1 (.slice (some ⟨w.heap.size, 0, none⟩) n n) n (madeCells (Value.complex .f64 0 0).cells (n * 1)).toList) : Sl w' (.slice (some ⟨w.heap.size, 0, none⟩) n n) ((z0L n).map C) := by
  have := Sl.of_owns h
  rw [Nat.mul_one, show (Value.complex FloatKind.f64 0 0).cells = #[.complex .f64 0 0] from rfl, toList_madeCells_one] at this
  unfold z0L
  rw [List.map_replicate]
  exact this
end Go.Proofs.Ytgcakhmdmajplaa

namespace Go.Proofs.Ytgcakhmdmajplaa
open Go.RowKit

theorem make_z (n : Nat) (q : Int) (hq : q = (n : Int)) (hn : n ≤ 1000) : ∃ o : Obj, (∀ w : World, (Instr.makeSlice 33 (.int .i64 q) (.int .i64 q)).run Try.prog w = .ok (.slice (some ⟨w.heap.size, 0, none⟩) n n) (w.alloc o)) ∧ ∀ w : World, Sl (w.alloc o) (.slice (some ⟨w.heap.size, 0, none⟩) n n) ((z0L n).map C) := by
  subst hq
  have hi : (Try.prog.info? 44).map (fun i => (i.zero, i.size, i.bytes)) = some (some (.complex .f64 0 0), 1, 16) := by kernel_rfl
  refine ⟨.cells (madeCells #[.complex .f64 0 0] n) 44, fun w => run_make_row' (P := Try.prog) 33 44 (.complex .f64 0 0) 16 Try.underlying33 hi rfl .i64 .i64 n (by omega) (by omega) w, fun w => ?_⟩
  have h := Sl_lit w 44 ((z0L n).map C)
  have e : ((z0L n).map C).toArray = madeCells #[.complex .f64 0 0] n := by
    apply Array.ext'
    rw [toList_madeCells_one]
    unfold z0L
    rw [List.map_replicate]
    rfl
  rw [e, List.length_map, z0_len] at h
  exact h
theorem madeCells_get {z : Array Value} {n i : Nat} (h : i < n) : (madeCells z n)[i]? = some (z[i % z.size]!) := by
  unfold madeCells
  rw [Array.getElem?_map, Array.getElem?_range, if_pos h]
  rfl
theorem make_e : ∃ o : Obj, (∀ w : World, (Instr.makeSlice 24 (.int .i64 17) (.int .i64 17)).run Try.prog w = .ok (.slice (some ⟨w.heap.size, 0, none⟩) 17 17) (w.alloc o)) ∧ ∀ w : World, ElsAt (w.alloc o) (.slice (some ⟨w.heap.size, 0, none⟩) 17 17) (List.replicate 17 el0) := by
  obtain ⟨i, hi, h0, h1, h2⟩ := info_parts info_el
  refine ⟨.cells (madeCells (elC el0).toArray 136) 54, fun w => ?_, fun w => ?_⟩
  · have := run_make (P := Try.prog) (w := w) 24 54 i _ Try.underlying24 hi h0 .i64 .i64 17 17 (by omega) (by omega) (by rw [h2]; omega) (by omega)
    rw [h1] at this
    exact this
  · refine ⟨some ⟨w.heap.size, 0, none⟩, 17, by rw [List.length_replicate], fun k e he => ⟨w.heap.size, 0, rfl, fun j x hx => ?_⟩⟩
    have hk : k < 17 := by have := (List.getElem?_eq_some_iff.1 he).1; rw [List.length_replicate] at this; exact this
    have hj : j < 8 := (List.getElem?_eq_some_iff.1 hx).1
    rw [List.getElem?_replicate, if_pos hk] at he
    cases he
    rw [World.cell?_alloc_new, madeCells_get (by omega), show (elC el0).toArray.size = 8 from rfl, show (0 + k * 8 + j) % 8 = j by omega]
    rw [getElem!_pos (elC el0).toArray j (by exact hj)]
    obtain ⟨_, hx2⟩ := List.getElem?_eq_some_iff.1 hx
    rw [← hx2]
    rfl
theorem bl2 {a b c : World} (h : Below a.heap.size a b) (h2 : Below b.heap.size b c) : Below a.heap.size a c := h.trans (h2.mono h.size)
theorem bla {a b : World} (o : Obj) (h : Below a.heap.size a b) : Below a.heap.size a (b.alloc o) := h.alloc h.size o
theorem bld {a b : World} (h : Below a.heap.size a b) : Below a.heap.size a b.drew := h.drew
theorem bls {a b : World} {p : Addr} {v : Value} (h : Below a.heap.size a b) (hp : a.heap.size ≤ p.block) : Below a.heap.size a (b.setCell p v) := h.setCell hp v
theorem flt_b {a c : World} {b : Nat} {x y : Int} (h : FltAt a b x y) (hb : Below a.heap.size a c) : FltAt c b x y := h.below hb h.lt
theorem flt_a {a : World} {b : Nat} {x y : Int} (o : Obj) (h : FltAt a b x y) : FltAt (a.alloc o) b x y := flt_b h (bla o (Below.refl _ _))
theorem flt_d {a : World} {b : Nat} {x y : Int} (h : FltAt a b x y) : FltAt a.drew b x y := h
theorem flt_n (a : World) {s : Nat} (x y : Int) (h : s = a.heap.size) : FltAt (a.alloc (.cells #[.int .i64 x, .int .i64 y] 29)) s x y := by
  subst h
  exact FltAt.new a x y
theorem els_a {a : World} {v : Value} {L : List El} (o : Obj) (h : ElsAt a v L) : ElsAt (a.alloc o) v L := h.below (bla o (Below.refl _ _))
theorem sl_a {a : World} {v : Value} {L : List Value} (o : Obj) (h : Sl a v L) : Sl (a.alloc o) v L := h.below (bla o (Below.refl _ _))
theorem els_d {a : World} {v : Value} {L : List El} (h : ElsAt a v L) : ElsAt a.drew v L := h.below (bld (Below.refl _ _))
theorem sl_d {a : World} {v : Value} {L : List Value} (h : Sl a v L) : Sl a.drew v L := h.below (bld (Below.refl _ _))
def TCells (w : World) (b : Nat) (e : El) : Prop := b < w.heap.size ∧ w.cell? ⟨b, 0, none⟩ = some (.int .u8 e.kind) ∧ w.cell? ⟨b, 1, none⟩ = some (.string e.name) ∧ w.cell? ⟨b, 2, none⟩ = some (.string e.a) ∧ w.cell? ⟨b, 3, none⟩ = some (.string e.b) ∧ w.cell? ⟨b, 4, none⟩ = some (.string e.c) ∧ w.cell? ⟨b, 5, none⟩ = some (.string e.d) ∧ w.cell? ⟨b, 6, none⟩ = some (.float .f64 e.v) ∧ w.cell? ⟨b, 7, none⟩ = some (.int .i64 e.ph)
theorem tcells {w : World} {b n cap : Nat} {e : El} {l : List El} (h : ElsAt w (.slice (some ⟨b, 0, none⟩) n cap) (e :: l)) : TCells w b e := by
  obtain ⟨a, cap, he, hr⟩ := h
  obtain ⟨b', off, hb, hc⟩ := hr 0 e rfl
  simp only [Value.slice.injEq] at he
  obtain ⟨he, -, -⟩ := he
  rw [← he] at hb
  simp only [Option.some.injEq, Addr.mk.injEq, and_true] at hb
  obtain ⟨rfl, rfl⟩ := hb
  exact ⟨World.block_lt_of_cell? _ _ (hc 0 _ rfl), hc 0 _ rfl, hc 1 _ rfl, hc 2 _ rfl, hc 3 _ rfl, hc 4 _ rfl, hc 5 _ rfl, hc 6 _ rfl, hc 7 _ rfl⟩
end Go.Proofs.Ytgcakhmdmajplaa

namespace Go.Proofs.Ytgcakhmdmajplaa
open Go.RowKit

/-- An element out of bits: its cells. -/
def kC (e : El) : List Value := [.int .u8 e.kind, .string e.name, .string e.a, .string e.b, .string e.c, .string e.d, .int .u64 e.v, .int .i64 e.ph]
def kV (e : El) : Value := .agg (kC e).toArray
theorem size_new (w : World) (o : Obj) : (w.alloc o).heap.size = w.heap.size + 1 := by simp
theorem blk_new2 (w : World) (cs : Array Value) (t : Nat) (o : Obj) : (World.drew ((w.alloc (.cells cs t)).alloc o)).heap[w.heap.size]? = some (.cells cs t (0, 0)) := by
  have h1 : (w.alloc (.cells cs t)).heap[w.heap.size]? = some (.cells cs t (0, 0)) := blk_new w (.cells cs t)
  have h3 := Below.heap_alloc (w.alloc (.cells cs t)) o w.heap.size (by rw [size_new]; omega)
  exact h3.trans h1
set_option maxRecDepth 100000 in
set_option maxHeartbeats 1000000 in
theorem Element_any (e : El) (w : World) : Calls Try.prog 33 #[kV e] w fun E w' => E = .returned (elV e) ∧ Below w.heap.size w w' := by
  show Calls _ _ #[.agg #[.int .u8 e.kind, .string e.name, .string e.a, .string e.b, .string e.c, .string e.d, .int .u64 e.v, .int .i64 e.ph]] _ _
  go_enter Try.func33, Try.ntmps33
  go_wp2
  obtain ⟨wb, hwb⟩ : ∃ wb, wb = World.drew ((w.alloc (.cells #[.int .u8 e.kind, .string e.name, .string e.a, .string e.b, .string e.c, .string e.d, .int .u64 e.v, .int .i64 e.ph] 81)).alloc (.cells #[.int .u8 0, .string ⟨#[]⟩, .string ⟨#[]⟩, .string ⟨#[]⟩, .string ⟨#[]⟩, .string ⟨#[]⟩, .float .f64 0, .int .i64 0] 54)) := ⟨_, rfl⟩
  have hh : wb.heap[w.heap.size]? = some (.cells (kC e).toArray 81 (0, 0)) := by
    rw [hwb]
    exact blk_new2 w _ _ _
  have c0 : wb.cell? ⟨w.heap.size, 0, none⟩ = some (.int .u8 e.kind) := by simp only [World.cell?, hh]; rfl
  have c1 : wb.cell? ⟨w.heap.size, 1, none⟩ = some (.string e.name) := by simp only [World.cell?, hh]; rfl
  have c2 : wb.cell? ⟨w.heap.size, 2, none⟩ = some (.string e.a) := by simp only [World.cell?, hh]; rfl
  have c3 : wb.cell? ⟨w.heap.size, 3, none⟩ = some (.string e.b) := by simp only [World.cell?, hh]; rfl
  have c4 : wb.cell? ⟨w.heap.size, 4, none⟩ = some (.string e.c) := by simp only [World.cell?, hh]; rfl
  have c5 : wb.cell? ⟨w.heap.size, 5, none⟩ = some (.string e.d) := by simp only [World.cell?, hh]; rfl
  have c6 : wb.cell? ⟨w.heap.size, 6, none⟩ = some (.int .u64 e.v) := by simp only [World.cell?, hh]; rfl
  have c7 : wb.cell? ⟨w.heap.size, 7, none⟩ = some (.int .i64 e.ph) := by simp only [World.cell?, hh]; rfl
  have HWB := hid hwb
  (refine wp_region_still_tail 18 (by kernel_rfl) (by kernel_rfl) ?_; simp only [List.take_succ_cons, List.take_zero, List.drop_succ_cons, List.drop_zero]; change wpStill _ _ (World.drew ((w.alloc (.cells #[.int .u8 e.kind, .string e.name, .string e.a, .string e.b, .string e.c, .string e.d, .int .u64 e.v, .int .i64 e.ph] 81)).alloc (.cells #[.int .u8 0, .string ⟨#[]⟩, .string ⟨#[]⟩, .string ⟨#[]⟩, .string ⟨#[]⟩, .string ⟨#[]⟩, .float .f64 0, .int .i64 0] 54))) (fun a' => wpList _ _ _ _ a' (World.drew ((w.alloc (.cells #[.int .u8 e.kind, .string e.name, .string e.a, .string e.b, .string e.c, .string e.d, .int .u64 e.v, .int .i64 e.ph] 81)).alloc (.cells #[.int .u8 0, .string ⟨#[]⟩, .string ⟨#[]⟩, .string ⟨#[]⟩, .string ⟨#[]⟩, .string ⟨#[]⟩, .float .f64 0, .int .i64 0] 54)))) _ _; rw [← hwb]; clear hwb; (repeat still_step); (try refine wpStill_nil ?_))
  rw [HWB.out]
  clear HWB c0 c1 c2 c3 c4 c5 c6 c7 hh
  go_wp2
  refine bodyPost_ret (results_el rfl _ _ (w.heap.size + 1) e rfl ?_) rfl ?_
  · have h3 := blk_new (w.alloc (.cells #[.int .u8 e.kind, .string e.name, .string e.a, .string e.b, .string e.c, .string e.d, .int .u64 e.v, .int .i64 e.ph] 81)) (.cells (elC e).toArray 54)
    rw [size_new] at h3
    exact h3
  · exact ⟨rfl, (((Below.refl _ w).alloc (Nat.le_refl _) _).alloc (by rw [size_new]; omega) _).drew⟩
end Go.Proofs.Ytgcakhmdmajplaa
