/- The examples of the chapter on ladders that each statement asks first: they hold. No condition. -/
import Derived.Test.YtjpimgdmlieinaaDoorNLIn
import Derived.Test.YtjpimgdmlieinaaDoorPol4
import Derived.Deep.QuietTactic
import Derived.BigQuiet
namespace Go.Proofs.YtjpimgdmlieinaaDoor
open Go.RowKit

def lvS : List El := [⟨1, ⟨#[82, 49]⟩, ⟨#[]⟩, ⟨#[]⟩, ⟨#[]⟩, ⟨#[]⟩, 4607182418800017408, 0⟩]
def lvT : List El := [⟨1, ⟨#[82, 50]⟩, ⟨#[]⟩, ⟨#[]⟩, ⟨#[]⟩, ⟨#[]⟩, 4611686018427387904, 0⟩]
theorem lvA : ladN lvS lvT 1 = [⟨1, ⟨#[82, 49]⟩, ⟨#[97, 48]⟩, ⟨#[97, 49]⟩, ⟨#[]⟩, ⟨#[]⟩, 4607182418800017408, 0⟩, ⟨1, ⟨#[82, 50]⟩, ⟨#[97, 49]⟩, ⟨#[48]⟩, ⟨#[]⟩, ⟨#[]⟩, 4611686018427387904, 0⟩] := by
  have h0 : aN 0 = ⟨#[97, 48]⟩ := by unfold aN; rw [Lib.decDigits_one (by omega)]; rfl
  have h1 : aN 1 = ⟨#[97, 49]⟩ := by unfold aN; rw [Lib.decDigits_one (by omega)]; rfl
  simp [ladN, ladE, ladS, lvS, lvT, h0, h1]
theorem lvB : (netF [⟨1, ⟨#[82, 49]⟩, ⟨#[97, 48]⟩, ⟨#[97, 49]⟩, ⟨#[]⟩, ⟨#[]⟩, 4607182418800017408, 0⟩, ⟨1, ⟨#[82, 50]⟩, ⟨#[97, 49]⟩, ⟨#[48]⟩, ⟨#[]⟩, ⟨#[]⟩, 4611686018427387904, 0⟩]).1 = (0, 0) := by decide +kernel
theorem lvC : inN [⟨1, ⟨#[82, 49]⟩, ⟨#[97, 48]⟩, ⟨#[97, 49]⟩, ⟨#[]⟩, ⟨#[]⟩, 4607182418800017408, 0⟩, ⟨1, ⟨#[82, 50]⟩, ⟨#[97, 49]⟩, ⟨#[48]⟩, ⟨#[]⟩, ⟨#[]⟩, 4611686018427387904, 0⟩] 1 (val 4607182418800017408) 1 (val 0, val 0) = ((some 4613937818241073152, some 0), (0, 0)) := by decide +kernel
theorem lvIn : inF lvS lvT (val 4607182418800017408) = ((some 4613937818241073152, some 0), (0, 0)) := by
  have ha : aboveE (val 4607182418800017408) = 0 := by decide +kernel
  have hn : (ladNetF lvS lvT).1 = (0, 0) := by
    show (netF (ladN lvS lvT 1)).1 = _
    rw [lvA]
    exact lvB
  unfold inF
  rw [if_pos ha, if_pos hn]
  show inN (ladN lvS lvT 1) 1 _ 1 _ = _
  rw [lvA]
  exact lvC
theorem lvW : (∀ e ∈ lvS, e.kind < 256 ∧ IsW e.v) ∧ (∀ e ∈ lvT, e.kind < 256 ∧ IsW e.v) := by unfold IsW; decide +kernel
theorem lvAt : atE [(4607182418800017408, 0), (0, 0), (4607182418800017408, 0)] (cv 0 4607182418800017408) = 0 ∧ atG [(4607182418800017408, 0), (0, 0), (4607182418800017408, 0)] (cv 0 4607182418800017408) = (some 0, some 0) := by decide +kernel
theorem lvTm : timR [(4607182418800017408, 0), (4607182418800017408, 0)] [(4607182418800017408, 0), (4607182418800017408, 0)] = ([(some 4607182418800017408, some 0), (some 4611686018427387904, some 0), (some 4607182418800017408, some 0)], 0) := by decide +kernel

theorem Sl_lit (w : World) (e : Nat) (cs : List Value) : Sl (w.alloc (.cells cs.toArray e)) (.slice (some ⟨w.heap.size, 0, none⟩) cs.length cs.length) cs := by
  refine ⟨some ⟨w.heap.size, 0, none⟩, cs.length, rfl, fun _ => ⟨w.heap.size, 0, rfl, fun i x hx => ?_⟩, (fun h => by cases h), Nat.le_refl _⟩
  rw [Nat.zero_add, World.cell?_alloc_new]
  simpa using hx
theorem Els_lit (w : World) (e : El) : ElsAt (w.alloc (.cells (elC e).toArray 30)) (.slice (some ⟨w.heap.size, 0, none⟩) 1 1) [e] := by
  refine ⟨some ⟨w.heap.size, 0, none⟩, 1, rfl, fun k e' he => ?_⟩
  have hk : k = 0 := by have := (List.getElem?_eq_some_iff.1 he).1; simpa using this
  subst hk
  simp at he
  subst he
  refine ⟨w.heap.size, 0, rfl, fun j x hx => ?_⟩
  rw [Nat.zero_mul, Nat.zero_add, World.cell?_alloc_new]
  simpa using hx

/-- Are two rows of numbers equal? -/
def eqZ (x y : Z) : Bool := feq (val x.1) (val y.1) && feq (val x.2) (val y.2)
def equalL (xs ys : List Z) : Bool := decide (xs.length = ys.length) && (List.range xs.length).all fun i => eqZ (xs.getD i (0, 0)) (ys.getD i (0, 0))
theorem equalL_false {xs ys : List Z} {k : Nat} (hk : k < xs.length) (h : eqZ (xs.getD k (0, 0)) (ys.getD k (0, 0)) = false) : equalL xs ys = false := by
  unfold equalL
  rw [← Bool.not_eq_true]
  intro h2
  rw [Bool.and_eq_true, List.all_eq_true] at h2
  have := h2.2 k (List.mem_range.2 hk)
  rw [h] at this
  cases this
def EqLoop (w : World) (xs ys : List Z) (i : Value) (wr : World) : Prop := ∃ k : Nat, k ≤ xs.length ∧ i = .int .i64 k ∧ (∀ j, j < k → eqZ (xs.getD j (0, 0)) (ys.getD j (0, 0)) = true) ∧ Dr w wr
set_option maxRecDepth 100000 in
set_option maxHeartbeats 1000000 in
theorem EqualNumbers_any (xs ys : List Z) (va vb : Value) (w : World) (hx : Sl w va (xs.map C)) (hy : Sl w vb (ys.map C)) (hn : xs.length ≤ 140737488355328) : Calls Tryd.prog 46 #[va, vb] w (RetB w (equalL xs ys)) := by
  obtain ⟨a, cap, rfl, hcx⟩ := hx.cz
  obtain ⟨b, cap2, rfl, hcy⟩ := hy.cz
  by_cases hl : xs.length = ys.length
  · have g1 : ((xs.length : Int) != (ys.length : Int)) = false := by simp; omega
    have HL := hid hl
    go_enter Tryd.func46, Tryd.ntmps46
    clear hl
    go_wp2
    go_loopw [5] (fun i w' => EqLoop w xs ys i w') (fun i _ => xs.length + 1 - (intOf i).toNat)
    case atStart => exact ⟨0, by omega, rfl, fun j h => by omega, Dr.refl w⟩
    case round =>
      obtain ⟨k, hk, rfl, hj, nd, rfl⟩ := hrel
      by_cases hkl : k < xs.length
      · obtain ⟨⟨x1, x2⟩, hx1⟩ : ∃ z, xs[k]? = some z := ⟨xs[k]'hkl, List.getElem?_eq_getElem hkl⟩
        obtain ⟨⟨y1, y2⟩, hy1⟩ : ∃ z, ys[k]? = some z := ⟨ys[k]'(by rw [← HL.out]; exact hkl), List.getElem?_eq_getElem (by rw [← HL.out]; exact hkl)⟩
        obtain ⟨b1, off1, rfl, cx⟩ := hcx k _ hx1
        obtain ⟨b2, off2, rfl, cy⟩ := hcy k _ hy1
        have g2 : (k : Int) < (ys.length : Int) := by have := HL.out; omega
        have g3 : (k : Int) < (xs.length : Int) := by omega
        have hgx : xs.getD k (0, 0) = (x1, x2) := by rw [List.getD_eq_getElem?_getD, hx1]; rfl
        have hgy : ys.getD k (0, 0) = (y1, y2) := by rw [List.getD_eq_getElem?_getD, hy1]; rfl
        have HE := hid (show eqZ (xs.getD k (0, 0)) (ys.getD k (0, 0)) = (feq (val x1) (val y1) && feq (val x2) (val y2)) by rw [hgx, hgy]; rfl)
        have HJ := hid hj
        clear hcx hcy hx1 hy1 hgx hgy hj
        cases h1 : feq (val x1) (val y1)
        · have HX : eqZ (xs.getD k (0, 0)) (ys.getD k (0, 0)) = false := by rw [HE.out, h1]; rfl
          have HF := hid (equalL_false hkl HX)
          clear HX
          go_wp2
          go_quiet (fail)
          go_wp2
          go_ret
          exact ⟨by rw [HF.out]; rfl, (by first | with_reducible exact Dr.refl _ | with_reducible exact Dr.mk _ _ | with_reducible exact Dr.trans (Dr.mk _ _) (Dr.mk _ _))⟩
        · cases h2 : feq (val x2) (val y2)
          · have HX : eqZ (xs.getD k (0, 0)) (ys.getD k (0, 0)) = false := by rw [HE.out, h1, h2]; rfl
            have HF := hid (equalL_false hkl HX)
            clear HX
            go_wp2
            go_quiet (fail)
            go_wp2
            go_ret
            exact ⟨by rw [HF.out]; rfl, (by first | with_reducible exact Dr.refl _ | with_reducible exact Dr.mk _ _ | with_reducible exact Dr.trans (Dr.mk _ _) (Dr.mk _ _))⟩
          · have HX : eqZ (xs.getD k (0, 0)) (ys.getD k (0, 0)) = true := by rw [HE.out, h1, h2]; rfl
            have HF := hid HX
            clear HX
            go_wp2
            go_quiet (fail)
            go_wp2
            go_roundw
            case rel =>
              refine ⟨k + 1, by omega, by go_num, fun j hj => ?_, (by first | with_reducible exact Dr.refl _ | with_reducible exact Dr.mk _ _ | with_reducible exact Dr.trans (Dr.mk _ _) (Dr.mk _ _))⟩
              by_cases h : j < k
              · exact HJ.out j h
              · obtain rfl : j = k := by omega
                exact HF.out
            case measure => simp [intOf] <;> omega
      · obtain rfl : k = xs.length := by omega
        have HF := hid (show equalL xs ys = true by
          unfold equalL
          rw [HL.out, decide_eq_true rfl, Bool.true_and, List.all_eq_true]
          intro j hm
          rw [← HL.out] at hm
          exact hj j (List.mem_range.1 hm))
        clear hj hcx hcy
        go_wp2
        go_ret
        exact ⟨by rw [HF.out]; rfl, (by first | with_reducible exact Dr.refl _ | with_reducible exact Dr.mk _ _ | with_reducible exact Dr.trans (Dr.mk _ _) (Dr.mk _ _))⟩
  · have g1 : ((xs.length : Int) != (ys.length : Int)) = true := by simp; omega
    have HF := hid (show equalL xs ys = false by unfold equalL; rw [decide_eq_false hl, Bool.false_and])
    clear hcx hcy hl
    go_enter Tryd.func46, Tryd.ntmps46
    go_wp2
    go_ret
    exact ⟨by rw [HF.out]; rfl, Dr.refl _⟩

theorem lvEq {l : List Z} (h : l.map zv = [(some 4607182418800017408, some 0), (some 4611686018427387904, some 0), (some 4607182418800017408, some 0)]) : equalL l [(4607182418800017408, 0), (4611686018427387904, 0), (4607182418800017408, 0)] = true := by
  have hl : l.length = 3 := by rw [← List.length_map (f := zv), h]; rfl
  have hz : ∀ (k : Nat) z, l[k]? = some z → ∀ c, ([(some 4607182418800017408, some 0), (some 4611686018427387904, some 0), (some 4607182418800017408, some 0)] : List CV)[k]? = some c → zv z = c := by
    intro k z hz c hc
    rw [← h, List.getElem?_map, hz] at hc
    exact Option.some.inj hc
  have hd : ∀ k, k < 3 → l[k]? = some (l.getD k (0, 0)) := by
    intro k hk
    rw [List.getD_eq_getElem?_getD, List.getElem?_eq_getElem (by omega)]
    rfl
  unfold equalL
  rw [hl]
  have h0 := hz 0 _ (hd 0 (by omega)) _ rfl
  have h1 := hz 1 _ (hd 1 (by omega)) _ rfl
  have h2 := hz 2 _ (hd 2 (by omega)) _ rfl
  have e : ∀ k, eqZ (l.getD k (0, 0)) = fun y => feq (zv (l.getD k (0, 0))).1 (val y.1) && feq (zv (l.getD k (0, 0))).2 (val y.2) := fun k => rfl
  simp only [List.range, List.range.loop, List.all_cons, List.all_nil, Bool.and_true, e, h0, h1, h2]
  decide +kernel

def lvP : List Z := [(4607182418800017408, 0), (0, 0), (4607182418800017408, 0)]
def lvQ : List Z := [(4607182418800017408, 0), (4607182418800017408, 0)]
def lvE : List Z := [(4607182418800017408, 0), (4611686018427387904, 0), (4607182418800017408, 0)]
theorem lvPw : ∀ z ∈ lvP, IsW z.1 ∧ IsW z.2 := by unfold IsW; decide +kernel
theorem lv_At (v : Value) (w : World) (hs : Sl w v (lvP.map C)) : Calls Tryd.prog 27 #[v, .complex .f64 0 4607182418800017408] w (RetCB w (some 0, some 0) 0) := by
  have := At_any lvP (fun k z hz => lvPw z (List.mem_of_getElem? hz)) 0 4607182418800017408 v w hs (by decide)
  unfold lvP at this
  rw [lvAt.1, lvAt.2] at this
  exact this.mono fun E w' ⟨x, y, h1, ⟨n, h2⟩, h3⟩ => ⟨x, y, h1, by rw [h2]; exact below_drewN' (Below.refl _ _) n, h3⟩
theorem lv_Tm (v v' : Value) (w : World) (hs : Sl w v (lvQ.map C)) (hs' : Sl w v' (lvQ.map C)) : Calls Tryd.prog 31 #[v, v'] w (RetPoly w ([(some 4607182418800017408, some 0), (some 4611686018427387904, some 0), (some 4607182418800017408, some 0)], 0)) := by
  have := Times_any lvQ lvQ v v' w hs hs' (by decide) (by decide)
  unfold lvQ at this
  rw [lvTm] at this
  exact this
theorem lv_In (v v' : Value) (w : World) (hs : ElsAt w v lvS) (hs' : ElsAt w v' lvT) : Calls Tryd.prog 13 #[v, v', .float .f64 4607182418800017408] w (RetIn w ((some 4613937818241073152, some 0), (0, 0))) := by
  have := Input_any lvS lvT lvW.1 lvW.2 4607182418800017408 v v' w hs hs'
  rw [lvIn] at this
  exact this
theorem lv_Eq (l : List Z) (v v' : Value) (w : World) (hs : Sl w v (l.map C)) (hs' : Sl w v' (lvE.map C)) (h : l.map zv = [(some 4607182418800017408, some 0), (some 4611686018427387904, some 0), (some 4607182418800017408, some 0)]) : Calls Tryd.prog 46 #[v, v'] w (RetB w true) := by
  have hl : l.length = 3 := by rw [← List.length_map (f := zv), h]; rfl
  have := EqualNumbers_any l lvE v v' w hs hs' (by omega)
  unfold lvE at this
  rw [lvEq h] at this
  exact this

set_option maxRecDepth 100000 in
set_option maxHeartbeats 1000000 in
theorem lives_any (w : World) : Calls Tryd.prog 10 #[] w fun e w' => e = .returned (.bool true) ∧ Below w.heap.size w w' := by
  have q1 : feq (some 0) (val 0) = true := by decide +kernel
  have q2 : feq (some 4613937818241073152) (val 4613937818241073152) = true := by decide +kernel
  go_enter Tryd.func10, Tryd.ntmps10
  go_wp2_with (go_at_call 27; refine (lv_At _ _ (by exact Sl_lit w 33 (lvP.map C))).mono ?_; rintro e w1 ⟨x, y, rfl, hb1, hr, -, -⟩)
  obtain ⟨hr1, hr2⟩ := Prod.mk.inj hr
  clear hr
  have b1 : Below w.heap.size w w1 := ((Below.refl _ w).alloc (Nat.le_refl _) _).trans (hb1.mono (by simp))
  have hq1 := (Sl_lit w1 33 (lvQ.map C)).below ((Below.refl _ _).alloc (Nat.le_refl _) (.cells (lvQ.map C).toArray 33))
  have hq2 := Sl_lit (w1.alloc (.cells (lvQ.map C).toArray 33)) 33 (lvQ.map C)
  rw [World.size_alloc] at hq2
  have b2 : Below w1.heap.size w1 ((w1.alloc (.cells (lvQ.map C).toArray 33)).alloc (.cells (lvQ.map C).toArray 33)) := ((Below.refl _ w1).alloc (Nat.le_refl _) _).alloc (by simp) _
  refine (lv_Tm _ _ _ (by exact hq1) (by exact hq2)).mono ?_
  rintro e w2 ⟨v, l, rfl, hown, hl, -, hb2⟩
  have b3 : Below w.heap.size w w2 := (b1.trans (b2.mono b1.size)).trans (hb2.mono (by have := b1.size; simp; omega))
  have hsl := Sl.of_owns hown
  clear hown hb2 b2 hq1 hq2 hb1
  have e1 := (Els_lit w2 ⟨1, ⟨#[82, 49]⟩, ⟨#[]⟩, ⟨#[]⟩, ⟨#[]⟩, ⟨#[]⟩, 4607182418800017408, 0⟩).below ((Below.refl _ _).alloc (Nat.le_refl _) (.cells (elC ⟨1, ⟨#[82, 50]⟩, ⟨#[]⟩, ⟨#[]⟩, ⟨#[]⟩, ⟨#[]⟩, 4611686018427387904, 0⟩).toArray 30))
  have e2 := Els_lit (w2.alloc (.cells (elC ⟨1, ⟨#[82, 49]⟩, ⟨#[]⟩, ⟨#[]⟩, ⟨#[]⟩, ⟨#[]⟩, 4607182418800017408, 0⟩).toArray 30)) ⟨1, ⟨#[82, 50]⟩, ⟨#[]⟩, ⟨#[]⟩, ⟨#[]⟩, ⟨#[]⟩, 4611686018427387904, 0⟩
  rw [World.size_alloc] at e2
  have b4 : Below w2.heap.size w2 ((w2.alloc (.cells (elC ⟨1, ⟨#[82, 49]⟩, ⟨#[]⟩, ⟨#[]⟩, ⟨#[]⟩, ⟨#[]⟩, 4607182418800017408, 0⟩).toArray 30)).alloc (.cells (elC ⟨1, ⟨#[82, 50]⟩, ⟨#[]⟩, ⟨#[]⟩, ⟨#[]⟩, ⟨#[]⟩, 4611686018427387904, 0⟩).toArray 30)) := ((Below.refl _ w2).alloc (Nat.le_refl _) _).alloc (by simp) _
  go_wp2_with (first | (go_at_call 13; refine (lv_In _ _ _ (by exact e1) (by exact e2)).mono ?_; rintro e w3 ⟨x3, y3, rfl, hb5, hr3, -, -⟩; obtain ⟨hr4, hr5⟩ := Prod.mk.inj hr3; clear hr3; have b5 := b4.trans (hb5.mono (by simp; omega)); have hsl2 := (hsl.below b5).below ((Below.refl _ w3).alloc (Nat.le_refl _) (.cells #[.int .i64 0, .int .i64 0] 36)); have s3 := Sl_lit (w3.alloc (.cells #[.int .i64 0, .int .i64 0] 36)) 33 (lvE.map C); rw [World.size_alloc] at s3) | (go_at_call 46; refine (lv_Eq l _ _ _ (by exact hsl2.below ((Below.refl _ _).alloc (Nat.le_refl _) _)) (by exact s3) hl).mono ?_; rintro e w4 ⟨rfl, n4, rfl⟩))
  go_ret
  exact ⟨rfl, below_drewN' (((b3.trans (b5.mono b3.size)).alloc (by have := b3.size; have := b5.size; omega) _).alloc (by have := b3.size; have := b5.size; simp; omega) _) n4⟩
end Go.Proofs.YtjpimgdmlieinaaDoor
