/- internal/strconv.special, atof64exact. Condition: the tables lie there; the text begins with a digit or a point. internal/strconv.atof64, ParseFloat; strconv.ParseFloat: texts whose digits are not cut. Condition: the tables lie there. -/
import Derived.Test.YtfalbdlfopfgcaaGreatDoorPd
import Derived.Test.YtfalbdlfopfgcaaGreatDoorFlM
namespace Go.Proofs.YtfalbdlfopfgcaaGreatDoor
open Go.RowKit

theorem special_d (s : ByteArray) (c : Nat) (hc : (bys s)[0]? = some c) (hd : digB c = true ∨ c = 46) (w : World) : Calls Tryz.prog 142 #[.string s] w fun e w' => e = .returned (.tuple #[.float .f64 0, .int .i64 0, .bool false]) ∧ w' = w := by
  obtain ⟨k0, e0, -⟩ := bys_get hc
  have hb : ((c : Int) == 43) = false ∧ ((c : Int) == 45) = false ∧ ((c : Int) == 105) = false ∧ ((c : Int) == 73) = false ∧ ((c : Int) == 110) = false ∧ ((c : Int) == 78) = false := by
    rcases hd with h | h
    · unfold digB at h
      simp at h
      obtain ⟨h1, h2⟩ := h
      simp
      omega
    · subst h
      simp
  obtain ⟨b1, b2, b3, b4, b5, b6⟩ := hb
  have hs : ((s.size : Int) == 0) = false := by
    rw [beq_eq_false_iff_ne]
    omega
  have hs2 : (s = ByteArray.empty) = False := by
    simp only [eq_iff_iff, iff_false]
    intro h
    rw [h] at k0
    simp at k0
  clear hd hc
  go_enter Tryz.func142, Tryz.ntmps142
  go_wp2
  go_ret3
  exact ⟨rfl, rfl⟩
def tenB (k : Nat) : Nat := [4607182418800017408, 4621819117588971520, 4636737291354636288, 4652007308841189376, 4666723172467343360, 4681608360884174848, 4696837146684686336, 4711630319722168320, 4726483295884279808, 4741671816366391296, 4756540486875873280, 4771362005757984768, 4786511204640096256, 4801453603149578240, 4816244402031689728, 4831355200913801216, 4846369599423283200, 4861130398305394688, 4876203697187506176, 4891288408196988160, 4906019910204099648, 4921056587992461136, 4936209963552724370].getD k 0
/-- The small tables lie in the world. -/
def FTab (w : World) : Prop := w.cell? ⟨6, 0, none⟩ = some (.int .u64 52) ∧ ∃ b o, w.cell? ⟨10, 0, none⟩ = some (.slice (some ⟨b, o, none⟩) 23 23) ∧ ∀ k, k < 23 → w.cell? ⟨b, o + k, none⟩ = some (.float .f64 (tenB k))
def exA (d : Nat) (neg : Bool) : Option Nat := if neg then fneg (val (ofInt d)) else val (ofInt d)
def exBig (x : Option Nat) : Bool := flt (val 4831355200913801216) x || flt x (val 14054727237768577024)
def exOk (d : Nat) (p : Int) (neg : Bool) : Bool :=
  if 4503599627370496 ≤ d then false
  else if p = 0 then true
  else if 0 < p ∧ p ≤ 22 then !exBig (exA d neg)
  else if 0 < p ∧ p ≤ 37 then !exBig (fmul (exA d neg) (val (tenB (p - 22).toNat)))
  else decide (p < 0 ∧ -22 ≤ p)
def exF (d : Nat) (p : Int) (neg : Bool) : Option Nat :=
  if p = 0 then exA d neg
  else if 0 < p ∧ p ≤ 22 then fmul (exA d neg) (val (tenB p.toNat))
  else if 0 < p ∧ p ≤ 37 then fmul (fmul (exA d neg) (val (tenB (p - 22).toNat))) (val (tenB 22))
  else fdiv (exA d neg) (val (tenB (-p).toNat))
def RetEx (w : World) (d : Nat) (p : Int) (neg : Bool) (E : Ending) (w' : World) : Prop := ∃ r, IsW r ∧ E = .returned (.tuple #[.float .f64 r, .bool (exOk d p neg)]) ∧ (exOk d p neg = true → val r = exF d p neg) ∧ Below w.heap.size w w'
set_option maxRecDepth 100000 in
set_option maxHeartbeats 4000000 in
theorem exact_big (d : Nat) (p : Int) (neg : Bool) (h52 : 4503599627370496 ≤ d) (w : World) (hT : FTab w) : Calls Tryz.prog 153 #[.int .u64 d, .int .i64 p, .bool neg] w (RetEx w d p neg) := by
  obtain ⟨g0, b, o, g1, g2⟩ := hT
  have e1 : ((d : Int) / 4503599627370496 != 0) = true := by simp; omega
  have hR := hid (show exOk d p neg = false by unfold exOk; rw [if_pos h52])
  clear h52
  go_enter Tryz.func153, Tryz.ntmps153
  go_wp2
  go_ret2
  exact ⟨0, isW_0, by rw [hR.out]; rfl, (by rw [hR.out]; intro h; cases h), Below.refl _ _⟩
set_option maxRecDepth 100000 in
set_option maxHeartbeats 4000000 in
theorem exact_0 (d : Nat) (p : Int) (neg : Bool) (h52 : ¬ 4503599627370496 ≤ d) (h0 : p = 0) (w : World) (hT : FTab w) : Calls Tryz.prog 153 #[.int .u64 d, .int .i64 p, .bool neg] w (RetEx w d p neg) := by
  obtain ⟨g0, b, o, g1, g2⟩ := hT
  have e1 : ((d : Int) / 4503599627370496 != 0) = false := by simp; omega
  obtain ⟨x0, hx0⟩ : ∃ x0, floatOfInt .f64 (d : Int) = x0 := ⟨_, rfl⟩
  have w0 : IsW x0 := by rw [← hx0]; exact isW_ofInt _
  have hx : exA d neg = val (if neg then negB x0 else x0) := by
    have h1 : ofInt (d : Int) = x0 := hx0
    unfold exA
    rw [h1]
    cases neg
    · rfl
    · exact (val_neg _).symm
  have hR := hid (show exOk d p neg = true by unfold exOk; rw [if_neg h52, if_pos h0])
  have hV := hid (show exF d p neg = val (if neg then negB x0 else x0) by unfold exF; rw [if_pos h0, hx])
  have e2 : (p == 0) = true := by simp [h0]
  clear h0 h52 hx
  cases neg
  · rw [if_neg Bool.false_ne_true] at hV
    go_enter Tryz.func153, Tryz.ntmps153
    go_wp2
    go_ret2
    exact ⟨x0, w0, by rw [hR.out]; rfl, (fun _ => hV.out.symm), Below.refl _ _⟩
  · rw [if_pos rfl] at hV
    go_enter Tryz.func153, Tryz.ntmps153
    go_wp2
    go_ret2
    exact ⟨negB x0, isW_neg w0, by rw [hR.out]; rfl, (fun _ => hV.out.symm), Below.refl _ _⟩
set_option maxRecDepth 100000 in
set_option maxHeartbeats 4000000 in
theorem exact_lo (d : Nat) (p : Int) (neg : Bool) (h52 : ¬ 4503599627370496 ≤ d) (hp0 : 0 < p) (hp22 : p ≤ 22) (w : World) (hT : FTab w) : Calls Tryz.prog 153 #[.int .u64 d, .int .i64 p, .bool neg] w (RetEx w d p neg) := by
  obtain ⟨g0, b, o, g1, g2⟩ := hT
  have e1 : ((d : Int) / 4503599627370496 != 0) = false := by simp; omega
  obtain ⟨x0, hx0⟩ : ∃ x0, floatOfInt .f64 (d : Int) = x0 := ⟨_, rfl⟩
  have w0 : IsW x0 := by rw [← hx0]; exact isW_ofInt _
  have hx : exA d neg = val (if neg then negB x0 else x0) := by
    have h1 : ofInt (d : Int) = x0 := hx0
    unfold exA
    rw [h1]
    cases neg
    · rfl
    · exact (val_neg _).symm
  have e2 : (p == 0) = false := by simp; omega
  obtain ⟨k, hk⟩ : ∃ k : Nat, p = (k : Int) := ⟨p.toNat, by omega⟩
  subst hk
  have hg := g2 k (by omega)
  have e4 : (k : Int) ≤ 37 := by omega
  have e5 : ¬ (22 : Int) < (k : Int) := by omega
  obtain ⟨T, hT⟩ : ∃ T, T = tenB k := ⟨_, rfl⟩
  rw [← hT] at hg
  have hR := hid (show exOk d k neg = !exBig (val (if neg then negB x0 else x0)) by unfold exOk; rw [if_neg h52, if_neg (by omega), if_pos ⟨hp0, hp22⟩, hx])
  have hV := hid (show exF d k neg = fmul (val (if neg then negB x0 else x0)) (val T) by unfold exF; rw [if_neg (by omega), if_pos ⟨hp0, hp22⟩, hx, hT]; rfl)
  clear h52 hx hT g2
  cases neg
  all_goals
    first | (rw [if_pos rfl] at hR hV; have wx := isW_neg w0) | (rw [if_neg Bool.false_ne_true] at hR hV; have wx := w0)
    go_enter Tryz.func153, Tryz.ntmps153
    go_wp2_with (first | ((with_reducible refine upon_fadd ?_); intro r n hr hl) | ((with_reducible refine upon_fsub ?_); intro r n hr hl) | ((with_reducible refine upon_fmul ?_); intro r n hr hl) | ((with_reducible refine upon_fdiv ?_); intro r n hr hl) | ((with_reducible refine upon_fmax (by assumption) (by assumption) ?_); intro r n hr hl) | ((with_reducible refine upon_fmin (by assumption) (by assumption) ?_); intro r n hr hl))
    all_goals
      go_ret2
      first
        | exact ⟨_, hl, (by rw [hR.out]; simp [exBig, *]), (fun _ => hr.trans hV.out.symm), below_drewN' (Below.refl _ w) _⟩
        | exact ⟨_, wx, by rw [hR.out]; simp [exBig, *], (by rw [hR.out]; intro h; simp [exBig, *] at h), (Below.refl _ _)⟩
set_option maxRecDepth 100000 in
set_option maxHeartbeats 4000000 in
theorem exact_mid (d : Nat) (p : Int) (neg : Bool) (h52 : ¬ 4503599627370496 ≤ d) (hp0 : 22 < p) (hp22 : p ≤ 37) (w : World) (hT : FTab w) : Calls Tryz.prog 153 #[.int .u64 d, .int .i64 p, .bool neg] w (RetEx w d p neg) := by
  obtain ⟨g0, b, o, g1, g2⟩ := hT
  have e1 : ((d : Int) / 4503599627370496 != 0) = false := by simp; omega
  obtain ⟨x0, hx0⟩ : ∃ x0, floatOfInt .f64 (d : Int) = x0 := ⟨_, rfl⟩
  have w0 : IsW x0 := by rw [← hx0]; exact isW_ofInt _
  have hx : exA d neg = val (if neg then negB x0 else x0) := by
    have h1 : ofInt (d : Int) = x0 := hx0
    unfold exA
    rw [h1]
    cases neg
    · rfl
    · exact (val_neg _).symm
  have e2 : (p == 0) = false := by simp; omega
  obtain ⟨k, hk⟩ : ∃ k : Nat, p = (k : Int) := ⟨p.toNat, by omega⟩
  subst hk
  obtain ⟨j, hj⟩ : ∃ j : Nat, k = j + 22 := ⟨k - 22, by omega⟩
  subst hj
  have hg := g2 j (by omega)
  have hg2 := g2 22 (by omega)
  have e4 : ((j + 22 : Nat) : Int) ≤ 37 := by omega
  have e5 : (22 : Int) < ((j + 22 : Nat) : Int) := by omega
  have e6 : (0 : Int) < ((j + 22 : Nat) : Int) := by omega
  have e7 : ((j + 22 : Nat) : Int) - 22 = (j : Int) := by omega
  obtain ⟨T, hT⟩ : ∃ T, T = tenB j := ⟨_, rfl⟩
  obtain ⟨U, hU⟩ : ∃ U, U = tenB 22 := ⟨_, rfl⟩
  rw [← hT] at hg
  rw [← hU] at hg2
  have hk2 : (((j + 22 : Nat) : Int) - 22).toNat = j := by omega
  have hR := hid (show exOk d (j + 22 : Nat) neg = !exBig (fmul (val (if neg then negB x0 else x0)) (val T)) by unfold exOk; rw [if_neg h52, if_neg (by omega), if_neg (by omega), if_pos ⟨by omega, hp22⟩, hx, hT, hk2])
  have hV := hid (show exF d (j + 22 : Nat) neg = fmul (fmul (val (if neg then negB x0 else x0)) (val T)) (val U) by unfold exF; rw [if_neg (by omega), if_neg (by omega), if_pos ⟨by omega, hp22⟩, hx, hT, hU, hk2])
  clear h52 hx hT hU g2
  cases neg
  all_goals
    first | (rw [if_pos rfl] at hR hV; have wx := isW_neg w0) | (rw [if_neg Bool.false_ne_true] at hR hV; have wx := w0)
    go_enter Tryz.func153, Tryz.ntmps153
    go_wp2_with (first | ((with_reducible refine upon_fadd ?_); intro r n hr hl) | ((with_reducible refine upon_fsub ?_); intro r n hr hl) | ((with_reducible refine upon_fmul ?_); intro r n hr hl) | ((with_reducible refine upon_fdiv ?_); intro r n hr hl) | ((with_reducible refine upon_fmax (by assumption) (by assumption) ?_); intro r n hr hl) | ((with_reducible refine upon_fmin (by assumption) (by assumption) ?_); intro r n hr hl))
    all_goals
      go_ret2
      refine ⟨_, hl, ?_, ?_, ?_⟩
      · rw [hR.out]
        simp [exBig, *]
      · rw [hR.out, hV.out]
        first
          | (intro h; simp [exBig, *] at h; done)
          | (intro _; simp only [*])
      · first
          | exact below_drewN' (Below.refl _ w) _
          | exact below_drewN' (below_drewN' (Below.refl _ w) _) _
set_option maxRecDepth 100000 in
set_option maxHeartbeats 4000000 in
theorem exact_neg (d : Nat) (p : Int) (neg : Bool) (h52 : ¬ 4503599627370496 ≤ d) (hp0 : p < 0) (hp22 : -22 ≤ p) (w : World) (hT : FTab w) : Calls Tryz.prog 153 #[.int .u64 d, .int .i64 p, .bool neg] w (RetEx w d p neg) := by
  obtain ⟨g0, b, o, g1, g2⟩ := hT
  have e1 : ((d : Int) / 4503599627370496 != 0) = false := by simp; omega
  obtain ⟨x0, hx0⟩ : ∃ x0, floatOfInt .f64 (d : Int) = x0 := ⟨_, rfl⟩
  have w0 : IsW x0 := by rw [← hx0]; exact isW_ofInt _
  have hx : exA d neg = val (if neg then negB x0 else x0) := by
    have h1 : ofInt (d : Int) = x0 := hx0
    unfold exA
    rw [h1]
    cases neg
    · rfl
    · exact (val_neg _).symm
  have e2 : (p == 0) = false := by simp; omega
  obtain ⟨k, hk⟩ : ∃ k : Nat, -p = (k : Int) := ⟨(-p).toNat, by omega⟩
  have hg := g2 k (by omega)
  have e4 : ¬ (0 : Int) < p := by omega
  obtain ⟨T, hT⟩ : ∃ T, T = tenB k := ⟨_, rfl⟩
  rw [← hT] at hg
  have hk2 : (-p).toNat = k := by omega
  have hR := hid (show exOk d p neg = true by unfold exOk; rw [if_neg h52, if_neg (by omega), if_neg (by omega), if_neg (by omega)]; exact decide_eq_true ⟨hp0, hp22⟩)
  have hV := hid (show exF d p neg = fdiv (val (if neg then negB x0 else x0)) (val T) by unfold exF; rw [if_neg (by omega), if_neg (by omega), if_neg (by omega), hx, hT, hk2])
  clear h52 hx hT g2
  cases neg
  all_goals
    first | (rw [if_pos rfl] at hV; have wx := isW_neg w0) | (rw [if_neg Bool.false_ne_true] at hV; have wx := w0)
    go_enter Tryz.func153, Tryz.ntmps153
    go_wp2_with (first | ((with_reducible refine upon_fadd ?_); intro r n hr hl) | ((with_reducible refine upon_fsub ?_); intro r n hr hl) | ((with_reducible refine upon_fmul ?_); intro r n hr hl) | ((with_reducible refine upon_fdiv ?_); intro r n hr hl) | ((with_reducible refine upon_fmax (by assumption) (by assumption) ?_); intro r n hr hl) | ((with_reducible refine upon_fmin (by assumption) (by assumption) ?_); intro r n hr hl))
    all_goals
      go_ret2
      first
        | exact ⟨_, hl, (by rw [hR.out]; rfl), (fun _ => hr.trans hV.out.symm), below_drewN' (Below.refl _ w) _⟩
        | exact ⟨_, wx, by rw [hR.out]; simp [exBig, *], (by rw [hR.out]; intro h; simp [exBig, *] at h), (Below.refl _ _)⟩
set_option maxRecDepth 100000 in
set_option maxHeartbeats 4000000 in
theorem exact_no (d : Nat) (p : Int) (neg : Bool) (h52 : ¬ 4503599627370496 ≤ d) (hp0 : p < -22 ∨ 37 < p) (w : World) (hT : FTab w) : Calls Tryz.prog 153 #[.int .u64 d, .int .i64 p, .bool neg] w (RetEx w d p neg) := by
  obtain ⟨g0, b, o, g1, g2⟩ := hT
  have e1 : ((d : Int) / 4503599627370496 != 0) = false := by simp; omega
  obtain ⟨x0, hx0⟩ : ∃ x0, floatOfInt .f64 (d : Int) = x0 := ⟨_, rfl⟩
  have w0 : IsW x0 := by rw [← hx0]; exact isW_ofInt _
  have hx : exA d neg = val (if neg then negB x0 else x0) := by
    have h1 : ofInt (d : Int) = x0 := hx0
    unfold exA
    rw [h1]
    cases neg
    · rfl
    · exact (val_neg _).symm
  have e2 : (p == 0) = false := by simp; omega
  have hR := hid (show exOk d p neg = false by unfold exOk; rw [if_neg h52, if_neg (by omega), if_neg (by omega), if_neg (by omega)]; exact decide_eq_false (by omega))
  clear h52 hx g2
  rcases hp0 with hp0 | hp0
  · have e4 : ¬ (0 : Int) < p := by omega
    have e5 : ¬ (-22 : Int) ≤ p := by omega
    have e6 : p < 0 := by omega
    cases neg
    all_goals
      have wx := isW_neg w0
      go_enter Tryz.func153, Tryz.ntmps153
      go_wp2
      go_ret2
      first
        | exact ⟨_, w0, (by rw [hR.out]; rfl), (by rw [hR.out]; intro h; cases h), Below.refl _ _⟩
        | exact ⟨_, wx, (by rw [hR.out]; rfl), (by rw [hR.out]; intro h; cases h), Below.refl _ _⟩
  · have e4 : (0 : Int) < p := by omega
    have e5 : ¬ p ≤ 37 := by omega
    have e6 : ¬ p < 0 := by omega
    cases neg
    all_goals
      have wx := isW_neg w0
      go_enter Tryz.func153, Tryz.ntmps153
      go_wp2
      go_ret2
      first
        | exact ⟨_, w0, (by rw [hR.out]; rfl), (by rw [hR.out]; intro h; cases h), Below.refl _ _⟩
        | exact ⟨_, wx, (by rw [hR.out]; rfl), (by rw [hR.out]; intro h; cases h), Below.refl _ _⟩
theorem exact_any (d : Nat) (p : Int) (neg : Bool) (w : World) (hT : FTab w) : Calls Tryz.prog 153 #[.int .u64 d, .int .i64 p, .bool neg] w (RetEx w d p neg) := by
  by_cases h52 : 4503599627370496 ≤ d
  · exact exact_big d p neg h52 w hT
  · by_cases h0 : p = 0
    · exact exact_0 d p neg h52 h0 w hT
    · by_cases h1 : 0 < p ∧ p ≤ 22
      · exact exact_lo d p neg h52 h1.1 h1.2 w hT
      · by_cases h2 : 22 < p ∧ p ≤ 37
        · exact exact_mid d p neg h52 h2.1 h2.2 w hT
        · by_cases h3 : p < 0 ∧ -22 ≤ p
          · exact exact_neg d p neg h52 h3.1 h3.2 w hT
          · exact exact_no d p neg h52 (by omega) w hT
end Go.Proofs.YtfalbdlfopfgcaaGreatDoor

namespace Go.Proofs.YtfalbdlfopfgcaaGreatDoor
open Go.RowKit

def sgn (neg : Bool) : Nat := if neg then 9223372036854775808 else 0
def atV (d : Nat) (p : Int) (neg : Bool) : Option Nat := if d = 0 then val (sgn neg) else if 310 < p then val (sgn neg + 9218868437227405312) else if p < -345 then val (sgn neg) else if exOk d p neg = true then exF d p neg else val (pfN d p (sgn neg))
def atG (d : Nat) (p : Int) (neg : Bool) : Value := if d = 0 then .nilIface else if 310 < p then .iface 155 (.int .i64 1) else if p < -345 then .nilIface else if exOk d p neg = true then .nilIface else pfG d p (sgn neg)
def RetAt (w : World) (d : Nat) (p : Int) (neg : Bool) (n : Nat) (E : Ending) (w' : World) : Prop := ∃ r, E = .returned (.tuple #[.float .f64 r, .int .i64 n, atG d p neg]) ∧ val r = atV d p neg ∧ Below w.heap.size w w'
/-- The tables of reading lie in the world. -/
structure Tabs (w : World) : Prop where
  p : PTab w
  f : FTab w
  o : w.cell? ⟨5, 0, none⟩ = some (.bool true)
  b : 11 < w.heap.size
theorem FTab.below {w w' : World} (h : FTab w) (hb : Below w.heap.size w w') : FTab w' := by
  obtain ⟨h0, b, o, h1, h2⟩ := h
  exact ⟨(hb.cell (World.block_lt_of_cell? _ _ h0)).trans h0, b, o, (hb.cell (World.block_lt_of_cell? _ _ h1)).trans h1, fun k hk => (hb.cell (World.block_lt_of_cell? _ _ (h2 k hk))).trans (h2 k hk)⟩
theorem Tabs.below {w w' : World} (h : Tabs w) (hb : Below w.heap.size w w') : Tabs w' :=
  ⟨h.p.below hb, h.f.below hb, (hb.cell (World.block_lt_of_cell? _ _ h.o)).trans h.o, Nat.lt_of_lt_of_le h.b hb.size⟩
set_option maxRecDepth 100000 in
set_option maxHeartbeats 4000000 in
theorem atof_any (s : ByteArray) (d n : Nat) (p : Int) (neg : Bool) (hd : d < 18446744073709551616) (HS : ∀ w, Calls Tryz.prog 142 #[.string s] w fun e w' => e = .returned (.tuple #[.float .f64 0, .int .i64 0, .bool false]) ∧ w' = w) (HR : ∀ w, Calls Tryz.prog 143 #[.string s] w fun e w' => e = .returned (.tuple #[.int .u64 d, .int .i64 p, .bool neg, .bool false, .bool false, .int .i64 n, .bool true]) ∧ w' = w) (w : World) (hT : Tabs w) : Calls Tryz.prog 130 #[.string s] w (RetAt w d p neg n) := by
  have HS' := hid HS
  have HR' := hid HR
  obtain ⟨hP, hF, hO, hB⟩ := hT
  have HB : Hid (∀ w, Calls Tryz.prog 151 #[.bool neg] w fun e w' => e = .returned (.int .u64 (if neg then 1 else 0)) ∧ w' = w) := hid fun w => bool2u_any neg w
  have HE := hid fun w (h : FTab w) => exact_any d p neg w h
  have o1 : bits .or .u64 (sgn neg : Int) 0 = (sgn neg : Int) := by cases neg <;> decide +kernel
  have o2 : bits .or .u64 (sgn neg : Int) 9218868437227405312 = ((sgn neg + 9218868437227405312 : Nat) : Int) := by cases neg <;> decide +kernel
  have o3 : IntKind.u64.wrap ((if neg = true then 1 else 0) * 9223372036854775808) = (sgn neg : Int) := by cases neg <;> decide +kernel
  obtain ⟨S, hS⟩ : ∃ S, S = sgn neg := ⟨_, rfl⟩
  rw [← hS] at o1 o2 o3
  obtain ⟨b1, hb1⟩ : ∃ b1 : Int, b1 = if neg = true then 1 else 0 := ⟨_, rfl⟩
  rw [← hb1] at HB o3
  replace hb1 := hid hb1
  replace hS := hid hS
  clear HS HR
  by_cases h0 : d = 0
  · have e0 : ((d : Int) == 0) = true := by simp [h0]
    have hV := hid (show atV d p neg = val S by unfold atV; rw [if_pos h0, hS.out])
    have hG := hid (show atG d p neg = .nilIface by unfold atG; rw [if_pos h0])
    clear h0 hP hF
    go_enter Tryz.func130, Tryz.ntmps130
    go_wp2_with (first
      | (go_at_call 142; (with_reducible refine (HS'.out _).mono ?_); rintro E1 w1 ⟨rfl, rfl⟩)
      | (go_at_call 143; (with_reducible refine (HR'.out _).mono ?_); rintro E1 w1 ⟨rfl, rfl⟩)
      | (go_at_call 151; (with_reducible refine (HB.out _).mono ?_); rintro E1 w1 ⟨rfl, rfl⟩))
    go_ret3
    exact ⟨S, by rw [hG.out]; rfl, by rw [hV.out], Below.refl _ _⟩
  · have e0 : ((d : Int) == 0) = false := by
      rw [beq_eq_false_iff_ne]
      omega
    by_cases h1 : 310 < p
    · have hV := hid (show atV d p neg = val (S + 9218868437227405312) by unfold atV; rw [if_neg h0, if_pos h1, hS.out])
      have hG := hid (show atG d p neg = .iface 155 (.int .i64 1) by unfold atG; rw [if_neg h0, if_pos h1])
      clear h0 hP hF
      go_enter Tryz.func130, Tryz.ntmps130
      go_wp2_with (first
        | (go_at_call 142; (with_reducible refine (HS'.out _).mono ?_); rintro E1 w1 ⟨rfl, rfl⟩)
        | (go_at_call 143; (with_reducible refine (HR'.out _).mono ?_); rintro E1 w1 ⟨rfl, rfl⟩)
        | (go_at_call 151; (with_reducible refine (HB.out _).mono ?_); rintro E1 w1 ⟨rfl, rfl⟩))
      go_ret3
      exact ⟨_, by rw [hG.out]; rfl, by rw [hV.out], Below.refl _ _⟩
    · by_cases h2 : p < -345
      · have hV := hid (show atV d p neg = val S by unfold atV; rw [if_neg h0, if_neg h1, if_pos h2, hS.out])
        have hG := hid (show atG d p neg = .nilIface by unfold atG; rw [if_neg h0, if_neg h1, if_pos h2])
        clear h0 hP hF
        go_enter Tryz.func130, Tryz.ntmps130
        go_wp2_with (first
          | (go_at_call 142; (with_reducible refine (HS'.out _).mono ?_); rintro E1 w1 ⟨rfl, rfl⟩)
          | (go_at_call 143; (with_reducible refine (HR'.out _).mono ?_); rintro E1 w1 ⟨rfl, rfl⟩)
          | (go_at_call 151; (with_reducible refine (HB.out _).mono ?_); rintro E1 w1 ⟨rfl, rfl⟩))
        go_ret3
        exact ⟨S, by rw [hG.out]; rfl, by rw [hV.out], Below.refl _ _⟩
      · cases hx : exOk d p neg with
        | true =>
          have hV := hid (show atV d p neg = exF d p neg by unfold atV; rw [if_neg h0, if_neg h1, if_neg h2, if_pos hx])
          have hG := hid (show atG d p neg = .nilIface by unfold atG; rw [if_neg h0, if_neg h1, if_neg h2, if_pos hx])
          unfold RetEx at HE
          rw [hx] at HE
          clear h0 hP hx
          go_enter Tryz.func130, Tryz.ntmps130
          go_wp2_with (first
            | (go_at_call 142; (with_reducible refine (HS'.out _).mono ?_); rintro E1 w1 ⟨rfl, rfl⟩)
            | (go_at_call 143; (with_reducible refine (HR'.out _).mono ?_); rintro E1 w1 ⟨rfl, rfl⟩)
            | (go_at_call 151; (with_reducible refine (HB.out _).mono ?_); rintro E1 w1 ⟨rfl, rfl⟩)
            | (go_at_call 153; (with_reducible refine (HE.out _ hF).mono ?_); rintro E1 w2 ⟨r, hr, rfl, hrv, hb2⟩))
          go_ret3
          exact ⟨r, by rw [hG.out]; rfl, by rw [hV.out]; exact hrv (by trivial), hb2⟩
        | false =>
          have hV := hid (show atV d p neg = val (pfN d p S) by unfold atV; rw [if_neg h0, if_neg h1, if_neg h2, if_neg (by rw [hx]; decide), hS.out])
          have hG := hid (show atG d p neg = pfG d p S by unfold atG; rw [if_neg h0, if_neg h1, if_neg h2, if_neg (by rw [hx]; decide), hS.out])
          unfold RetEx at HE
          rw [hx] at HE
          have HN := hid fun w h1' h2' => parseFloat64_any d (by omega) hd p (by omega) (by omega) S (by rw [hS.out]; cases neg; exact .inl rfl; exact .inr rfl) w h1' h2'
          clear h0 hx hd
          go_enter Tryz.func130, Tryz.ntmps130
          go_wp2_with (first
            | (go_at_call 142; (with_reducible refine (HS'.out _).mono ?_); rintro E1 w1 ⟨rfl, rfl⟩)
            | (go_at_call 143; (with_reducible refine (HR'.out _).mono ?_); rintro E1 w1 ⟨rfl, rfl⟩)
            | (go_at_call 151; (with_reducible refine (HB.out _).mono ?_); rintro E1 w1 ⟨rfl, rfl⟩)
            | (go_at_call 153; (with_reducible refine (HE.out _ hF).mono ?_); rintro E1 w2 ⟨r, hr, rfl, hrv, hb2⟩)
            | (go_at_call 154; (with_reducible refine (HN.out _ (hP.below hb2) (Nat.lt_of_lt_of_le hB hb2.size)).mono ?_); rintro E1 w3 ⟨rfl, hb3⟩))
          go_ret3
          exact ⟨pfN d p S, by rw [hG.out]; rfl, by rw [hV.out], hb2.trans (hb3.mono hb2.size)⟩
/-- A text read aright: what the three ParseFloat tell. -/
def RetPf (w : World) (v : Option Nat) (E : Ending) (w' : World) : Prop := ∃ r, E = .returned (.tuple #[.float .f64 r, .nilIface]) ∧ val r = v ∧ Below w.heap.size w w'
theorem prefix_ok (s : ByteArray) (d n : Nat) (p : Int) (neg : Bool) (w : World) (h : Calls Tryz.prog 130 #[.string s] w (RetAt w d p neg n)) : Calls Tryz.prog 113 #[.string s, .int .i64 64] w (RetAt w d p neg n) := by
  have h' := hid h
  clear h
  go_enter Tryz.func113, Tryz.ntmps113
  go_wp2_with (first | (go_at_call 130; (with_reducible refine h'.out.mono ?_); rintro E1 w1 ⟨r, rfl, hr, hb⟩))
  go_ret3
  exact ⟨r, rfl, hr, hb⟩
theorem iParseFloat_ok (s : ByteArray) (d : Nat) (p : Int) (neg : Bool) (w : World) (h : Calls Tryz.prog 130 #[.string s] w (RetAt w d p neg s.size)) (hg : atG d p neg = .nilIface) : Calls Tryz.prog 93 #[.string s, .int .i64 64] w (RetPf w (atV d p neg)) := by
  have h' := hid (prefix_ok s d s.size p neg w h)
  unfold RetAt at h'
  rw [hg] at h'
  clear h hg
  go_enter Tryz.func93, Tryz.ntmps93
  go_wp2_with (first | (go_at_call 113; (with_reducible refine h'.out.mono ?_); rintro E1 w1 ⟨r, rfl, hr, hb⟩))
  go_ret2
  exact ⟨r, rfl, hr, hb⟩
theorem ParseFloat_ok (s : ByteArray) (d : Nat) (p : Int) (neg : Bool) (w : World) (h : Calls Tryz.prog 130 #[.string s] w (RetAt w d p neg s.size)) (hg : atG d p neg = .nilIface) : Calls Tryz.prog 68 #[.string s, .int .i64 64] w (RetPf w (atV d p neg)) := by
  have h' := hid (iParseFloat_ok s d p neg w h hg)
  clear h hg
  go_enter Tryz.func68, Tryz.ntmps68
  go_wp2_with (first | (go_at_call 93; (with_reducible refine h'.out.mono ?_); rintro E1 w1 ⟨r, rfl, hr, hb⟩))
  go_ret2
  exact ⟨r, rfl, hr, hb⟩
end Go.Proofs.YtfalbdlfopfgcaaGreatDoor
