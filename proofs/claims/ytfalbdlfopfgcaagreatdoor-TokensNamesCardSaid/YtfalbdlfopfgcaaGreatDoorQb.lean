/- TokensNames returns true. Condition: the tables lie there. -/
import Derived.Test.YtfalbdlfopfgcaaGreatDoorQa
namespace Go.Proofs.YtfalbdlfopfgcaaGreatDoor
open Go.RowKit

theorem below_step {B : Nat} {w w' w'' : World} (h : Below B w w') (hb : Below w'.heap.size w' w'') (hB : B ≤ w.heap.size := by first | exact Nat.le_refl _ | omega) : Below B w w'' := h.trans (below_mono hb (Nat.le_trans hB h.size))
/-- What Cut tells of a text: how many rows, the fault. -/
def RC (w : World) (n : Nat) (x y : Int) (e : Ending) (w' : World) : Prop := ∃ ad cap, e = .returned (.tuple #[.slice ad n cap, .agg #[.int .i64 x, .int .i64 y]]) ∧ Below w.heap.size w w'
theorem cut_rc {s : List UInt8} {rows : List (List Tok)} {x y : Int} (h : cutOut s = (rows, x, y)) (n : Nat) (hn : n = rows.length) (hs : s.length ≤ maxLen) (w : World) : Calls Tryz.prog 7 #[.string (mk s)] w (RC w n x y) := by
  refine (Cut_any s w hs).mono ?_
  rintro e w' ⟨V, vs, h1, h2, h3⟩
  rw [h] at h1 h2
  obtain ⟨ad, cap, rfl⟩ := gridV h2
  subst hn
  exact ⟨ad, cap, h1, h3⟩
/-- One row of so many. -/
def RC1 (w : World) (m : Nat) (e : Ending) (w' : World) : Prop := ∃ g cap ad c2, e = .returned (.tuple #[.slice (some ⟨g, 0, none⟩) 1 cap, .agg #[.int .i64 0, .int .i64 0]]) ∧ w'.cell? ⟨g, 0, none⟩ = some (.slice ad m c2) ∧ Below w.heap.size w w'
theorem cut_rc1 {s : List UInt8} {r : List Tok} (h : cutOut s = ([r], 0, 0)) (m : Nat) (hm : m = r.length) (hs : s.length ≤ maxLen) (w : World) : Calls Tryz.prog 7 #[.string (mk s)] w (RC1 w m) := by
  refine (Cut_any s w hs).mono ?_
  rintro e w' ⟨V, vs, h1, h2, h3⟩
  rw [h] at h1 h2
  obtain ⟨g, cap, ad, sn, sc, rfl, _, hc, _⟩ := gridAt h2 (i := 0) (r := r) rfl
  subst hm
  exact ⟨g, cap, ad, sc, h1, hc, h3⟩
theorem cell_step {w w' : World} {a : Addr} {v : Value} (h : w.cell? a = some v) (hb : Below w.heap.size w w') : w'.cell? a = some v := (hb.cell (World.block_lt_of_cell? _ _ h)).trans h
def nmT : List UInt8 := [32, 32, 10, 42, 32, 120, 10, 59, 32, 121, 10, 9, 67, 49, 32, 32, 98]
def nmR : List (List Tok) := [[], [], [], [([67, 49], 3, 1), ([98], 3, 5)]]
theorem nm_facts : ∃ L : ByteArray, (∀ w, Calls Tryz.prog 8 #[.string ⟨#[120]⟩, .int .i64 80] w fun e w' => e = .returned (.string L) ∧ Below w.heap.size w w') ∧
    (∀ w, Calls Tryz.prog 7 #[.string ⟨#[32, 32, 10, 42, 32, 120, 10, 59, 32, 121, 10, 9, 67, 49, 32, 32, 98]⟩] w fun e w' => ∃ V vs, e = .returned (.tuple #[V, .agg #[.int .i64 0, .int .i64 0]]) ∧ Grid w' w.heap.size V nmR vs ∧ Below w.heap.size w w') ∧
    (∀ w, Calls Tryz.prog 7 #[.string ⟨#[]⟩] w (RC w 0 0 0)) ∧
    (∀ w, Calls Tryz.prog 7 #[.string ⟨#[10]⟩] w (RC1 w 0)) ∧
    (∀ w, Calls Tryz.prog 7 #[.string ⟨#[97, 10]⟩] w (RC w 1 0 0)) ∧
    (∀ w, Calls Tryz.prog 7 #[.string ⟨#[97, 10, 98, 0]⟩] w (RC w 0 240 1)) ∧
    (∀ w, Calls Tryz.prog 7 #[.string ⟨#[97, 32, 42, 32, 200]⟩] w (RC1 w 1)) ∧
    (∀ w, Calls Tryz.prog 7 #[.string (L ++ ⟨#[120]⟩)] w (RC w 0 3 0)) ∧
    (∀ w, Calls Tryz.prog 7 #[.string L] w (RC1 w 1)) ∧
    (∀ w, Calls Tryz.prog 7 #[.string (L ++ ⟨#[200]⟩)] w (RC w 0 240 0)) ∧ L.size = 80 := by
  refine ⟨mk (Lib.repeatL [120] 80), fun w => ?_, fun w => ?_, fun w => ?_, fun w => ?_, fun w => ?_, fun w => ?_, fun w => ?_, fun w => ?_, fun w => ?_, fun w => ?_, by decide +kernel⟩
  · exact Tryz.strings_Repeat ⟨#[120]⟩ 80 w (by decide) (by decide)
  · refine (Cut_any nmT w (by decide)).mono ?_
    rintro e w' ⟨V, vs, h1, h2, h3⟩
    rw [show cutOut nmT = (nmR, 0, 0) by decide +kernel] at h1 h2
    exact ⟨V, vs, h1, h2, h3⟩
  · exact cut_rc (s := []) (rows := []) (by decide +kernel) 0 rfl (by decide) w
  · exact cut_rc1 (s := [10]) (r := []) (by decide +kernel) 0 rfl (by decide) w
  · exact cut_rc (s := [97, 10]) (rows := [[([97], 0, 0)]]) (by decide +kernel) 1 rfl (by decide) w
  · exact cut_rc (s := [97, 10, 98, 0]) (rows := []) (by decide +kernel) 0 rfl (by decide) w
  · exact cut_rc1 (s := [97, 32, 42, 32, 200]) (r := [([97], 0, 0)]) (by decide +kernel) 1 rfl (by decide) w
  · rw [show mk (Lib.repeatL [120] 80) ++ ⟨#[120]⟩ = mk (Lib.repeatL [120] 80 ++ [120]) by decide +kernel]
    exact cut_rc (rows := []) (by decide +kernel) 0 rfl (by decide +kernel) w
  · exact cut_rc1 (r := [(Lib.repeatL [120] 80, 0, 0)]) (by decide +kernel) 1 rfl (by decide +kernel) w
  · rw [show mk (Lib.repeatL [120] 80) ++ ⟨#[200]⟩ = mk (Lib.repeatL [120] 80 ++ [200]) by decide +kernel]
    exact cut_rc (rows := []) (by decide +kernel) 0 rfl (by decide +kernel) w
theorem nm_lit (w w2 : World) (N : Nat) (hN : N = w.heap.size)
    (hw : w2 = ((((w.alloc (.cells #[] 33)).alloc (.cells #[] 33)).alloc (.cells #[] 33)).alloc (.cells #[.string ⟨#[67, 49]⟩, .int .i64 3, .int .i64 1, .string ⟨#[98]⟩, .int .i64 3, .int .i64 5] 33)).alloc (.cells #[.slice (some ⟨N, 0, none⟩) 0 0, .slice (some ⟨N + 1, 0, none⟩) 0 0, .slice (some ⟨N + 1 + 1, 0, none⟩) 0 0, .slice (some ⟨N + 1 + 1 + 1, 0, none⟩) 2 2] 35)) :
    Grid w2 N (.slice (some ⟨N + 1 + 1 + 1 + 1, 0, none⟩) 4 4) nmR [.slice (some ⟨N, 0, none⟩) 0 0, .slice (some ⟨N + 1, 0, none⟩) 0 0, .slice (some ⟨N + 1 + 1, 0, none⟩) 0 0, .slice (some ⟨N + 1 + 1 + 1, 0, none⟩) 2 2] := by
  subst hN
  have e : w2.heap = ((((w.heap.push (.cells #[] 33 (0, 0))).push (.cells #[] 33 (0, 0))).push (.cells #[] 33 (0, 0))).push (.cells #[.string ⟨#[67, 49]⟩, .int .i64 3, .int .i64 1, .string ⟨#[98]⟩, .int .i64 3, .int .i64 5] 33 (0, 0))).push (.cells #[.slice (some ⟨w.heap.size, 0, none⟩) 0 0, .slice (some ⟨w.heap.size + 1, 0, none⟩) 0 0, .slice (some ⟨w.heap.size + 1 + 1, 0, none⟩) 0 0, .slice (some ⟨w.heap.size + 1 + 1 + 1, 0, none⟩) 2 2] 35 (0, 0)) := by rw [hw]; rfl
  clear hw
  have h0 : w2.heap[w.heap.size]? = some (.cells #[] 33 (0, 0)) := by
    rw [e]
    simp only [Array.getElem?_push, Array.size_push]
    rw [if_neg (by omega), if_neg (by omega), if_neg (by omega), if_neg (by omega), if_pos True.intro]
  have h1 : w2.heap[w.heap.size + 1]? = some (.cells #[] 33 (0, 0)) := by
    rw [e]
    simp only [Array.getElem?_push, Array.size_push]
    rw [if_neg (by omega), if_neg (by omega), if_neg (by omega), if_pos True.intro]
  have h2 : w2.heap[w.heap.size + 1 + 1]? = some (.cells #[] 33 (0, 0)) := by
    rw [e]
    simp only [Array.getElem?_push, Array.size_push]
    rw [if_neg (by omega), if_neg (by omega), if_pos True.intro]
  have h3 : w2.heap[w.heap.size + 1 + 1 + 1]? = some (.cells #[.string ⟨#[67, 49]⟩, .int .i64 3, .int .i64 1, .string ⟨#[98]⟩, .int .i64 3, .int .i64 5] 33 (0, 0)) := by
    rw [e]
    simp only [Array.getElem?_push, Array.size_push]
    rw [if_neg (by omega), if_pos True.intro]
  have h4 : w2.heap[w.heap.size + 1 + 1 + 1 + 1]? = some (.cells #[.slice (some ⟨w.heap.size, 0, none⟩) 0 0, .slice (some ⟨w.heap.size + 1, 0, none⟩) 0 0, .slice (some ⟨w.heap.size + 1 + 1, 0, none⟩) 0 0, .slice (some ⟨w.heap.size + 1 + 1 + 1, 0, none⟩) 2 2] 35 (0, 0)) := by
    rw [e]
    simp only [Array.getElem?_push, Array.size_push]
    rw [if_pos True.intro]
  clear e
  generalize w.heap.size = N at *
  refine ⟨rfl, ⟨rfl, .inr ⟨_, 4, _, rfl, by omega, h4, by decide, by decide, rfl, rfl⟩⟩, ?_, ?_, ?_⟩
  · intro i v q hv hq
    match i with
    | 0 => cases hv; cases hq; exact ⟨rfl, .inr ⟨_, 0, _, rfl, by omega, h0, by decide, by decide, rfl, rfl⟩⟩
    | 1 => cases hv; cases hq; exact ⟨rfl, .inr ⟨_, 0, _, rfl, by omega, h1, by decide, by decide, rfl, rfl⟩⟩
    | 2 => cases hv; cases hq; exact ⟨rfl, .inr ⟨_, 0, _, rfl, by omega, h2, by decide, by decide, rfl, rfl⟩⟩
    | 3 => cases hv; cases hq; exact ⟨rfl, .inr ⟨_, 2, _, rfl, by omega, h3, by decide, by decide, rfl, rfl⟩⟩
    | k + 4 => cases hv
  · intro i v hv
    match i with
    | 0 => cases hv; exact .inr (by simp [Value.ownBlock] <;> omega)
    | 1 => cases hv; exact .inr (by simp [Value.ownBlock] <;> omega)
    | 2 => cases hv; exact .inr (by simp [Value.ownBlock] <;> omega)
    | 3 => cases hv; exact .inr (by simp [Value.ownBlock] <;> omega)
    | k + 4 => cases hv
  · intro i j v u hij hv hu
    match i, j with
    | 0, 0 | 1, 1 | 2, 2 | 3, 3 => omega
    | 0, 1 | 0, 2 | 0, 3 | 1, 0 | 1, 2 | 1, 3 | 2, 0 | 2, 1 | 2, 3 | 3, 0 | 3, 1 | 3, 2 => cases hv; cases hu; exact .inr (by simp [Value.ownBlock] <;> omega)
    | k + 4, _ => cases hv
    | _, k + 4 => cases hu
theorem nm_same (w w2 : World) (b : Nat) (V : Value) (vs : List Value) (hG : Grid w b V nmR vs)
    (hw : w2 = ((((w.alloc (.cells #[] 33)).alloc (.cells #[] 33)).alloc (.cells #[] 33)).alloc (.cells #[.string ⟨#[67, 49]⟩, .int .i64 3, .int .i64 1, .string ⟨#[98]⟩, .int .i64 3, .int .i64 5] 33)).alloc (.cells #[.slice (some ⟨w.heap.size, 0, none⟩) 0 0, .slice (some ⟨w.heap.size + 1, 0, none⟩) 0 0, .slice (some ⟨w.heap.size + 1 + 1, 0, none⟩) 0 0, .slice (some ⟨w.heap.size + 1 + 1 + 1, 0, none⟩) 2 2] 35)) :
    Calls Tryz.prog 10 #[V, .slice (some ⟨w.heap.size + 1 + 1 + 1 + 1, 0, none⟩) 4 4] w2 fun e w' => e = .returned (.bool true) ∧ Below w.heap.size w w' := by
  have h := nm_lit w w2 _ rfl hw
  have hB : Below w.heap.size w w2 := by
    rw [hw]
    refine Below.alloc (Below.alloc (Below.alloc (Below.alloc (Below.alloc (Below.refl _ w) ?_ _) ?_ _) ?_ _) ?_ _) ?_ _ <;> simp <;> omega
  refine (same_any w2 b _ V _ nmR vs _ (hG.below hB) h).mono ?_
  rintro e w' ⟨rfl, n, rfl⟩
  exact ⟨rfl, below_drewN' hB n⟩
set_option maxRecDepth 100000 in
set_option maxHeartbeats 4000000 in
theorem names_walk (w : World) (hT : Tabs w) : Calls Tryz.prog 3 #[] w fun e w' => e = .returned (.bool true) ∧ Below w.heap.size w w' := by
  obtain ⟨L, hR, h1, h2, h3, h4, h5, h6, h7, h8, h9, hLs⟩ := nm_facts
  have R := hid hR
  have HT := hid hT
  have K1 := hid h1
  have K2 := hid h2
  have K3 := hid h3
  have K4 := hid h4
  have K5 := hid h5
  have K6 := hid h6
  have K7 := hid h7
  have K8 := hid h8
  have K9 := hid h9
  have N10 : Hid (∀ w', Tabs w' → Calls Tryz.prog 9 #[.agg #[.string ⟨#[52, 46, 55, 107]⟩, .int .i64 0, .int .i64 0]] w' (RetNum w' (some 4661889719351640064) 0 0)) := hid fun w' h => Number_of _ 0 0 _ _ _ w' (fun w'' hw => Parse_47k w'' (h.below hw))
  have N11 : Hid (∀ w', Calls Tryz.prog 9 #[.agg #[.string ⟨#[120]⟩, .int .i64 0, .int .i64 0]] w' (RetNum w' (some 0) 150 0)) := hid fun w' => Number_of _ 0 0 _ _ _ w' (fun w'' _ => Parse_x w'')
  clear hT hR h1 h2 h3 h4 h5 h6 h7 h8 h9
  go_enter Tryz.func3, Tryz.ntmps3
  go_wp2_with (go_at_call 7; with_reducible refine (K1.out _).mono ?_)
  rintro e w1 ⟨V, vs, rfl, G, hb⟩
  have s1 : Below w1.heap.size w1 (w1.alloc (.cells #[.int .i64 0, .int .i64 0] 25)) := (Below.refl _ _).alloc (Nat.le_refl _) _
  have B := hid ((hb.alloc hb.size (.cells #[.int .i64 0, .int .i64 0] 25)))
  replace G := hid (G.below s1)
  clear hb s1
  have F1 := hid (FaultAt.new w1 0 0)
  go_wp2_with (go_at_call 7; with_reducible refine (K2.out _).mono ?_)
  rintro e w2 ⟨a2, cp2, rfl, hb⟩
  have s1 := hb.alloc hb.size (.cells #[.int .i64 0, .int .i64 0] 25)
  replace B := hid (below_step B.out s1)
  replace G := hid (G.out.below s1)
  replace F1 := hid (fault_step F1.out s1)
  clear hb s1
  have F2 := hid (FaultAt.new w2 0 0)
  go_wp2_with (go_at_call 7; with_reducible refine (K3.out _).mono ?_)
  rintro e w3 ⟨g3, cp3, ad3, c3, rfl, C3, hb⟩
  have s1 := hb.alloc hb.size (.cells #[.int .i64 0, .int .i64 0] 25)
  replace B := hid (below_step B.out s1)
  replace G := hid (G.out.below s1)
  replace F1 := hid (fault_step F1.out s1)
  replace F2 := hid (fault_step F2.out s1)
  replace C3 := hid (cell_step C3 ((Below.refl w3.heap.size w3).alloc (Nat.le_refl _) (.cells #[.int .i64 0, .int .i64 0] 25)))
  clear hb s1
  have F3 := hid (FaultAt.new w3 0 0)
  go_wp2_with (go_at_call 7; with_reducible refine (K4.out _).mono ?_)
  rintro e w4 ⟨a4, cp4, rfl, hb⟩
  have s1 := hb.alloc hb.size (.cells #[.int .i64 0, .int .i64 0] 25)
  replace B := hid (below_step B.out s1)
  replace G := hid (G.out.below s1)
  replace F1 := hid (fault_step F1.out s1)
  replace F2 := hid (fault_step F2.out s1)
  replace C3 := hid (cell_step C3.out s1)
  replace F3 := hid (fault_step F3.out s1)
  clear hb s1
  have F4 := hid (FaultAt.new w4 0 0)
  go_wp2_with (go_at_call 7; with_reducible refine (K5.out _).mono ?_)
  rintro e w5 ⟨a5, cp5, rfl, hb⟩
  have s1 := hb.alloc hb.size (.cells #[.int .i64 240, .int .i64 1] 25)
  replace B := hid (below_step B.out s1)
  replace G := hid (G.out.below s1)
  replace F1 := hid (fault_step F1.out s1)
  replace F2 := hid (fault_step F2.out s1)
  replace C3 := hid (cell_step C3.out s1)
  replace F3 := hid (fault_step F3.out s1)
  replace F4 := hid (fault_step F4.out s1)
  clear hb s1
  have F5 := hid (FaultAt.new w5 240 1)
  go_wp2_with (go_at_call 7; with_reducible refine (K6.out _).mono ?_)
  rintro e w6 ⟨g6, cp6, ad6, c6, rfl, C6, hb⟩
  have s1 := hb.alloc hb.size (.cells #[.int .i64 0, .int .i64 0] 25)
  replace B := hid (below_step B.out s1)
  replace G := hid (G.out.below s1)
  replace F1 := hid (fault_step F1.out s1)
  replace F2 := hid (fault_step F2.out s1)
  replace C3 := hid (cell_step C3.out s1)
  replace F3 := hid (fault_step F3.out s1)
  replace F4 := hid (fault_step F4.out s1)
  replace F5 := hid (fault_step F5.out s1)
  replace C6 := hid (cell_step C6 ((Below.refl w6.heap.size w6).alloc (Nat.le_refl _) (.cells #[.int .i64 0, .int .i64 0] 25)))
  clear hb s1
  have F6 := hid (FaultAt.new w6 0 0)
  go_wp2_with (go_at_call 8; with_reducible refine (R.out _).mono ?_)
  rintro e v7 ⟨rfl, hb⟩
  replace B := hid (below_step B.out hb)
  replace G := hid (G.out.below hb)
  replace F1 := hid (fault_step F1.out hb)
  replace F2 := hid (fault_step F2.out hb)
  replace C3 := hid (cell_step C3.out hb)
  replace F3 := hid (fault_step F3.out hb)
  replace F4 := hid (fault_step F4.out hb)
  replace F5 := hid (fault_step F5.out hb)
  replace C6 := hid (cell_step C6.out hb)
  replace F6 := hid (fault_step F6.out hb)
  clear hb
  go_wp2_with (go_at_call 7; with_reducible refine (K7.out _).mono ?_)
  rintro e w7 ⟨a7, cp7, rfl, hb⟩
  have s1 := hb.alloc hb.size (.cells #[.int .i64 3, .int .i64 0] 25)
  replace B := hid (below_step B.out s1)
  replace G := hid (G.out.below s1)
  replace F1 := hid (fault_step F1.out s1)
  replace F2 := hid (fault_step F2.out s1)
  replace C3 := hid (cell_step C3.out s1)
  replace F3 := hid (fault_step F3.out s1)
  replace F4 := hid (fault_step F4.out s1)
  replace F5 := hid (fault_step F5.out s1)
  replace C6 := hid (cell_step C6.out s1)
  replace F6 := hid (fault_step F6.out s1)
  clear hb s1
  have F7 := hid (FaultAt.new w7 3 0)
  go_wp2_with (go_at_call 7; with_reducible refine (K8.out _).mono ?_)
  rintro e w8 ⟨g8, cp8, ad8, c8, rfl, C8, hb⟩
  have s1 := hb.alloc hb.size (.cells #[.int .i64 0, .int .i64 0] 25)
  replace B := hid (below_step B.out s1)
  replace G := hid (G.out.below s1)
  replace F1 := hid (fault_step F1.out s1)
  replace F2 := hid (fault_step F2.out s1)
  replace C3 := hid (cell_step C3.out s1)
  replace F3 := hid (fault_step F3.out s1)
  replace F4 := hid (fault_step F4.out s1)
  replace F5 := hid (fault_step F5.out s1)
  replace C6 := hid (cell_step C6.out s1)
  replace F6 := hid (fault_step F6.out s1)
  replace F7 := hid (fault_step F7.out s1)
  replace C8 := hid (cell_step C8 ((Below.refl w8.heap.size w8).alloc (Nat.le_refl _) (.cells #[.int .i64 0, .int .i64 0] 25)))
  clear hb s1
  have F8 := hid (FaultAt.new w8 0 0)
  go_wp2_with (go_at_call 7; with_reducible refine (K9.out _).mono ?_)
  rintro e w9 ⟨a9, cp9, rfl, hb⟩
  have s1 := hb.alloc hb.size (.cells #[.int .i64 240, .int .i64 0] 25)
  replace B := hid (below_step B.out s1)
  replace G := hid (G.out.below s1)
  replace F1 := hid (fault_step F1.out s1)
  replace F2 := hid (fault_step F2.out s1)
  replace C3 := hid (cell_step C3.out s1)
  replace F3 := hid (fault_step F3.out s1)
  replace F4 := hid (fault_step F4.out s1)
  replace F5 := hid (fault_step F5.out s1)
  replace C6 := hid (cell_step C6.out s1)
  replace F6 := hid (fault_step F6.out s1)
  replace F7 := hid (fault_step F7.out s1)
  replace C8 := hid (cell_step C8.out s1)
  replace F8 := hid (fault_step F8.out s1)
  clear hb s1
  have F9 := hid (FaultAt.new w9 240 0)
  go_wp2_with (go_at_call 9; with_reducible refine (N10.out _ (HT.out.below B.out)).mono ?_)
  rintro e w10 ⟨r10, rfl, hr10, hb⟩
  obtain rfl : r10 = 4661889719351640064 := val_inj hr10
  clear hr10
  have s1 := hb.alloc hb.size (.cells #[.int .i64 0, .int .i64 0] 25)
  replace B := hid (below_step B.out s1)
  replace G := hid (G.out.below s1)
  replace F1 := hid (fault_step F1.out s1)
  replace F2 := hid (fault_step F2.out s1)
  replace C3 := hid (cell_step C3.out s1)
  replace F3 := hid (fault_step F3.out s1)
  replace F4 := hid (fault_step F4.out s1)
  replace F5 := hid (fault_step F5.out s1)
  replace C6 := hid (cell_step C6.out s1)
  replace F6 := hid (fault_step F6.out s1)
  replace F7 := hid (fault_step F7.out s1)
  replace C8 := hid (cell_step C8.out s1)
  replace F8 := hid (fault_step F8.out s1)
  replace F9 := hid (fault_step F9.out s1)
  clear hb s1
  have F10 := hid (FaultAt.new w10 0 0)
  go_wp2_with (go_at_call 9; with_reducible refine (N11.out _).mono ?_)
  rintro e w11 ⟨r11, rfl, hr11, hb⟩
  obtain rfl : r11 = 0 := val_inj hr11
  clear hr11
  have s1 := hb.alloc hb.size (.cells #[.int .i64 150, .int .i64 0] 25)
  replace B := hid (below_step B.out s1)
  replace G := hid (G.out.below s1)
  replace F1 := hid (fault_step F1.out s1)
  replace F2 := hid (fault_step F2.out s1)
  replace C3 := hid (cell_step C3.out s1)
  replace F3 := hid (fault_step F3.out s1)
  replace F4 := hid (fault_step F4.out s1)
  replace F5 := hid (fault_step F5.out s1)
  replace C6 := hid (cell_step C6.out s1)
  replace F6 := hid (fault_step F6.out s1)
  replace F7 := hid (fault_step F7.out s1)
  replace C8 := hid (cell_step C8.out s1)
  replace F8 := hid (fault_step F8.out s1)
  replace F9 := hid (fault_step F9.out s1)
  replace F10 := hid (fault_step F10.out s1)
  clear hb s1
  have F11 := hid (FaultAt.new w11 150 0)
  have F12 := hid (FaultAt.new (w11.alloc (.cells #[.int .i64 150, .int .i64 0] 25)) 0 0)
  have s1 := (Below.refl (w11.alloc (.cells #[.int .i64 150, .int .i64 0] 25)).heap.size (w11.alloc (.cells #[.int .i64 150, .int .i64 0] 25))).alloc (Nat.le_refl _) (.cells #[.int .i64 0, .int .i64 0] 25)
  replace B := hid (below_step B.out s1)
  replace G := hid (G.out.below s1)
  replace F1 := hid (fault_step F1.out s1)
  replace F2 := hid (fault_step F2.out s1)
  replace C3 := hid (cell_step C3.out s1)
  replace F3 := hid (fault_step F3.out s1)
  replace F4 := hid (fault_step F4.out s1)
  replace F5 := hid (fault_step F5.out s1)
  replace C6 := hid (cell_step C6.out s1)
  replace F6 := hid (fault_step F6.out s1)
  replace F7 := hid (fault_step F7.out s1)
  replace C8 := hid (cell_step C8.out s1)
  replace F8 := hid (fault_step F8.out s1)
  replace F9 := hid (fault_step F9.out s1)
  replace F10 := hid (fault_step F10.out s1)
  replace F11 := hid (fault_step F11.out s1)
  clear s1 K1 K2 K3 K4 K5 K6 K7 K8 K9 N10 N11 R
  go_upto_region 14 with (fail)
  obtain ⟨wa, hwa⟩ : ∃ wa, wa = (w11.alloc (.cells #[.int .i64 150, .int .i64 0] 25)).alloc (.cells #[.int .i64 0, .int .i64 0] 25) := ⟨_, rfl⟩
  have e12 : (w11.alloc (.cells #[.int .i64 150, .int .i64 0] 25)).heap.size = w11.heap.size + 1 := by simp
  rw [e12] at F12
  clear e12
  rw [← hwa] at B G F1 F2 C3 F3 F4 F5 C6 F6 F7 C8 F8 F9 F10 F11 F12 ⊢
  clear hwa
  have x0 := F1.out.c0
  have x1 := F1.out.c1
  have y0 := F12.out.c0
  have y1 := F12.out.c1
  go_wp2_with (go_at_call 10; refine (nm_same wa _ w.heap.size V vs G.out rfl).mono ?_)
  rintro e w12 ⟨rfl, s1⟩
  clear x0 x1 y0 y1 G
  replace B := hid (below_step B.out s1)
  replace F1 := hid (fault_step F1.out s1)
  replace F2 := hid (fault_step F2.out s1)
  replace C3 := hid (cell_step C3.out s1)
  replace F3 := hid (fault_step F3.out s1)
  replace F4 := hid (fault_step F4.out s1)
  replace F5 := hid (fault_step F5.out s1)
  replace C6 := hid (cell_step C6.out s1)
  replace F6 := hid (fault_step F6.out s1)
  replace F7 := hid (fault_step F7.out s1)
  replace C8 := hid (cell_step C8.out s1)
  replace F8 := hid (fault_step F8.out s1)
  replace F9 := hid (fault_step F9.out s1)
  replace F10 := hid (fault_step F10.out s1)
  replace F11 := hid (fault_step F11.out s1)
  replace F12 := hid (fault_step F12.out s1)
  clear s1
  have x2 := F2.out.c0
  have y2 := F2.out.c1
  have x3 := F3.out.c0
  have y3 := F3.out.c1
  have x4 := F4.out.c0
  have y4 := F4.out.c1
  have x12 := F12.out.c0
  have y12 := F12.out.c1
  have z3 := C3.out
  go_upto_region 15 with (fail)
  clear x2 y2 x3 y3 z3 x4 y4 F1 F2 F3 F4 C3
  have x5 := F5.out.c0
  have y5 := F5.out.c1
  have x6 := F6.out.c0
  have y6 := F6.out.c1
  have z6 := C6.out
  have x7 := F7.out.c0
  have y7 := F7.out.c1
  have x8 := F8.out.c0
  have y8 := F8.out.c1
  have z8 := C8.out
  have x9 := F9.out.c0
  have y9 := F9.out.c1
  go_wp2_with (go_at_call 11; (with_reducible refine (lives_any _).mono ?_))
  rintro e w13 ⟨rfl, s1⟩
  clear x5 y5 x6 y6 z6 x7 y7 x8 y8 z8 x9 y9 x12 y12 F5 F6 C6 F7 F8 C8 F9
  replace B := hid (below_step B.out s1)
  replace F10 := hid (fault_step F10.out s1)
  replace F11 := hid (fault_step F11.out s1)
  replace F12 := hid (fault_step F12.out s1)
  clear s1
  have x10 := F10.out.c0
  have y10 := F10.out.c1
  have x11 := F11.out.c0
  have y11 := F11.out.c1
  have x12 := F12.out.c0
  have y12 := F12.out.c1
  have n47 : feq (val 4661889719351640064) (val 4661889719351640064) = true := by decide +kernel
  go_wp2
  go_ret
  exact ⟨rfl, B.out⟩
end Go.Proofs.YtfalbdlfopfgcaaGreatDoor

