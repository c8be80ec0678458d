/- The law TokensLong returns true. No condition. -/
import Derived.Test.YtkjklnnjaiggdaaTLives
namespace Go.Proofs.Ytkjklnnjaiggdaa
open Go.RowKit

theorem lines_rep (n : Nat) : lines (Lib.repeatL [97, 98, 32, 10] n) = List.replicate n [97, 98, 32] := by
  induction n with
  | zero => rfl
  | succ n ih =>
    rw [List.replicate_succ, ← ih]
    exact lines_cut (a := [97, 98, 32]) (by decide)
theorem cutFrom_all {L : List (List UInt8)} (h : ∀ l ∈ L, errW l = 0) (i : Nat) : cutFrom i L = none := by
  have := cutFrom_app h i []
  rw [List.append_nil] at this
  exact this
theorem long_one (n : Nat) (hn : n ≤ 16384) : cutOut (Lib.repeatL [97, 98, 32, 10] n) = ((List.replicate n [97, 98, 32]).mapIdx rowT, 0, 0) := by
  unfold cutOut
  rw [if_neg (by rw [Lib.repeatL_length]; simp; omega), lines_rep, cutFrom_all]
  intro l hl
  rw [List.eq_of_mem_replicate hl]
  decide
theorem long_over {s : List UInt8} (h : 65536 < s.length) : cutOut s = ([], 3, -1) := by unfold cutOut; rw [if_pos h]
theorem repL_zero (n : Nat) : Lib.repeatL [0] n = List.replicate n 0 := by
  induction n with
  | zero => rfl
  | succ n ih => rw [List.replicate_succ, ← ih]; rfl
theorem long_zero (n : Nat) (hn : n ≤ 65536) (h0 : 0 < n) : cutOut (Lib.repeatL [0] n) = ([], 240, 0) := by
  rw [repL_zero]
  have h10 : (10 : UInt8) ∉ List.replicate n (0 : UInt8) := by
    intro h
    exact absurd (List.eq_of_mem_replicate h) (by decide)
  have hb : bareW (List.replicate n 0) = List.replicate n 0 := by
    unfold bareW
    rw [List.takeWhile_replicate]
    rfl
  have h1 : stW (List.replicate n 0) 1 = .error 240 := by
    have h2 : (List.replicate n (0 : UInt8)).getD 0 0 = 0 := by
      rw [List.getD_eq_getElem?_getD]
      simp [h0]
    unfold stW
    rw [h2]
    rfl
  have he : errW (List.replicate n 0) = 240 := by
    unfold errW
    rw [hb, stW_error h1 _ (by simp; omega)]
  unfold cutOut
  rw [if_neg (by simp; omega), lines_no h10 (by simp; omega), cutFrom, if_neg (by rw [he]; decide), he]
  rfl

theorem FaultAt.step {w w' : World} {b : Nat} {x y : Int} (h : FaultAt w b x y) (hb : Below w.heap.size w w') : FaultAt w' b x y := by
  unfold FaultAt at *
  rw [hb.block b (Array.getElem?_eq_some_iff.1 h).1, h]
theorem FaultAt.alloc {w : World} {b : Nat} {x y : Int} (h : FaultAt w b x y) (o : Obj) : FaultAt (w.alloc o) b x y := h.step ((Below.refl _ _).alloc (Nat.le_refl _) _)
theorem below_step {B : Nat} {w w' w'' : World} (h : Below B w w') (hb : Below w'.heap.size w' w'') (hB : B ≤ w.heap.size := by first | exact Nat.le_refl _ | omega) : Below B w w'' := h.trans (below_mono hb (Nat.le_trans hB h.size))
/-- What Cut tells of a text: how many rows, the fault. -/
def RC (w : World) (n : Nat) (x y : Int) (e : Ending) (w' : World) : Prop := ∃ ad cap, e = .returned (.tuple #[.slice ad n cap, .agg #[.int .i64 x, .int .i64 y]]) ∧ Below w.heap.size w w'
theorem cut_rc {s : List UInt8} {rows : List (List Tok)} {x y : Int} (h : cutOut s = (rows, x, y)) (n : Nat) (hn : n = rows.length) (hs : s.length ≤ maxLen) (w : World) : Calls Try.prog 5 #[.string (mk s)] w (RC w n x y) := by
  refine (Cut_any s w hs).mono ?_
  rintro e w' ⟨V, vs, h1, h2, h3⟩
  rw [h] at h1 h2
  obtain ⟨ad, cap, rfl⟩ := gridV h2
  subst hn
  exact ⟨ad, cap, h1, h3⟩
theorem long_facts : ∃ S Z Z1 : List UInt8, (∀ w, Calls Try.prog 9 #[.string ⟨#[97, 98, 32, 10]⟩, .int .i64 16384] w fun e w' => e = .returned (.string (mk S)) ∧ Below w.heap.size w w') ∧
    (∀ w, Calls Try.prog 9 #[.string ⟨#[0]⟩, .int .i64 65537] w fun e w' => e = .returned (.string (mk Z1)) ∧ Below w.heap.size w w') ∧
    (∀ w, Calls Try.prog 9 #[.string ⟨#[0]⟩, .int .i64 65536] w fun e w' => e = .returned (.string (mk Z)) ∧ Below w.heap.size w w') ∧
    (∀ w, Calls Try.prog 5 #[.string (mk S)] w (RC w 16384 0 0)) ∧
    (∀ w, Calls Try.prog 5 #[.string (mk (S ++ [32]))] w (RC w 0 3 (-1))) ∧
    (∀ w, Calls Try.prog 5 #[.string (mk Z1)] w (RC w 0 3 (-1))) ∧
    (∀ w, Calls Try.prog 5 #[.string (mk Z)] w (RC w 0 240 0)) ∧ S.length = 65536 := by
  obtain ⟨n, hn⟩ : ∃ n : Nat, n = 16384 := ⟨_, rfl⟩
  obtain ⟨m, hm⟩ : ∃ m : Nat, m = 65536 := ⟨_, rfl⟩
  have hni : (16384 : Int) = (n : Int) := by omega
  have hmi : (65536 : Int) = (m : Int) := by omega
  have hmi1 : (65537 : Int) = ((m + 1 : Nat) : Int) := by omega
  have hS : (Lib.repeatL [97, 98, 32, 10] n).length = 65536 := by rw [Lib.repeatL_length]; simp; omega
  refine ⟨Lib.repeatL [97, 98, 32, 10] n, Lib.repeatL [0] m, Lib.repeatL [0] (m + 1), fun w => ?_, fun w => ?_, fun w => ?_, fun w => ?_, fun w => ?_, fun w => ?_, fun w => ?_, hS⟩
  · rw [hni]
    exact Try.strings_Repeat ⟨#[97, 98, 32, 10]⟩ n w (by omega) (by show 4 * n ≤ _; omega)
  · rw [hmi1]
    exact Try.strings_Repeat ⟨#[0]⟩ (m + 1) w (by omega) (by show 1 * (m + 1) ≤ _; omega)
  · rw [hmi]
    exact Try.strings_Repeat ⟨#[0]⟩ m w (by omega) (by show 1 * m ≤ _; omega)
  · exact cut_rc (long_one n (by omega)) 16384 (by rw [List.length_mapIdx, List.length_replicate]; omega) (by unfold maxLen; omega) w
  · exact cut_rc (long_over (by rw [List.length_append, hS]; simp)) 0 rfl (by unfold maxLen; rw [List.length_append, hS]; simp) w
  · exact cut_rc (long_over (by rw [Lib.repeatL_length]; simp; omega)) 0 rfl (by unfold maxLen; rw [Lib.repeatL_length]; simp; omega) w
  · exact cut_rc (long_zero m (by omega) (by omega)) 0 rfl (by unfold maxLen; rw [Lib.repeatL_length]; simp; omega) w

set_option maxRecDepth 100000 in
set_option maxHeartbeats 400000 in
theorem TokensLong_true (w : World) : Calls Try.prog 4 #[] w fun e w' => e = .returned (.bool true) ∧ Below w.heap.size w w' := by
  obtain ⟨S, Z, Z1, hRS, hRZ1, hRZ, hC1, hC2, hC3, hC4, hSl⟩ := long_facts
  have happ : mk S ++ ⟨#[32]⟩ = mk (S ++ [32]) := by
    rw [← mk_of (mk S ++ ⟨#[32]⟩)]
    congr 1
  have hsz : (mk S).size = 65536 := hSl
  have H1 := hid hRS
  have H2 := hid hRZ1
  have H3 := hid hRZ
  have K1 := hid hC1
  have K2 := hid hC2
  have K3 := hid hC3
  have K4 := hid hC4
  rw [← happ] at K2
  clear hRS hRZ1 hRZ hC1 hC2 hC3 hC4 happ hSl
  generalize mk S = s at *
  generalize mk Z = z at *
  generalize mk Z1 = z1 at *
  go_enter Try.func4, Try.ntmps4
  go_wp2_with (first | (go_at_call 9; with_reducible refine (H1.out _).mono ?_; rintro e w1 ⟨rfl, hb1⟩) | (go_at_call 5; with_reducible refine (K1.out _).mono ?_))
  rintro e w2 ⟨a1, c1, rfl, hb2⟩
  have hf1 := FaultAt.new w2 0 0
  go_wp2_with (go_at_call 5; with_reducible refine (K2.out _).mono ?_)
  rintro e w3 ⟨a2, c2, rfl, hb3⟩
  have B1 := (below_step (below_step (Below.refl w.heap.size w) hb1) hb2).alloc (below_step (below_step (Below.refl w.heap.size w) hb1) hb2).size (.cells #[.int .i64 0, .int .i64 0] 25)
  have B2 := below_step B1 hb3
  have B3 := B2.alloc B2.size (.cells #[.int .i64 3, .int .i64 (-1)] 25)
  have hf2 := (hf1.step hb3).alloc (.cells #[.int .i64 3, .int .i64 (-1)] 25)
  have hg2 := FaultAt.new w3 3 (-1)
  clear hf1 hb1 hb2 hb3 B1 B2
  go_wp2_with (first | (go_at_call 9; with_reducible refine (H2.out _).mono ?_; rintro e w4 ⟨rfl, hb4⟩) | (go_at_call 5; with_reducible refine (K3.out _).mono ?_))
  rintro e w5 ⟨a3, c3, rfl, hb5⟩
  have B4 := below_step (below_step B3 hb4) hb5
  have B5 := B4.alloc B4.size (.cells #[.int .i64 3, .int .i64 (-1)] 25)
  have hf3 := ((hf2.step hb4).step hb5).alloc (.cells #[.int .i64 3, .int .i64 (-1)] 25)
  have hg3 := ((hg2.step hb4).step hb5).alloc (.cells #[.int .i64 3, .int .i64 (-1)] 25)
  have hh3 := FaultAt.new w5 3 (-1)
  clear hf2 hg2 hb4 hb5 B3 B4
  go_wp2_with (first | (go_at_call 9; with_reducible refine (H3.out _).mono ?_; rintro e w6 ⟨rfl, hb6⟩) | (go_at_call 5; with_reducible refine (K4.out _).mono ?_))
  rintro e w7 ⟨a4, c4, rfl, hb7⟩
  have B6 := below_step (below_step B5 hb6) hb7
  have B7 := B6.alloc B6.size (.cells #[.int .i64 240, .int .i64 0] 25)
  have B8 := B7.alloc B7.size (.cells #[.int .i64 3, .int .i64 (-1)] 25)
  have hf4 := (((hf3.step hb6).step hb7).alloc (.cells #[.int .i64 240, .int .i64 0] 25)).alloc (.cells #[.int .i64 3, .int .i64 (-1)] 25)
  have hg4 := (((hg3.step hb6).step hb7).alloc (.cells #[.int .i64 240, .int .i64 0] 25)).alloc (.cells #[.int .i64 3, .int .i64 (-1)] 25)
  have hh4 := (((hh3.step hb6).step hb7).alloc (.cells #[.int .i64 240, .int .i64 0] 25)).alloc (.cells #[.int .i64 3, .int .i64 (-1)] 25)
  have hi4 := (FaultAt.new w7 240 0).alloc (.cells #[.int .i64 3, .int .i64 (-1)] 25)
  have hj4 := FaultAt.new (w7.alloc (.cells #[.int .i64 240, .int .i64 0] 25)) 3 (-1)
  rw [World.size_alloc] at hj4
  clear hf3 hg3 hh3 hb6 hb7 B5 B6 B7
  go_wp2_with (go_at_call 8; with_reducible refine (lives_any _).mono ?_; rintro e w8 ⟨rfl, hb8⟩; have x0 := (hf4.step hb8).c0; have x1 := (hf4.step hb8).c1; have x2 := (hg4.step hb8).c0; have x3 := (hg4.step hb8).c1; have x4 := (hh4.step hb8).c0; have x5 := (hh4.step hb8).c1; have x6 := (hi4.step hb8).c0; have x7 := (hi4.step hb8).c1; have x8 := (hj4.step hb8).c0; have x9 := (hj4.step hb8).c1; clear hf4 hg4 hh4 hi4 hj4)
  go_ret
  exact ⟨rfl, below_step B8 hb8⟩
end Go.Proofs.Ytkjklnnjaiggdaa
