/- GainNames, walked. Condition: the tables lie there. -/
import Derived.Test.YtfalbdlfopfgcaaGreatDoorWq
import Derived.Deep.CutRange
namespace Go.Proofs.YtfalbdlfopfgcaaGreatDoor
open Go.RowKit

theorem cs_1 (w : World) : Calls Tryz.prog 21 #[.float .f64 0, .float .f64 13830554455654793216] w fun e w' => e = .returned (.float .f64 9223372036854775808) ∧ w' = w := by
  have h1 : bits .andNot .u64 0 9223372036854775808 = 0 := by decide +kernel
  have h2 : bits .and .u64 13830554455654793216 9223372036854775808 = 9223372036854775808 := by decide +kernel
  have h3 : bits .or .u64 0 9223372036854775808 = 9223372036854775808 := by decide +kernel
  go_enter Tryz.func21, Tryz.ntmps21
  go_wp2
  go_ret
  exact ⟨rfl, rfl⟩
theorem gof_c (w : World) : Calls Tryz.prog 20 #[.complex .f64 4607182418800017408 0, .complex .f64 0 9223372036854775808] w fun e w' => ∃ x y, e = .returned (.tuple #[.complex .f64 x y, .int .i64 7]) ∧ Dr w w' := by
  have h := Of_any 4607182418800017408 0 0 9223372036854775808 w
  rw [show ofE (cv 4607182418800017408 0) (cv 0 9223372036854775808) = 7 by decide +kernel] at h
  exact h.mono fun e w' ⟨x, y, h1, h2, _⟩ => ⟨x, y, h1, h2⟩
theorem gsize_c (w : World) : Calls Tryz.prog 22 #[.complex .f64 4613937818241073152 4616189618054758400] w fun e w' => e = .returned (.tuple #[.float .f64 4617315517961601024, .int .i64 0]) ∧ Dr w w' := by
  have h := Size_any 4613937818241073152 4616189618054758400 w
  rw [show szE (cv 4613937818241073152 4616189618054758400) (absP (cv 4613937818241073152 4616189618054758400)) = 0 by decide +kernel, show szG (cv 4613937818241073152 4616189618054758400) (absP (cv 4613937818241073152 4616189618054758400)) = some 4617315517961601024 by decide +kernel] at h
  exact h.mono fun e w' ⟨x, h1, h2, h3, _⟩ => ⟨by rw [h1, val_inj h3], h2⟩
theorem gpow_c (w : World) : Calls Tryz.prog 23 #[.complex .f64 4613937818241073152 4616189618054758400] w fun e w' => e = .returned (.tuple #[.float .f64 4627730092099895296, .int .i64 0]) ∧ Dr w w' := by
  have h := Power_any 4613937818241073152 4616189618054758400 w
  rw [show szE (cv 4613937818241073152 4616189618054758400) (size2 (cv 4613937818241073152 4616189618054758400)) = 0 by decide +kernel, show szG (cv 4613937818241073152 4616189618054758400) (size2 (cv 4613937818241073152 4616189618054758400)) = some 4627730092099895296 by decide +kernel] at h
  exact h.mono fun e w' ⟨x, h1, h2, h3, _⟩ => ⟨by rw [h1, val_inj h3], h2⟩
theorem glag_c (w : World) : Calls Tryz.prog 24 #[.complex .f64 0 4607182418800017408] w fun e w' => e = .returned (.tuple #[.float .f64 13841813454723219456, .int .i64 0]) ∧ Dr w w' := by
  have h := Lag_any 0 4607182418800017408 w
  rw [show angE (cv 0 4607182418800017408) = 0 by decide +kernel, show lagG (cv 0 4607182418800017408) (angP (cv 0 4607182418800017408)) = some 13841813454723219456 by decide +kernel] at h
  exact h.mono fun e w' ⟨x, h1, h2, h3, _⟩ => ⟨by rw [h1, val_inj h3], h2⟩
/-- Half of a row: the error, and how many places. -/
theorem ghalf_c (l : List Nat) (hw : ∀ b ∈ l, IsW b) (hl : l.length ≤ 5000) (n : Int) (hE : halfE (l.map val) = n) (k : Nat) (hL : (halfL (l.map val)).length = k) (v : Value) (w : World) (hs : Sl w v (l.map F)) : Calls Tryz.prog 25 #[v] w fun e w' => ∃ a c, e = .returned (.tuple #[.slice a k c, .int .i64 n]) ∧ Below w.heap.size w w' := by
  refine (Half_any l v w (by omega) hw hs).mono ?_
  rintro e w' ⟨u, rfl, hown, hb⟩
  obtain ⟨a, c, rfl⟩ := own_sl hown
  rw [List.length_map, hL, hE]
  exact ⟨a, c, rfl, hb⟩
theorem all_rep {α : Type} (f : α → Bool) (x : α) (h : f x = true) : ∀ n, (List.replicate n x).all f = true
  | 0 => rfl
  | n + 1 => by rw [List.replicate_succ, List.all_cons, h, all_rep f x h n]; rfl
theorem any_rep {α : Type} (f : α → Bool) (x : α) (h : f x = false) : ∀ n, (List.replicate n x).any f = false
  | 0 => rfl
  | n + 1 => by rw [List.replicate_succ, List.any_cons, h, any_rep f x h n]; rfl
theorem half_long (n : Nat) (h : 4096 < n) : halfE ((List.replicate n 0).map val) = 3 := by
  unfold halfE
  rw [if_pos (by rw [List.length_map, List.length_replicate]; exact h)]
theorem half_zero (n : Nat) (h : n ≤ 4096) : halfE ((List.replicate n 0).map val) = 0 := by
  unfold halfE
  rw [if_neg (by rw [List.length_map, List.length_replicate]; omega), List.map_replicate, all_rep fin (val 0) (by decide +kernel), any_rep (fun x => flt x (val 0)) (val 0) (by decide +kernel)]
  rfl
/-- A real's octave, its decade, as the statement asks. -/
def octK9 (x : Nat) : Int := if aboveE (val x) = 0 then octM x else 9999
def decK9 (x : Nat) : Int := if aboveE (val x) = 0 then decF (val x) else 9999
set_option maxRecDepth 100000 in
theorem octave_c (x : Nat) (hx : IsW x) (k : Int) (hk : octK9 x = k) (w : World) : Calls Tryz.prog 26 #[.float .f64 x] w fun e w' => e = .returned (.int .i64 k) ∧ Dr w w' := by
  have HO := hid fun w => Octave_any x w hx
  unfold octK9 at hk
  obtain ⟨E, hE⟩ : ∃ E, E = aboveE (val x) := ⟨_, rfl⟩
  obtain ⟨M, hM⟩ : ∃ M, M = octM x := ⟨_, rfl⟩
  rw [← hE, ← hM] at HO
  rw [← hE, ← hM] at hk
  clear hE hM
  by_cases h : E = 0
  · rw [if_pos h] at hk
    subst h hk
    go_enter Tryz.func26, Tryz.ntmps26
    go_wp2_with (go_at_call 13; (with_reducible refine (HO.out _).mono ?_); rintro E1 w1 ⟨rfl, n1, rfl⟩)
    go_ret
    exact ⟨rfl, (by repeat (first | with_reducible exact Dr.refl _ | with_reducible refine Dr.more ?_ _))⟩
  · rw [if_neg h] at hk
    subst hk
    have g : (E != 0) = true := by simp [h]
    clear h
    go_enter Tryz.func26, Tryz.ntmps26
    go_wp2_with (go_at_call 13; (with_reducible refine (HO.out _).mono ?_); rintro E1 w1 ⟨rfl, n1, rfl⟩)
    go_ret
    exact ⟨rfl, (by repeat (first | with_reducible exact Dr.refl _ | with_reducible refine Dr.more ?_ _))⟩
set_option maxRecDepth 100000 in
theorem decade_c (x : Nat) (k : Int) (hk : decK9 x = k) (w : World) (tb : Tabs w) (ti : Lib.TabIs Tryz.prog w "internal/strconv.uint64pow10" .u64 Lib.pow10Tab) : Calls Tryz.prog 27 #[.float .f64 x] w fun e w' => e = .returned (.int .i64 k) ∧ Below w.heap.size w w' := by
  have HO := hid (Decade_any x w tb ti)
  unfold decK9 at hk
  obtain ⟨E, hE⟩ : ∃ E, E = aboveE (val x) := ⟨_, rfl⟩
  obtain ⟨M, hM⟩ : ∃ M, M = decF (val x) := ⟨_, rfl⟩
  rw [← hE, ← hM] at HO
  rw [← hE, ← hM] at hk
  clear hE hM tb ti
  by_cases h : E = 0
  · rw [if_pos h] at hk
    subst h hk
    go_enter Tryz.func27, Tryz.ntmps27
    go_wp2_with (go_at_call 15; (with_reducible refine HO.out.mono ?_); rintro E1 w1 ⟨rfl, hb1⟩)
    go_ret
    exact ⟨rfl, hb1⟩
  · rw [if_neg h] at hk
    subst hk
    have g : (E != 0) = true := by simp [h]
    clear h
    go_enter Tryz.func27, Tryz.ntmps27
    go_wp2_with (go_at_call 15; (with_reducible refine HO.out.mono ?_); rintro E1 w1 ⟨rfl, hb1⟩)
    go_ret
    exact ⟨rfl, hb1⟩
theorem oct_vals : octK9 4607182418800017408 = 0 ∧ octK9 4602678819172646912 = -1 ∧ octK9 1 = -1074 ∧ octK9 0 = 9999 ∧ octK9 9218868437227405311 = 1023 := by decide +kernel
set_option maxRecDepth 100000 in
theorem dec_vals : decK9 4607182418800017408 = 0 ∧ decK9 4651998512748167168 = 2 ∧ decK9 4591870180066957722 = -1 ∧ decK9 9214871658872686752 = 308 ∧ decK9 1 = -324 ∧ decK9 2 = -323 := by decide +kernel
/-- The world with a row of n zeros more. -/
@[irreducible] def mk64 (n : Nat) (w : World) : World := w.alloc (.cells (Array.replicate n (Value.float .f64 0)) 29)
theorem made_f64 (n : Nat) (hn : n ≤ 1000000) (w : World) : (Instr.makeSlice 52 (.int .i64 n) (.int .i64 n)).run Tryz.prog w = .ok (.slice (some ⟨w.heap.size, 0, none⟩) n n) (mk64 n w) := by
  have h := run_make_row' (P := Tryz.prog) 52 29 (.float .f64 0) 8 Tryz.underlying52 info_f64 rfl .i64 .i64 n (by omega) (by omega) w
  have e : (Array.replicate n (Value.float .f64 0)) = madeCells #[.float .f64 0] n := by
    apply Array.ext'
    rw [toList_madeCells_one]
    simp
  unfold mk64
  rw [e]
  exact h
@[go_sem high] theorem made_97 (w : World) : (Instr.makeSlice 52 (.int .i64 4097) (.int .i64 4097)).run Tryz.prog w = .ok (.slice (some ⟨w.heap.size, 0, none⟩) 4097 4097) (mk64 4097 w) := made_f64 4097 (by omega) w
@[go_sem high] theorem made_96 (w : World) : (Instr.makeSlice 52 (.int .i64 4096) (.int .i64 4096)).run Tryz.prog w = .ok (.slice (some ⟨w.heap.size, 0, none⟩) 4096 4096) (mk64 4096 w) := made_f64 4096 (by omega) w
theorem sl_mk64 (n : Nat) (w : World) : Sl (mk64 n w) (.slice (some ⟨w.heap.size, 0, none⟩) n n) ((List.replicate n 0).map F) := by
  have h := Sl_lit w 29 (List.replicate n (F 0))
  rw [List.length_replicate] at h
  unfold mk64
  rw [List.map_replicate]
  have e : (Array.replicate n (Value.float .f64 0)) = (List.replicate n (F 0)).toArray := by
    apply Array.ext'
    simp [F]
  rw [e]
  exact h
theorem below_mk64 (n : Nat) (w : World) : Below w.heap.size w (mk64 n w) := by
  unfold mk64
  exact (Below.refl _ w).alloc (Nat.le_refl _) _
theorem half_0 (w : World) : Calls Tryz.prog 25 #[.slice none 0 0] w fun e w' => ∃ a c, e = .returned (.tuple #[.slice a 0 c, .int .i64 0]) ∧ Below w.heap.size w w' := by
  refine ghalf_c [] (by simp) (by simp) 0 (by decide +kernel) 0 (by decide +kernel) _ w ?_
  exact ⟨none, 0, rfl, fun h => absurd rfl h, fun _ => rfl, Nat.le_refl _⟩
theorem half_2 (w : World) : Calls Tryz.prog 25 #[.slice (some ⟨w.heap.size, 0, none⟩) 2 2] (w.alloc (.cells #[.float .f64 0, .float .f64 0] 29)) fun e w' => ∃ a c, e = .returned (.tuple #[.slice a 0 c, .int .i64 0]) ∧ Below w.heap.size w w' := by
  refine (ghalf_c [0, 0] (by unfold IsW; decide) (by decide) 0 (by decide +kernel) 0 (by decide +kernel) _ _ (by exact Sl_lit w 29 ([0, 0].map F))).mono ?_
  rintro e w' ⟨a, c, rfl, hb⟩
  exact ⟨a, c, rfl, bl2 (bla _ (Below.refl _ _)) hb⟩
theorem half_1 (w : World) : Calls Tryz.prog 25 #[.slice (some ⟨w.heap.size, 0, none⟩) 1 1] (w.alloc (.cells #[.float .f64 13830554455654793216] 29)) fun e w' => ∃ a c, e = .returned (.tuple #[.slice a 0 c, .int .i64 2]) ∧ Below w.heap.size w w' := by
  refine (ghalf_c [13830554455654793216] (by unfold IsW; decide) (by decide) 2 (by decide +kernel) 0 (by decide +kernel) _ _ (by exact Sl_lit w 29 ([13830554455654793216].map F))).mono ?_
  rintro e w' ⟨a, c, rfl, hb⟩
  exact ⟨a, c, rfl, bl2 (bla _ (Below.refl _ _)) hb⟩
theorem isW_rep (n : Nat) : ∀ b ∈ List.replicate n 0, IsW b := by
  intro b hb
  rw [(List.mem_replicate.1 hb).2]
  exact isW_0
theorem half_n (n : Nat) (hn : n ≤ 5000) (q : Int) (hq : halfE ((List.replicate n 0).map val) = q) : ∃ k : Nat, ∀ w, Calls Tryz.prog 25 #[.slice (some ⟨w.heap.size, 0, none⟩) n n] (mk64 n w) fun e w' => ∃ a c, e = .returned (.tuple #[.slice a k c, .int .i64 q]) ∧ Below w.heap.size w w' := by
  refine ⟨(halfL ((List.replicate n 0).map val)).length, fun w => (ghalf_c (List.replicate n 0) (isW_rep n) (by rw [List.length_replicate]; exact hn) q hq _ rfl _ _ (sl_mk64 n w)).mono ?_⟩
  rintro e w' ⟨a, c, rfl, hb⟩
  exact ⟨a, c, rfl, bl2 (below_mk64 n w) hb⟩
theorem half_96 : ∃ k : Nat, ∀ w, Calls Tryz.prog 25 #[.slice (some ⟨w.heap.size, 0, none⟩) 4096 4096] (mk64 4096 w) fun e w' => ∃ a c, e = .returned (.tuple #[.slice a k c, .int .i64 0]) ∧ Below w.heap.size w w' :=
  half_n 4096 (by omega) 0 (half_zero 4096 (Nat.le_refl _))
theorem half_97 : ∃ k : Nat, ∀ w, Calls Tryz.prog 25 #[.slice (some ⟨w.heap.size, 0, none⟩) 4097 4097] (mk64 4097 w) fun e w' => ∃ a c, e = .returned (.tuple #[.slice a k c, .int .i64 3]) ∧ Below w.heap.size w w' :=
  half_n 4097 (by omega) 3 (half_long 4097 (by omega))
theorem octs_c (w : World) : Calls Tryz.prog 17 #[.float .f64 4607182418800017408, .float .f64 4620693217682128896] w fun e w' => e = .returned (.tuple #[.int .i64 3, .int .i64 0]) ∧ Dr w w' := by
  have h := Octaves_any 4607182418800017408 4620693217682128896 w (by unfold IsW; omega) (by unfold IsW; omega)
  rw [show octsM 4607182418800017408 4620693217682128896 = 3 by decide +kernel, show octsE 4607182418800017408 4620693217682128896 = 0 by decide +kernel] at h
  exact h
set_option maxRecDepth 100000 in
set_option maxHeartbeats 4000000 in
theorem names_walk (W : World) (tb : Tabs W) (ti : Lib.TabIs Tryz.prog W "internal/strconv.uint64pow10" .u64 Lib.pow10Tab) : Calls Tryz.prog 5 #[] W fun e w' => e = .returned (.bool true) ∧ Below W.heap.size W w' := by
  have hq1 : feq (val 4617315517961601024) (val 4617315517961601024) = true := by decide +kernel
  have hq2 : feq (val 4627730092099895296) (val 4627730092099895296) = true := by decide +kernel
  have hq3 : feq (val 13841813454723219456) (val 13841813454723219456) = true := by decide +kernel
  obtain ⟨k6, h96⟩ := half_96
  obtain ⟨k7, h97⟩ := half_97
  have H96 := hid h96
  have H97 := hid h97
  clear h96 h97
  obtain ⟨o1, o2, o3, o4, o5⟩ := oct_vals
  obtain ⟨d1, d2, d3, d4, d5, d6⟩ := dec_vals
  have O1 := hid (octave_c _ (by unfold IsW; omega) _ o1)
  have O2 := hid (octave_c _ (by unfold IsW; omega) _ o2)
  have O3 := hid (octave_c _ (by unfold IsW; omega) _ o3)
  have O4 := hid (octave_c _ (by unfold IsW; omega) _ o4)
  have O5 := hid (octave_c _ (by unfold IsW; omega) _ o5)
  have D1 := hid fun w (h : Below W.heap.size W w) => decade_c _ _ d1 w (tb.below h) (tabIs_below ti h)
  have D2 := hid fun w (h : Below W.heap.size W w) => decade_c _ _ d2 w (tb.below h) (tabIs_below ti h)
  have D3 := hid fun w (h : Below W.heap.size W w) => decade_c _ _ d3 w (tb.below h) (tabIs_below ti h)
  have D4 := hid fun w (h : Below W.heap.size W w) => decade_c _ _ d4 w (tb.below h) (tabIs_below ti h)
  have D5 := hid fun w (h : Below W.heap.size W w) => decade_c _ _ d5 w (tb.below h) (tabIs_below ti h)
  have D6 := hid fun w (h : Below W.heap.size W w) => decade_c _ _ d6 w (tb.below h) (tabIs_below ti h)
  clear o1 o2 o3 o4 o5 d1 d2 d3 d4 d5 d6 tb ti
  go_enter Tryz.func5, Tryz.ntmps5
  go_wp2_with (first
    | (go_at_call 21; (with_reducible refine (cs_1 _).mono ?_); rintro E1 w1 ⟨rfl, rfl⟩)
    | (go_at_call 20; (with_reducible refine (gof_c _).mono ?_); rintro E2 w2 ⟨ox, oy, rfl, n2, rfl⟩)
    | (go_at_call 22; (with_reducible refine (gsize_c _).mono ?_); rintro E3 w3 ⟨rfl, n3, rfl⟩)
    | (go_at_call 23; (with_reducible refine (gpow_c _).mono ?_); rintro E4 w4 ⟨rfl, n4, rfl⟩)
    | (go_at_call 24; (with_reducible refine (glag_c _).mono ?_); rintro E5 w5 ⟨rfl, n5, rfl⟩)
    | (go_at_call 25; first
       | ((with_reducible refine (half_0 _).mono ?_); rintro E6 w6 ⟨a6, c6, rfl, hb6⟩)
       | ((with_reducible refine (half_2 _).mono ?_); rintro E7 w7 ⟨a7, c7, rfl, hb7⟩)
       | ((with_reducible refine (half_1 _).mono ?_); rintro E8 w8 ⟨a8, c8, rfl, hb8⟩)
       | ((with_reducible refine (H97.out _).mono ?_); rintro E9 w9 ⟨a9, c9, rfl, hb9⟩)
       | ((with_reducible refine (H96.out _).mono ?_); rintro E10 w10 ⟨a10, c10, rfl, hb10⟩))
    | (go_at_call 17; (with_reducible refine (octs_c _).mono ?_); rintro E11 w11 ⟨rfl, n11, rfl⟩)
    | (go_at_call 26; first
       | ((with_reducible refine (O1.out _).mono ?_); rintro E12 w12 ⟨rfl, n12, rfl⟩)
       | ((with_reducible refine (O2.out _).mono ?_); rintro E13 w13 ⟨rfl, n13, rfl⟩)
       | ((with_reducible refine (O3.out _).mono ?_); rintro E14 w14 ⟨rfl, n14, rfl⟩)
       | ((with_reducible refine (O4.out _).mono ?_); rintro E15 w15 ⟨rfl, n15, rfl⟩)
       | ((with_reducible refine (O5.out _).mono ?_); rintro E16 w16 ⟨rfl, n16, rfl⟩))
    | (go_at_call 27; first
       | ((with_reducible refine (D1.out _ (by (repeat (first | with_reducible exact Below.refl _ _ | with_reducible refine bla _ ?_ | with_reducible refine bld ?_ | with_reducible refine bldn ?_ _ | (with_reducible refine bl2 ?_ (by assumption)))))).mono ?_); rintro E17 w17 ⟨rfl, hb17⟩)
       | ((with_reducible refine (D2.out _ (by (repeat (first | with_reducible exact Below.refl _ _ | with_reducible refine bla _ ?_ | with_reducible refine bld ?_ | with_reducible refine bldn ?_ _ | (with_reducible refine bl2 ?_ (by assumption)))))).mono ?_); rintro E18 w18 ⟨rfl, hb18⟩)
       | ((with_reducible refine (D3.out _ (by (repeat (first | with_reducible exact Below.refl _ _ | with_reducible refine bla _ ?_ | with_reducible refine bld ?_ | with_reducible refine bldn ?_ _ | (with_reducible refine bl2 ?_ (by assumption)))))).mono ?_); rintro E19 w19 ⟨rfl, hb19⟩)
       | ((with_reducible refine (D4.out _ (by (repeat (first | with_reducible exact Below.refl _ _ | with_reducible refine bla _ ?_ | with_reducible refine bld ?_ | with_reducible refine bldn ?_ _ | (with_reducible refine bl2 ?_ (by assumption)))))).mono ?_); rintro E20 w20 ⟨rfl, hb20⟩)
       | ((with_reducible refine (D5.out _ (by (repeat (first | with_reducible exact Below.refl _ _ | with_reducible refine bla _ ?_ | with_reducible refine bld ?_ | with_reducible refine bldn ?_ _ | (with_reducible refine bl2 ?_ (by assumption)))))).mono ?_); rintro E21 w21 ⟨rfl, hb21⟩)
       | ((with_reducible refine (D6.out _ (by (repeat (first | with_reducible exact Below.refl _ _ | with_reducible refine bla _ ?_ | with_reducible refine bld ?_ | with_reducible refine bldn ?_ _ | (with_reducible refine bl2 ?_ (by assumption)))))).mono ?_); rintro E22 w22 ⟨rfl, hb22⟩))
    | (go_at_call 19; (with_reducible refine (lives_any _).mono ?_); rintro E23 w23 ⟨rfl, hb23⟩))
  go_ret
  refine ⟨rfl, ?_⟩
  (repeat (first | with_reducible exact Below.refl _ _ | with_reducible refine bla _ ?_ | with_reducible refine bld ?_ | with_reducible refine bldn ?_ _ | (with_reducible refine bl2 ?_ (by assumption))))
end Go.Proofs.YtfalbdlfopfgcaaGreatDoor

