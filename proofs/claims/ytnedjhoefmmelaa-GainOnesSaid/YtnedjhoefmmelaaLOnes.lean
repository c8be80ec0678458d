/- GainOnes: the walk: the statement's function returns true and leaves what was there. Condition: words have 64 bits. -/
import Derived.Test.YtnedjhoefmmelaaLives
import Derived.Test.YtnedjhoefmmelaaOctLaw
namespace Go.Proofs.Ytnedjhoefmmelaa
open Go.RowKit

theorem ones_lag {a b lx ly : Nat} (ha : IsW a) (hb : IsW b) (h1 : val lx = lagG (cv a b) (angP (cv a b))) (h2 : val ly = lagG (cv a (negB b)) (angP (cv a (negB b)))) :
    (angE (cv a b) == 0) = false ∨ ((angE (cv a b) == 0) = true ∧ feq (val lx) (val (negB ly)) = true) ∨
    ((angE (cv a b) == 0) = true ∧ feq (val lx) (val (negB ly)) = false ∧ feq (val b) (val 0) = true ∧ flt (val a) (val 0) = true) := by
  by_cases h : angE (cv a b) = 0
  · right
    have hc : cv a (negB b) = cconj (cv a b) := by simp [cv, cconj, val_neg]
    rw [h1, val_neg, h2, hc]
    rcases lag_conj ha hb h with h3 | ⟨h3, h4⟩
    · left; exact ⟨by simpa using h, h3⟩
    · cases hq : feq (lagG (cv a b) (angP (cv a b))) (fneg (lagG (cconj (cv a b)) (angP (cconj (cv a b)))))
      · right; exact ⟨by simpa using h, rfl, h3, h4⟩
      · left; exact ⟨by simpa using h, rfl⟩
  · left
    simpa using h
theorem ones_oct {x y : Nat} (hw : IsW x) (hyw : IsW y) (hy : val y = fmul (val 4611686018427387904) (val x)) {i j m k : Int} (hi : i = aboveE (val x)) (hj : j = aboveE (val y)) (hk : k = octM x) (hm : m = octM y) :
    ((i != 0) = true ∧ (j != 0) = true) ∨ ((i != 0) = false ∧ (j != 0) = true ∧ (j == 5) = true) ∨
    ((i != 0) = false ∧ (j != 0) = false ∧ m = k + 1 ∧ -1074 ≤ k ∧ k ≤ 1023 ∧ ∀ l, val l = ldV k → fle (val l) (val x) = true ∧ ∀ t, val t = fmul (val 4611686018427387904) (val l) → flt (val x) (val t) = true) := by
  obtain ⟨h1, h2⟩ := oct_errors hw hy
  rw [← hi, ← hj] at h1 h2
  by_cases h3 : i = 0
  · rcases h2 h3 with h4 | h4
    · right; right
      have hK : ∃ l t, val l = ldV (octM x) ∧ val t = fmul (val 4611686018427387904) (val l) := by
        obtain ⟨hf, hx0, hx, hs⟩ := above_pos hw (by rw [← hi]; exact h3)
        obtain ⟨K, hK, hKb, _, _⟩ := octK_spec hx0 hx
        have hox : octM x = (K : Int) - 1074 := by rw [octM, if_pos (by rw [← hi]; exact h3), hK]
        obtain ⟨l', hl', _, _, _, hlf, _⟩ := ldV_spec hKb
        refine ⟨l', ?_⟩
        rw [hox, hl', hlf.val]
        rcases fop_w .mul (val 4611686018427387904) (some l') with h | ⟨t, ht, _⟩
        · exact ⟨9221120237041090561, rfl, by rw [show val 9221120237041090561 = none from by decide +kernel]; exact h.symm⟩
        · exact ⟨t, rfl, ht.symm⟩
      have hall := fun l t hl ht => oct_holds (l := l) (t := t) hw hyw hy (by rw [← hi]; exact h3) (by rw [← hj]; exact h4) hl ht
      obtain ⟨l0, t0, hl0, ht0⟩ := hK
      obtain ⟨q1, _, _, q4, q5⟩ := hall l0 t0 hl0 ht0
      refine ⟨by simpa using h3, by simpa using h4, by rw [hm, hk]; exact q1, by omega, by omega, fun l hl => ⟨?_, fun t ht => ?_⟩⟩
      · rw [hk] at hl
        have hvl : val l = val l0 := by rw [hl, hl0]
        exact (hall l t0 hl (by rw [hvl]; exact ht0)).2.1
      · rw [hk] at hl
        exact (hall l t hl ht).2.2.1
    · right; left
      exact ⟨by simpa using h3, by simp [h4], by simp [h4]⟩
  · left
    exact ⟨by simpa using h3, by simpa using h1 h3⟩

set_option maxRecDepth 100000 in
set_option maxHeartbeats 4000000 in
theorem ones_walk (a b x : Nat) (w : World) (ha : IsW a) (hb : IsW b) (hx : IsW x) :
    Calls Try.prog 6 #[.agg #[.int .u64 a, .int .u64 b], .int .u64 x] w fun e w' => e = .returned (.bool true) ∧ Below w.heap.size w w' := by
  obtain ⟨n, g, hng, hOf⟩ : ∃ n g, Hid (n = 0 → g.1 = one) ∧ Hid (∀ w, Calls Try.prog 17 #[.complex .f64 a b, .complex .f64 a b] w (RetCE w g n)) :=
    ⟨_, _, fun h => of_self h, fun w => Of_any a b a b w⟩
  obtain ⟨m, g1, g2, hl1, hl2, hl3⟩ : ∃ m g1 g2, Hid (∀ lx ly, val lx = g1 → val ly = g2 → (m == 0) = false ∨ ((m == 0) = true ∧ feq (val lx) (val (negB ly)) = true) ∨ ((m == 0) = true ∧ feq (val lx) (val (negB ly)) = false ∧ feq (val b) (val 0) = true ∧ flt (val a) (val 0) = true)) ∧
      Hid (∀ w, Calls Try.prog 23 #[.complex .f64 a b] w (RetFE w g1 m)) ∧ Hid (∀ w, Calls Try.prog 23 #[.complex .f64 a (negB b)] w (RetFE w g2 m)) :=
    ⟨_, _, _, fun lx ly h1 h2 => ones_lag ha hb h1 h2, fun w => Lag_any a b w, fun w => by
      have h := Lag_any a (negB b) w
      have e : angE (cv a (negB b)) = angE (cv a b) := by
        rw [show cv a (negB b) = cconj (cv a b) from by simp [cv, cconj, val_neg]]
        exact angE_conj ha hb
      rw [e] at h
      exact h⟩
  obtain ⟨k, i, hk, hi, hO1⟩ : ∃ k i, Hid (k = octM x) ∧ Hid (i = aboveE (val x)) ∧ Hid (∀ w, Calls Try.prog 29 #[.float .f64 x] w fun e w' => e = .returned (.tuple #[.int .i64 k, .int .i64 i]) ∧ Dr w w') :=
    ⟨_, _, rfl, rfl, fun w => Octave_any x w hx⟩
  go_enter Try.func6, Try.ntmps6
  go_wp2_with fail
  refine (Number_any _ _ _).mono ?_
  rintro e w1 ⟨rfl, hb1⟩
  have B1 := hid (((Below.refl w.heap.size w).alloc (Nat.le_refl _) _).trans (hb1.mono (by simp)))
  clear hb1
  go_wp2_with fail
  refine (hOf.out _).mono ?_
  rintro e w' ⟨gx, gy, rfl, ⟨n1, rfl⟩, hr, _, _⟩
  have hc : (n == 0) = false ∨ ((n == 0) = true ∧ feq (val gx) (val 4607182418800017408) = true) := by
    by_cases h : n = 0
    · right
      refine ⟨by simpa using h, ?_⟩
      have h1 := hng.out h
      rw [← hr] at h1
      show feq (cv gx gy).1 _ = true
      rw [h1]
      decide +kernel
    · left; simpa using h
  clear hr
  have B2 := hid (below_drewN' B1.out n1)
  clear B1 hng
  rcases hc with hc | ⟨hc, hq⟩
  all_goals
    go_wp2_with fail
    refine (lives_any _).mono ?_
    rintro e w3 ⟨rfl, hb3⟩
    have B3 := hid (B2.out.trans (hb3.mono B2.out.size))
    clear hb3 B2 hc
    try clear hq
    go_wp2_with fail
    refine (hl2.out _).mono ?_
    rintro e w' ⟨lx, rfl, ⟨n2, rfl⟩, hr2, _⟩
    go_wp2_with (go_at_call 28; refine (Conj_any _ _ _ hb).mono ?_; rintro e w' ⟨rfl, rfl⟩)
    refine (hl3.out _).mono ?_
    rintro e w' ⟨ly, rfl, ⟨n3, rfl⟩, hr3, _⟩
    have hm := hl1.out lx ly hr2 hr3
    clear hr2 hr3 hl1 hl2 hl3
    rcases hm with hm | ⟨hm, hq⟩ | ⟨hm, hq, hq2, hq3⟩
    all_goals
      go_wp2_with fail
      refine (hO1.out _).mono ?_
      rintro e w' ⟨rfl, n4, rfl⟩
      clear hm
      try clear hq
      try clear hq2 hq3
      go_wp2_with (first | ((with_reducible refine upon_fadd ?_); intro r n hr hl) | ((with_reducible refine upon_fsub ?_); intro r n hr hl) | ((with_reducible refine upon_fmul ?_); intro r n hr hl) | ((with_reducible refine upon_fdiv ?_); intro r n hr hl) | ((with_reducible refine upon_fmax (by assumption) (by assumption) ?_); intro r n hr hl) | ((with_reducible refine upon_fmin (by assumption) (by assumption) ?_); intro r n hr hl))
      obtain ⟨mm, hmm⟩ : ∃ mm, mm = octM r := ⟨_, rfl⟩
      obtain ⟨j, hj⟩ : ∃ j, j = aboveE (val r) := ⟨_, rfl⟩
      have hO2 : ∀ w, Calls Try.prog 29 #[.float .f64 r] w fun e w' => e = .returned (.tuple #[.int .i64 mm, .int .i64 j]) ∧ Dr w w' := fun w => by
        have h := Octave_any r w hl
        rw [← hmm, ← hj] at h
        exact h
      have hcase := ones_oct hx hl hr hi.out hj hk.out hmm
      clear hmm hj hr
      refine (hO2 _).mono ?_
      rintro e w' ⟨rfl, n5, rfl⟩
      clear hO2
      rcases hcase with ⟨c1, c2⟩ | ⟨c1, c2, c3⟩ | ⟨c1, c2, c3, c4, c5, c6⟩
      · go_wp2_with fail
        go_ret
        exact ⟨rfl, below_drewN' B3.out _⟩
      · go_wp2_with fail
        go_ret
        exact ⟨rfl, below_drewN' B3.out _⟩
      · subst c3
        have C6 := hid c6
        clear c6
        go_wp2_with fail
        refine (Ldexp_one k _ c4 c5).mono ?_
        rintro e w' ⟨lo, rfl, ⟨n6, rfl⟩, hlo, _⟩
        obtain ⟨d1, d2⟩ := C6.out lo hlo
        have D2 := hid d2
        clear d2 hlo C6
        go_wp2_with (first | (((with_reducible refine upon_fmul ?_); intro t n7 ht ht2); have d3 := D2.out t ht; clear ht))
        go_ret
        exact ⟨rfl, below_drewN' B3.out _⟩
end Go.Proofs.Ytnedjhoefmmelaa
