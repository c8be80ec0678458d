/- PolyNewton: the walk: the statement's function returns true and leaves what was there. Conditions: words have 64 bits. -/
import Derived.Test.YtjpimgdmlieinaaDoorKitN
import Derived.Test.YtjpimgdmlieinaaDoorRNew
import Derived.Test.YtjpimgdmlieinaaDoorLv29
namespace Go.Proofs.YtjpimgdmlieinaaDoor
open Go.RowKit

theorem csame_of {x y u v : Nat} {z : CV} (h1 : cv x y = z) (h2 : cv u v = z) : csame (cv x y) (cv u v) = true := by rw [h1, h2]; simp [csame, same]

theorem Sl.cap {w : World} {a : Option Addr} {n cap : Nat} {xs : List Value} (h : Sl w (.slice a n cap) xs) : n ≤ cap := by
  obtain ⟨a', c', e, _, _, hl⟩ := h
  cases e
  exact hl
set_option maxRecDepth 100000 in
set_option maxHeartbeats 8000000 in
theorem newton_walk (xs : List Z) (f1 f2 : Nat) (m : Int) (hxs : wfL xs) (hf1 : IsW f1) (hf2 : IsW f2) (vx : Value) (W : World) (hx : NsAt W vx xs) (hxn : xs.length * 16 ≤ 140737488351232) :
    Calls Tryd.prog 7 #[vx, .agg #[.int .u64 f1, .int .u64 f2], .int .i64 m] W fun e w' => e = .returned (.bool true) ∧ Below W.heap.size W w' := by
  have hx0 := hx
  obtain ⟨xa, xc, rfl, -⟩ := hx0
  have hb0 : Below W.heap.size W (W.alloc (.cells #[.int .u64 f1, .int .u64 f2] 56)) := (Below.refl _ W).alloc (Nat.le_refl _) _
  have hbx : (W.alloc (.cells #[.int .u64 f1, .int .u64 f2] 56)).heap[W.heap.size]? = some (.cells #[.int .u64 f1, .int .u64 f2] 56 (0, 0)) := by
    show (W.heap.push _)[W.heap.size]? = _
    simp
  go_enter Tryd.func7, Tryd.ntmps7
  have hcase : (40 < xs.length ∧ xs.length ≤ 256) ∨ (¬ 40 < xs.length ∧ 200 < m ∧ m ≤ 4096) ∨ (40 < xs.length ∧ ¬ xs.length ≤ 256 ∧ 200 < m ∧ m ≤ 4096) ∨ (¬ 40 < xs.length ∧ ¬ 200 < m) ∨ (¬ 40 < xs.length ∧ 200 < m ∧ ¬ m ≤ 4096) ∨ (40 < xs.length ∧ ¬ xs.length ≤ 256 ∧ ¬ 200 < m) ∨ (40 < xs.length ∧ ¬ xs.length ≤ 256 ∧ 200 < m ∧ ¬ m ≤ 4096) := by omega
  rcases hcase with ⟨q1, q2⟩ | ⟨q1, q3, q4⟩ | ⟨q1, q2, q3, q4⟩ | ⟨q1, q3⟩ | ⟨q1, q3, q4⟩ | ⟨q1, q2, q3⟩ | ⟨q1, q2, q3, q4⟩
  iterate 3
    first
      | (have g1 : (40 : Int) < (xs.length : Int) := by omega)
      | (have g1 : ¬ (40 : Int) < (xs.length : Int) := by omega)
    first
      | (have g2 : (xs.length : Int) ≤ 256 := by omega)
      | (have g2 : ¬ (xs.length : Int) ≤ 256 := by omega)
    clear q1
    (try clear q2)
    go_wp2_with (go_at_call 10; (with_reducible refine (lives_any _).mono ?_); rintro e w1 ⟨rfl, hb1⟩)
    go_ret
    exact ⟨rfl, hb0.trans (hb1.mono (by simp))⟩
  all_goals
    first
      | (have g1 : (40 : Int) < (xs.length : Int) := by omega)
      | (have g1 : ¬ (40 : Int) < (xs.length : Int) := by omega)
    first
      | (have g2 : (xs.length : Int) ≤ 256 := by omega)
      | (have g2 : ¬ (xs.length : Int) ≤ 256 := by omega)
    clear q1
    (try clear q2)
    go_wp2_with (go_at_call 10; (with_reducible refine (lives_any _).mono ?_); rintro e w1 ⟨rfl, hb1⟩)
    have b1 : Below W.heap.size W w1 := hb0.trans (hb1.mono (by simp))
    have bx1 := (hb1.block W.heap.size (by simp)).trans hbx
    clear hb1 hb0 hbx
    have k0 : w1.cell? ⟨W.heap.size, 0, none⟩ = some (.int .u64 f1) := by simp [World.cell?, bx1]
    have k1 : w1.cell? ⟨W.heap.size, 1, none⟩ = some (.int .u64 f2) := by simp [World.cell?, bx1]
    have hsz := b1.size
    have hwl : W.heap.size < w1.heap.size := (Array.getElem?_eq_some_iff.1 bx1).1
    have HNX := hid fun w (h : Below W.heap.size W w) => Numbers_any xs _ w hxn (hx.below h)
    go_cut [7, 8] from 34 to 37 (fun p z wx => z = .complex .f64 f1 f2 ∧ Sl wx p (xs.map C) ∧ Below W.heap.size W wx)
    case first =>
      go_region_held3 (fun w' => w'.cell? ⟨W.heap.size, 0, none⟩ = some (.int .u64 f1) ∧ w'.cell? ⟨W.heap.size, 1, none⟩ = some (.int .u64 f2)) (first | exact ⟨k0, k1⟩ | exact ⟨k2, k3⟩ | exact ⟨k6, k7⟩) (first | (go_at_call 24; (with_reducible refine (HNX.out _ ?hb).mono ?_); (case hb => exact below_drewN' b1 1); rintro e2 w2 ⟨v2, rfl, own2, hb2⟩; have k2 := (hb2.cell (p := ⟨W.heap.size, 0, none⟩) hwl).trans k0; have k3 := (hb2.cell (p := ⟨W.heap.size, 1, none⟩) hwl).trans k1; have b2 : Below W.heap.size W w2 := (below_drewN' b1 1).trans (hb2.mono hsz); have hw2 : W.heap.size < w2.heap.size := Nat.lt_of_lt_of_le hwl hb2.size; have s2 := Sl.of_owns own2) | (go_at_call 25; (with_reducible refine (Number_any _ _ _).mono ?_); rintro e5 w5 ⟨rfl, hb5⟩; have k6 := (hb5.cell (p := ⟨W.heap.size, 0, none⟩) hw2).trans k2; have k7 := (hb5.cell (p := ⟨W.heap.size, 1, none⟩) hw2).trans k3; have b5 := b2.trans (hb5.mono (Nat.le_of_lt hw2)); have s5 := s2.below hb5))
      all_goals
        go_wp2
        go_meet
        exact ⟨rfl, s5, b5⟩
    case rest =>
      obtain ⟨rfl, hp, hb⟩ := hcut
      have hwx := hxs.wfP
      have HLE := hid (LentNumbers_any xs _ wc (by omega) hp)
      have HRN := hid fun w (h : Below wc.heap.size wc w) => rNewton_any xs hwx f1 f2 hf1 hf2 m _ w (hp.below h) (by omega)
      have HNEW := hid fun v w (h : Sl w v (xs.map C)) => Newton_any xs hwx f1 f2 hf1 hf2 m v w h (by omega)
      have HKE := hid fun v w (h : Sl w v ((lent xs).map C)) (h2 : Below wc.heap.size wc w) => KeptNumbers_any (lent xs) xs v _ w (by rw [lent_length]; omega) (by omega) h (hp.below h2)
      have hbsz := hb.size
      obtain ⟨pa, pc, rfl, -⟩ := hp.cz
      generalize newR xs (cv f1 f2) m = nr at *
      obtain ⟨nz, nn, ne⟩ := nr
      clear HNX b1 bx1 k0 k1 hsz hwl hx hp hwx hxs
      go_wp2_with (first
        | (go_at_call 26; (with_reducible refine HLE.out.mono ?_); rintro E2 w2 ⟨v2, rfl, own2, hb2⟩; have s2 := Sl.of_owns own2; obtain ⟨la, lc, rfl, -⟩ := s2.cz; have s3 : Sl w2 (.slice la xs.length lc) (xs.map C) := (by have := s2.take (k := xs.length) (by rw [lent_length]; omega); rw [← List.map_take, lent_take] at this; exact this); have hlc : xs.length ≤ lc := (by have := s2.cap; rw [lent_length] at this; omega); rw [lent_length]; have S2 := hid s2; clear own2 s2)
        | (go_at_call 43; (with_reducible refine (HNEW.out _ _ s3).mono ?_); rintro E3 w3 ⟨x3, y3, rfl, hb3, hv3, hx3, hy3⟩; have hb23 := hb2.trans (hb3.mono hb2.size); have s4 := S2.out.below hb3; clear S2 hb3)
        | (go_at_call 44; (with_reducible refine (HRN.out _ hb23).mono ?_); rintro E4 w4 ⟨x4, y4, rfl, hb4, hv4, hx4, hy4⟩; have hb24 := hb23.trans (hb4.mono hb23.size); have s5 := s4.below hb4; clear s4 hb4)
        | (go_at_call 22; (with_reducible refine (kSame_any _ _ _ _ _).mono ?_); rintro E5 w5 ⟨rfl, rfl⟩; rw [csame_of hv3 hv4])
        | (go_at_call 35; (with_reducible refine (HKE.out _ _ (by rw [lent_length] at s5; exact s5) hb24).mono ?_); rintro E6 w6 ⟨rfl, hb6⟩; rw [sameC_self]; have hb26 := hb24.trans (hb6.mono hb24.size)))
      go_ret
      exact ⟨rfl, hb.trans (hb26.mono hbsz)⟩
end Go.Proofs.YtjpimgdmlieinaaDoor
