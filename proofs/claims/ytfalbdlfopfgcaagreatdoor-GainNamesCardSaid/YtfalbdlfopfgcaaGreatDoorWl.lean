/- gridworkwide.Real. Condition: the word has no sign. -/
import Derived.Test.YtfalbdlfopfgcaaGreatDoorWk
import Derived.Test.YtfalbdlfopfgcaaGreatDoorOrd
namespace Go.Proofs.YtfalbdlfopfgcaaGreatDoor
open Go.RowKit

theorem and_mod (x k : Nat) (hx : x < 18446744073709551616) (hk : k ≤ 63) : bits .and .u64 (x : Int) ((2 ^ k - 1 : Nat) : Int) = ((x % 2 ^ k : Nat) : Int) := by
  have h1 : 2 ^ k ≤ 2 ^ 63 := Nat.pow_le_pow_right (by decide) hk
  rw [bits_and_u64_nat x _ hx (by omega), Nat.and_two_pow_sub_one_eq_mod]
set_option maxRecDepth 100000 in
set_option maxHeartbeats 4000000 in
theorem wReal_any (w : World) (x : Nat) (hx : x < 9223372036854775808) : Calls Tryz.prog 46 #[.float .f64 x] w (RetI w false (mgn x)) := by
  obtain ⟨q, hq⟩ : ∃ q, q = x / 4503599627370496 := ⟨_, rfl⟩
  obtain ⟨m, hm⟩ : ∃ m, m = x % 4503599627370496 := ⟨_, rfl⟩
  have hq2 : q < 2048 := by omega
  have hm2 : m < 4503599627370496 := by omega
  have g1 : (x : Int) / 4503599627370496 = (q : Int) := by omega
  have g2 : bits .and .u64 (q : Int) 2047 = (q : Int) := by
    have := and_mod q 11 (by omega) (by decide)
    rw [Nat.mod_eq_of_lt (show q < 2 ^ 11 by omega)] at this
    exact this
  have g3 : bits .and .u64 (x : Int) 4503599627370495 = (m : Int) := by
    have := and_mod x 52 (by omega) (by decide)
    rw [hm]
    exact this
  have g4 : bits .or .u64 (m : Int) 4503599627370496 = ((m + 4503599627370496 : Nat) : Int) := or_up (c := m) (X := 4503599627370496) (s := 52) (by omega) ⟨1, by decide⟩ (by omega)
  have g5 : (x : Int) / 9223372036854775808 = 0 := by omega
  have HR0 : mgn x = (if q = 0 then m else (m + 4503599627370496) * 2 ^ (q - 1)) := by
    unfold mgn
    by_cases h0 : x < 4503599627370496
    · rw [if_pos h0, if_pos (by omega)]; omega
    · rw [if_neg h0, if_neg (by omega), ← hm, ← hq, Nat.add_comm]
  have i0 := IntB.new w (.bool false) (.slice none 0 0)
  have b0 : Below w.heap.size w (w.alloc (.cells #[.bool false, .slice none 0 0] 85)) := bla _ (Below.refl _ _)
  obtain ⟨M, hM⟩ : ∃ M, M = m + 4503599627370496 := ⟨_, rfl⟩
  rw [← hM] at g4 HR0
  have hM2 : M < 9007199254740992 := by omega
  replace HR0 := hid HR0
  replace hq := hid hq
  replace hm := hid hm
  replace hM := hid hM
  obtain ⟨R, hRd⟩ : ∃ R, R = mgn x := ⟨_, rfl⟩
  rw [← hRd] at HR0 ⊢
  replace hRd := hid hRd
  by_cases hq0 : q = 0
  · have g6 : ((q : Int) == 0) = true := by simp [hq0]
    have HR := hid (show R = m * 2 ^ 0 by rw [HR0.out, if_pos hq0, Nat.pow_zero, Nat.mul_one])
    have HO := hid fun w' => wOf_any w' m (by unfold IsW; omega)
    have HU := hid fun w' v (hv : Wn w' v m) => (show Calls Tryz.prog 72 #[.agg #[.bool false, v], .int .i64 0] w' (RetI w' false (m * 2 ^ 0)) from wUp_any w' false v m 0 hv (by have := wds_len m 2 (by omega); omega) (by decide))
    rw [← HR.out] at HU
    clear hx hq0
    go_enter Tryz.func46, Tryz.ntmps46
    go_wp2_with (first
      | (go_at_call 50; (with_reducible refine (HO.out _).mono ?_); rintro E1 w2 ⟨v1, rfl, hv1, hb1⟩)
      | (go_at_call 72; (with_reducible refine (HU.out _ _ hv1).mono ?_); rintro E3 w3 ⟨v3, rfl, hv3, hb3⟩; obtain ⟨va, vc, rfl⟩ := hv3.sl; have b3 := bla (.cells #[.bool false, .slice va (wds R).length vc] 85) (bl2 (bl2 b0 hb1) hb3); have i3 := ((i0.below hb1).below hb3).alloc (.cells #[.bool false, .slice va (wds R).length vc] 85); have a0 := i3.c0; have a1 := i3.c1; have a2 := i3.fr 0; have a3 := i3.fr 1))
    all_goals
      have z1 := i3.set (.bool false) (.slice va (wds R).length vc)
      have z2 := Wn.set2 (hv3.alloc (.cells #[.bool false, .slice va (wds R).length vc] 85)) i3 (fun d e => by cases e) (fun d e => by cases e) false (.slice va (wds R).length vc)
      have z3 := below_set2i b3 (Nat.le_refl _) (.bool false) (.slice va (wds R).length vc)
      refine bodyPost_ret (results_int rfl _ _ w.heap.size (.bool false) (.slice va (wds R).length vc) rfl z1.c0 z1.c1) rfl ?_
      exact ⟨_, rfl, z2, z3⟩
  · obtain ⟨e, he⟩ : ∃ e, q = e + 1 := ⟨q - 1, by omega⟩
    have g6 : ((q : Int) == 0) = false := by rw [beq_eq_false_iff_ne]; omega
    have g7 : (q : Int) - 1 = (e : Int) := by omega
    have HR := hid (show R = M * 2 ^ e by rw [HR0.out, if_neg hq0, he, Nat.add_sub_cancel])
    have HO := hid fun w' => wOf_any w' M (by unfold IsW; omega)
    have HU := hid fun w' v (hv : Wn w' v M) => wUp_any w' false v M e hv (by have := wds_len M 2 (by omega); omega) (by omega)
    rw [← HR.out] at HU
    clear hx hq0 he
    go_enter Tryz.func46, Tryz.ntmps46
    go_wp2_with (first
      | (go_at_call 50; (with_reducible refine (HO.out _).mono ?_); rintro E1 w2 ⟨v1, rfl, hv1, hb1⟩)
      | (go_at_call 72; (with_reducible refine (HU.out _ _ hv1).mono ?_); rintro E3 w3 ⟨v3, rfl, hv3, hb3⟩; obtain ⟨va, vc, rfl⟩ := hv3.sl; have b3 := bla (.cells #[.bool false, .slice va (wds R).length vc] 85) (bl2 (bl2 b0 hb1) hb3); have i3 := ((i0.below hb1).below hb3).alloc (.cells #[.bool false, .slice va (wds R).length vc] 85); have a0 := i3.c0; have a1 := i3.c1; have a2 := i3.fr 0; have a3 := i3.fr 1))
    all_goals
      have z1 := i3.set (.bool false) (.slice va (wds R).length vc)
      have z2 := Wn.set2 (hv3.alloc (.cells #[.bool false, .slice va (wds R).length vc] 85)) i3 (fun d e => by cases e) (fun d e => by cases e) false (.slice va (wds R).length vc)
      have z3 := below_set2i b3 (Nat.le_refl _) (.bool false) (.slice va (wds R).length vc)
      refine bodyPost_ret (results_int rfl _ _ w.heap.size (.bool false) (.slice va (wds R).length vc) rfl z1.c0 z1.c1) rfl ?_
      exact ⟨_, rfl, z2, z3⟩
end Go.Proofs.YtfalbdlfopfgcaaGreatDoor

