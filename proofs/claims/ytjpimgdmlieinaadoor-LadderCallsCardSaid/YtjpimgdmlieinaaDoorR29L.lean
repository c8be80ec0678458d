/- gridworkref29.Net: as ladder.Net. Conditions: kinds are bytes, Values have 64 bits. -/
import Derived.Test.YtjpimgdmlieinaaDoorR29E
import Derived.Test.YtjpimgdmlieinaaDoorR15O
import Derived.Test.YtjpimgdmlieinaaDoorNLIn
namespace Go.Proofs.YtjpimgdmlieinaaDoor
open Go.RowKit

theorem RfN.ne {w : World} {n f : Nat} {x y : Int} {L : List El} (h : RfN w n L) (hF : FltAt w f x y) : n ≠ f := by
  intro e
  subst e
  obtain ⟨v, h1, _⟩ := h
  unfold FltAt at hF
  rw [h1] at hF
  simp at hF
set_option maxRecDepth 100000 in
set_option maxHeartbeats 1000000 in
theorem rLNet_any (S T : List El) (hs : ∀ e ∈ S, e.kind < 256 ∧ IsW e.v) (ht : ∀ e ∈ T, e.kind < 256 ∧ IsW e.v) (vs vt : Value) (w : World) (hS : ElsAt w vs S) (hT : ElsAt w vt T) : Calls Tryd.prog 17 #[vs, vt] w (RetRf w (ladN S T S.length) (ladNetF S T)) := by
  obtain ⟨sa, sc, rfl⟩ := hS.form
  obtain ⟨ta, tc, rfl⟩ := hT.form
  have hF := FltAt.new w 0 0
  by_cases h1 : S.length = T.length
  · by_cases h2 : 16 < S.length
    · have HF := hid (show ladNetF S T = ((3, -1), none) by unfold ladNetF; rw [if_pos h1, if_pos h2])
      have g1 : ((S.length : Int) != (T.length : Int)) = false := by simp; omega
      have g2 : (16 : Int) < (S.length : Int) := by omega
      go_enter Tryd.func17, Tryd.ntmps17
      go_wp2
      refine bodyPost_ret (results_flt rfl _ _ w.heap.size 3 (-1) rfl (FltAt.new _ _ _)) rfl ?_
      exact RetRf_none rfl ((Below.refl _ w).alloc (Nat.le_refl _) _) HF.out
    · by_cases h3 : S.length = 0
      · have HF := hid (show ladNetF S T = ((2, -1), none) by unfold ladNetF; rw [if_pos h1, if_neg h2, if_pos h3])
        have g3 : T.length = 0 := by omega
        rw [h3, g3]
        go_enter Tryd.func17, Tryd.ntmps17
        go_wp2
        refine bodyPost_ret (results_flt rfl _ _ w.heap.size 2 (-1) rfl (FltAt.new _ _ _)) rfl ?_
        exact RetRf_none rfl ((Below.refl _ w).alloc (Nat.le_refl _) _) HF.out
      · have HF := hid (show ladNetF S T = netF (ladN S T S.length) by unfold ladNetF; rw [if_pos h1, if_neg h2, if_neg h3])
        have hb0 : Below w.heap.size w (w.alloc (.cells #[.int .i64 0, .int .i64 0] 36)) := (Below.refl _ w).alloc (Nat.le_refl _) _
        have HE := hid (rElements29_any S T _ _ _ (hS.below hb0) (hT.below hb0) h1.symm (by omega))
        have HO := hid fun v w h => rOf15_any (ladN S T S.length) (ladN_good hs ht _) v w h (by rw [ladN_len]; omega)
        rw [← h1] at HE ⊢
        have g1 : ((S.length : Int) != (S.length : Int)) = false := by simp
        have g2 : ¬ (16 : Int) < (S.length : Int) := by omega
        have g3 : ((S.length : Int) == 0) = false := by rw [beq_eq_false_iff_ne]; omega
        obtain ⟨r, hr⟩ : ∃ r, r = netF (ladN S T S.length) := ⟨_, rfl⟩
        rw [← hr] at HO HF
        clear hr h1 h2 h3
        obtain ⟨⟨f1, f2⟩, os⟩ := r
        cases os with
        | none =>
          go_enter Tryd.func17, Tryd.ntmps17
          go_wp2_with (first | (go_at_call 57; go_loud ((with_reducible refine HE.out.mono ?_); rintro E1 w1 ⟨v1, rfl, hown, hb1⟩)) | (go_at_call 56; go_loud ((with_reducible refine (HO.out _ _ (ElsN.of_owns hown)).mono ?_); rintro E2 w2 ⟨rfl, hb2⟩; have hz1 := hb1.size; have hF2 := (hF.below hb1 (by simp)).below hb2 (by simp at hz1; omega); have c0 := hF2.c0; have c1 := hF2.c1; have c2 := hF2.fr 0; have c3 := hF2.fr 1)))
          refine bodyPost_ret (results_flt rfl _ _ w.heap.size f1 f2 rfl (hF2.set2 _ _)) rfl ?_
          exact RetRf_none rfl (below_set2 ((hb0.trans (hb1.mono (by simp))).trans (hb2.mono (by simp at hz1; omega))) _ _ (Nat.le_refl _)) HF.out
        | some s =>
          go_enter Tryd.func17, Tryd.ntmps17
          go_wp2_with (first | (go_at_call 57; go_loud ((with_reducible refine HE.out.mono ?_); rintro E1 w1 ⟨v1, rfl, hown, hb1⟩)) | (go_at_call 56; go_loud ((with_reducible refine (HO.out _ _ (ElsN.of_owns hown)).mono ?_); rintro E2 w2 ⟨nn, rfl, hR, hb2⟩; have hz1 := hb1.size; have hF2 := (hF.below hb1 (by simp)).below hb2 (by simp at hz1; omega); have c0 := hF2.c0; have c1 := hF2.c1; have c2 := hF2.fr 0; have c3 := hF2.fr 1)))
          refine bodyPost_ret (results_flt rfl _ _ w.heap.size f1 f2 rfl (hF2.set2 _ _)) rfl ?_
          have HFo := HF.out
          rw [HFo]
          exact ⟨nn, rfl, hR.other hF2 (hR.ne hF2) (fun k hk => by rw [Below.heap_setCell _ _ _ _ hk, Below.heap_setCell _ _ _ _ hk]), below_set2 ((hb0.trans (hb1.mono (by simp))).trans (hb2.mono (by simp at hz1; omega))) _ _ (Nat.le_refl _)⟩
  · have HF := hid (show ladNetF S T = ((4, -1), none) by unfold ladNetF; rw [if_neg h1])
    have g1 : ((S.length : Int) != (T.length : Int)) = true := by simp; omega
    go_enter Tryd.func17, Tryd.ntmps17
    go_wp2
    refine bodyPost_ret (results_flt rfl _ _ w.heap.size 4 (-1) rfl (FltAt.new _ _ _)) rfl ?_
    exact RetRf_none rfl ((Below.refl _ w).alloc (Nat.le_refl _) _) HF.out
end Go.Proofs.YtjpimgdmlieinaaDoor
