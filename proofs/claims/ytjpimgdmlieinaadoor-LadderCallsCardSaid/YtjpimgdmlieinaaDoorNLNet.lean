/- ladder.Net: a ladder's net. Condition: kinds are bytes. -/
import Derived.Test.YtjpimgdmlieinaaDoorNLad
import Derived.Test.YtjpimgdmlieinaaDoorNOf
namespace Go.Proofs.YtjpimgdmlieinaaDoor
open Go.RowKit Go.Maps

def ladNetF (S T : List El) : (Int × Int) × Option NetS :=
  if S.length = T.length then (if 16 < S.length then ((3, -1), none) else if S.length = 0 then ((2, -1), none) else netF (ladN S T S.length)) else ((4, -1), none)
theorem NetR.weaken {w : World} {B B' : Nat} {N : NB} {V : NV} {l : List El} {nodes br ks ps bs : List ByteArray} (h : NetR w B N V l nodes br ks ps bs) (hB : B' ≤ B) : NetR w B' N V l nodes br ks ps bs := by
  have ow : ∀ {e size : Nat} {v : Value} {n : Nat} {xs : List Value}, w.ownsRow B e size v n xs → w.ownsRow B' e size v n xs := by
    rintro e size v n xs ⟨h1, h2⟩
    refine ⟨h1, ?_⟩
    rcases h2 with h2 | ⟨g, cap, cur, h3, h4, h5⟩
    · exact .inl h2
    · exact .inr ⟨g, cap, cur, h3, by omega, h5⟩
  exact { h with L := ow h.L, R := ow h.R, Q := ow h.Q, gn := by have := h.gn; omega, gm := by have := h.gm; omega, gp := by have := h.gp; omega, gb := by have := h.gb; omega }
theorem ladN_kind {S T : List El} (hs : ∀ e ∈ S, e.kind < 256) (ht : ∀ e ∈ T, e.kind < 256) (k : Nat) : ∀ e ∈ ladN S T k, e.kind < 256 := by
  have gd : ∀ (L : List El) (i : Nat), (∀ e ∈ L, e.kind < 256) → (L.getD i el0).kind < 256 := by
    intro L i h
    rw [List.getD_eq_getElem?_getD]
    cases hh : L[i]? with
    | none => show 0 < 256; omega
    | some e => exact h e (List.mem_of_getElem? hh)
  induction k with
  | zero => intro e h; simp [ladN] at h
  | succ k ih =>
    intro e h
    simp only [ladN, ladE, List.mem_append, List.mem_cons, List.not_mem_nil, or_false] at h
    rcases h with h | rfl | rfl
    · exact ih e h
    · exact gd S k hs
    · exact gd T k ht

set_option maxRecDepth 100000 in
set_option maxHeartbeats 1000000 in
theorem LNet_any (S T : List El) (hs : ∀ e ∈ S, e.kind < 256) (ht : ∀ e ∈ T, e.kind < 256) (vs vt : Value) (w : World) (hS : ElsAt w vs S) (hT : ElsAt w vt T) : Calls Tryd.prog 16 #[vs, vt] w (RetNet w (ladNetF S T)) := by
  obtain ⟨sa, sc, rfl⟩ := hS.form
  obtain ⟨ta, tc, rfl⟩ := hT.form
  have hF := FltAt.new w 0 0
  by_cases h1 : S.length = T.length
  · by_cases h2 : 16 < S.length
    · have HF := hid (show ladNetF S T = ((3, -1), none) by unfold ladNetF; rw [if_pos h1, if_pos h2])
      have g1 : ((S.length : Int) != (T.length : Int)) = false := by simp; omega
      have g2 : (16 : Int) < (S.length : Int) := by omega
      go_enter Tryd.func16, Tryd.ntmps16
      go_wp2
      refine bodyPost_ret (results_flt rfl _ _ w.heap.size 3 (-1) rfl (FltAt.new _ _ _)) rfl ?_
      exact RetNet_none rfl ((Below.refl _ w).alloc (Nat.le_refl _) _) HF.out
    · by_cases h3 : S.length = 0
      · have HF := hid (show ladNetF S T = ((2, -1), none) by unfold ladNetF; rw [if_pos h1, if_neg h2, if_pos h3])
        have g3 : T.length = 0 := by omega
        rw [h3, g3]
        go_enter Tryd.func16, Tryd.ntmps16
        go_wp2
        refine bodyPost_ret (results_flt rfl _ _ w.heap.size 2 (-1) rfl (FltAt.new _ _ _)) rfl ?_
        exact RetNet_none rfl ((Below.refl _ w).alloc (Nat.le_refl _) _) HF.out
      · have HF := hid (show ladNetF S T = netF (ladN S T S.length) by unfold ladNetF; rw [if_pos h1, if_neg h2, if_neg h3])
        have hb0 : Below w.heap.size w (w.alloc (.cells #[.int .i64 0, .int .i64 0] 36)) := (Below.refl _ w).alloc (Nat.le_refl _) _
        have HE := hid (elements_any S T _ _ _ (hS.below hb0) (hT.below hb0) h1.symm (by omega))
        have HO := hid fun v w h => Of_any (ladN S T S.length) (ladN_kind hs ht _) v w h (by rw [ladN_len]; omega)
        rw [← h1] at HE ⊢
        have g1 : ((S.length : Int) != (S.length : Int)) = false := by simp
        have g2 : ¬ (16 : Int) < (S.length : Int) := by omega
        have g3 : ((S.length : Int) == 0) = false := by rw [beq_eq_false_iff_ne]; omega
        obtain ⟨r, hr⟩ : ∃ r, r = netF (ladN S T S.length) := ⟨_, rfl⟩
        rw [← hr] at HO HF
        clear hr h1 h2 h3
        obtain ⟨⟨f1, f2⟩, os⟩ := r
        cases os with
        | none =>
          go_enter Tryd.func16, Tryd.ntmps16
          go_wp2_with (first | (go_at_call 47; go_loud ((with_reducible refine HE.out.mono ?_); rintro E1 w1 ⟨v1, rfl, hown, hb1⟩)) | (go_at_call 55; go_loud ((with_reducible refine (HO.out _ _ (ElsAt.of_owns hown)).mono ?_); rintro E2 w2 ⟨rfl, hb2⟩; have hz1 := hb1.size; have hF2 := (hF.below hb1 (by simp)).below hb2 (by simp at hz1; omega); have c0 := hF2.c0; have c1 := hF2.c1; have c2 := hF2.fr 0; have c3 := hF2.fr 1)))
          refine bodyPost_ret (results_flt rfl _ _ w.heap.size f1 f2 rfl (hF2.set2 _ _)) rfl ?_
          exact RetNet_none rfl (below_set2 ((hb0.trans (hb1.mono (by simp))).trans (hb2.mono (by simp at hz1; omega))) _ _ (Nat.le_refl _)) HF.out
        | some s =>
          go_enter Tryd.func16, Tryd.ntmps16
          go_wp2_with (first | (go_at_call 47; go_loud ((with_reducible refine HE.out.mono ?_); rintro E1 w1 ⟨v1, rfl, hown, hb1⟩)) | (go_at_call 55; go_loud ((with_reducible refine (HO.out _ _ (ElsAt.of_owns hown)).mono ?_); rintro E2 w2 ⟨N, V, rfl, hR, hb2⟩; have hz1 := hb1.size; have hF2 := (hF.below hb1 (by simp)).below hb2 (by simp at hz1; omega); have c0 := hF2.c0; have c1 := hF2.c1; have c2 := hF2.fr 0; have c3 := hF2.fr 1)))
          refine bodyPost_ret (results_flt rfl _ _ w.heap.size f1 f2 rfl (hF2.set2 _ _)) rfl ?_
          have hR2 := (hR.weaken (B' := w.heap.size + 1) (by simp at hz1; omega)).setBelow (a := ⟨w.heap.size, 0, none⟩) (Nat.lt_succ_self _) (.int .i64 f1)
          have hR3 := hR2.setBelow (a := ⟨w.heap.size, 1, none⟩) (Nat.lt_succ_self _) (.int .i64 f2)
          have HFo := HF.out
          rw [HFo]
          exact ⟨N, V, rfl, hR3, below_set2 ((hb0.trans (hb1.mono (by simp))).trans (hb2.mono (by simp at hz1; omega))) _ _ (Nat.le_refl _)⟩
  · have HF := hid (show ladNetF S T = ((4, -1), none) by unfold ladNetF; rw [if_neg h1])
    have g1 : ((S.length : Int) != (T.length : Int)) = true := by simp; omega
    go_enter Tryd.func16, Tryd.ntmps16
    go_wp2
    refine bodyPost_ret (results_flt rfl _ _ w.heap.size 4 (-1) rfl (FltAt.new _ _ _)) rfl ?_
    exact RetNet_none rfl ((Below.refl _ w).alloc (Nat.le_refl _) _) HF.out
end Go.Proofs.YtjpimgdmlieinaaDoor
