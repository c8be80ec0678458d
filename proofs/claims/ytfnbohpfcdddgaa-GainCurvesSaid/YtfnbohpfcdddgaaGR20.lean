/- gridworkref20: None, Fits, Volt. Conditions: lengths as a net has them. -/
import Derived.Test.YtfnbohpfcdddgaaGNet
import Derived.Test.YtfnbohpfcdddgaaR15N
namespace Go.Proofs.Ytfnbohpfcdddgaa
open Go.RowKit Go.Maps

section
variable {w : World} {r : Nat} {L : List El}
set_option maxRecDepth 100000 in
set_option maxHeartbeats 1000000 in
theorem None_any (K : RfN w r L) : Calls Try.prog 35 #[.pointer (some ⟨r, 0, none⟩)] w (RetV w (.bool false)) := by
  obtain ⟨v, c0, c1, -⟩ := K.cells
  go_enter Try.func35, Try.ntmps35
  go_wp2
  go_ret
  exact ⟨rfl, Below.refl _ _⟩
set_option maxRecDepth 100000 in
set_option maxHeartbeats 4000000 in
theorem rFits_any (K : RfN w r L) (hL : L.length ≤ 1000) (o : Nat) (a b : Option Addr) (n m c d : Nat) (hnn : n ≤ 140737488355328) (hmm : m ≤ 140737488355328) :
    Calls Try.prog 66 #[.pointer (some ⟨r, 0, none⟩), .agg #[.float .f64 o, .slice a n c, .slice b m d]] w (RetV w (.int .i64 (fitF n m (nodesF L).length (brF L).length))) := by
  have b0 : Below w.heap.size w (w.alloc (.cells #[.float .f64 o, .slice a n c, .slice b m d] 46)) := (Below.refl _ w).alloc (Nat.le_refl _) _
  have hblk := blk_new w (.cells #[.float .f64 o, .slice a n c, .slice b m d] 46)
  have HM := hid (None_any (K.below b0))
  have K0 := K.below b0
  obtain ⟨w0, hw0⟩ : ∃ w0, w0 = w.alloc (.cells #[.float .f64 o, .slice a n c, .slice b m d] 46) := ⟨_, rfl⟩
  go_enter Try.func66, Try.ntmps66
  go_upto_region 3 with (go_at_call 35; (with_reducible refine HM.out.mono ?_); rintro E1 w1 ⟨rfl, hb1⟩)
  have b1 : Below w.heap.size w w1 := b0.trans (hb1.mono (by simp))
  have K1 := K0.below hb1
  have hblk1 := (hb1.block w.heap.size (by simp)).trans hblk
  have k1 : w1.cell? ⟨w.heap.size, 1, none⟩ = some (.slice a n c) := by simp [World.cell?, hblk1]
  have k2 : w1.cell? ⟨w.heap.size, 2, none⟩ = some (.slice b m d) := by simp [World.cell?, hblk1]
  have hwl : w.heap.size < w1.heap.size := (Array.getElem?_eq_some_iff.1 hblk1).1
  have KD := K1.below (Below.refl _ w1).drew
  have HND := hid (rNodes_any r L _ KD hL)
  clear hblk hblk1 hb1 b0 K0 K HM
  by_cases h1 : n = (nodesF L).length
  · by_cases h2 : m = (brF L).length
    · have HF := hid (show fitF n m (nodesF L).length (brF L).length = 0 by unfold fitF; rw [if_pos ⟨h1, h2⟩])
      subst h1
      subst h2
      go_region_held3 (fun w' => w'.cell? ⟨w.heap.size, 1, none⟩ = some (.slice a (nodesF L).length c) ∧ w'.cell? ⟨w.heap.size, 2, none⟩ = some (.slice b (brF L).length d)) (first | exact ⟨k1, k2⟩ | exact ⟨k3, k4⟩ | exact ⟨k5, k6⟩) (first | (go_at_call 30; (with_reducible refine HND.out.mono ?_); rintro E2 w2 ⟨v2, rfl, own2, hb2⟩; obtain ⟨a2, c2, rfl, -⟩ := owns_cap own2; have k3 := (hb2.cell (p := ⟨w.heap.size, 1, none⟩) hwl).trans k1; have k4 := (hb2.cell (p := ⟨w.heap.size, 2, none⟩) hwl).trans k2; have b2 := bl2 b1.drew hb2; have K2 := KD.below hb2) | (go_at_call 61; (with_reducible refine (rBranches_any r L _ K2 hL).mono ?_); rintro E3 w3 ⟨v3, rfl, own3, hb3⟩; obtain ⟨a3, c3, rfl, -⟩ := owns_cap own3; have b3 := bl2 b2 hb3; have k5 := (hb3.cell (p := ⟨w.heap.size, 1, none⟩) (Nat.lt_of_lt_of_le hwl hb2.size)).trans k3; have k6 := (hb3.cell (p := ⟨w.heap.size, 2, none⟩) (Nat.lt_of_lt_of_le hwl hb2.size)).trans k4))
      all_goals
        go_wp2
        go_ret
        exact ⟨by rw [HF.out]; rfl, b3⟩
    · have HF := hid (show fitF n m (nodesF L).length (brF L).length = 4 by unfold fitF; rw [if_neg (fun h => h2 h.2)])
      subst h1
      have g2 : ((m : Int) != ((brF L).length : Int)) = true := by rw [bne_iff_ne]; omega
      clear h2
      go_region_held3 (fun w' => w'.cell? ⟨w.heap.size, 1, none⟩ = some (.slice a (nodesF L).length c) ∧ w'.cell? ⟨w.heap.size, 2, none⟩ = some (.slice b m d)) (first | exact ⟨k1, k2⟩ | exact ⟨k3, k4⟩ | exact ⟨k5, k6⟩) (first | (go_at_call 30; (with_reducible refine HND.out.mono ?_); rintro E2 w2 ⟨v2, rfl, own2, hb2⟩; obtain ⟨a2, c2, rfl, -⟩ := owns_cap own2; have k3 := (hb2.cell (p := ⟨w.heap.size, 1, none⟩) hwl).trans k1; have k4 := (hb2.cell (p := ⟨w.heap.size, 2, none⟩) hwl).trans k2; have b2 := bl2 b1.drew hb2; have K2 := KD.below hb2) | (go_at_call 61; (with_reducible refine (rBranches_any r L _ K2 hL).mono ?_); rintro E3 w3 ⟨v3, rfl, own3, hb3⟩; obtain ⟨a3, c3, rfl, -⟩ := owns_cap own3; have b3 := bl2 b2 hb3; have k5 := (hb3.cell (p := ⟨w.heap.size, 1, none⟩) (Nat.lt_of_lt_of_le hwl hb2.size)).trans k3; have k6 := (hb3.cell (p := ⟨w.heap.size, 2, none⟩) (Nat.lt_of_lt_of_le hwl hb2.size)).trans k4))
      all_goals
        go_wp2
        go_ret
        exact ⟨by rw [HF.out]; rfl, b3⟩
  · have HF := hid (show fitF n m (nodesF L).length (brF L).length = 4 by unfold fitF; rw [if_neg (fun h => h1 h.1)])
    have g1 : ((n : Int) != ((nodesF L).length : Int)) = true := by rw [bne_iff_ne]; omega
    clear h1
    (first | (go_region_with (first | (go_at_call 30; (with_reducible refine HND.out.mono ?_); rintro E2 w2 ⟨v2, rfl, own2, hb2⟩; obtain ⟨a2, c2, rfl, -⟩ := owns_cap own2; have k3 := (hb2.cell (p := ⟨w.heap.size, 1, none⟩) hwl).trans k1; have k4 := (hb2.cell (p := ⟨w.heap.size, 2, none⟩) hwl).trans k2; have b2 := bl2 b1.drew hb2; have K2 := KD.below hb2))) | fail)
    all_goals
      go_wp2
      go_ret
      exact ⟨by rw [HF.out]; rfl, b2⟩
end
end Go.Proofs.Ytfnbohpfcdddgaa

