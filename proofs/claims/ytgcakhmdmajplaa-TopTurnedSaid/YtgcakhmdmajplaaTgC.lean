/- Package graph: of: the sets as they start. Condition: the net is made. -/
import Derived.Test.YtgcakhmdmajplaaKitE1M
import Derived.Test.YtgcakhmdmajplaaTpA
import Derived.Deep.RegionLaw
namespace Go.Proofs.Ytgcakhmdmajplaa
open Go.RowKit Go.Maps

theorem sz16b {s : ByteArray} (h : s.size ≤ 16) : s.size ≤ maxLen := Nat.le_trans h (by decide)
def GofLoop (W : World) (nodes : List ByteArray) (s mb : Nat) (B2 : Nat) (nv : Value) (i : Value) (wr : World) : Prop := ∃ (k : Nat) (uv : Value), i = .int .i64 k ∧ k ≤ nodes.length ∧ StsAt W.heap.size wr s mb uv (zero8 :: nodes.take k) (up0 k) ∧ wr.ownsRow B2 9 1 nv nodes.length (strL nodes) ∧ Below W.heap.size W wr
set_option maxRecDepth 100000 in
set_option maxHeartbeats 4000000 in
theorem gof_any {w : World} {B : Nat} {N : NB} {V : NV} {L : List El} {nodes br ks : List ByteArray} (K : NetR w B N V L nodes br ks nodes br) (hn : nodes.length ≤ 4000) (hnd : (zero8 :: nodes).Nodup) (hsz : ∀ x ∈ nodes, x.size ≤ 16) :
    Calls Try.prog 73 #[.pointer (some ⟨N.n, 0, none⟩)] w (RetSet w nodes (up0 nodes.length)) := by
  obtain ⟨w1, hrun, hm1, hg1⟩ := (MapN.new w).runU (s := ⟨#[48]⟩) (by simp) (by decide) (by simp)
  have hrun2 : (Instr.mapUpdate 57 (.map (some w.heap.size)) (.string ⟨#[48]⟩) (.int .i64 0)).run Try.prog (w.alloc (.map #[] 0)) = .ok () w1 := hrun
  have b1 : Below w.heap.size w w1 := (bl_a w (.map #[] 0)).trans (gr_below hg1 (Nat.le_refl _) (by simp))
  go_enter Try.func73, Try.ntmps73
  have hmm := @run_makeMap Try.prog
  go_upto_region 2 with (fail)
  have z1 := b1.size
  have M3 : MapN ((w1.alloc (.cells #[.int .i64 0] 3)).alloc (.cells #[.map (some w.heap.size), .slice (some ⟨w1.heap.size, 0, none⟩) 1 1] 129)) w.heap.size [zero8] := hm1.below (bla _ (bl_a _ _))
  have R3 : ((w1.alloc (.cells #[.int .i64 0] 3)).alloc (.cells #[.map (some w.heap.size), .slice (some ⟨w1.heap.size, 0, none⟩) 1 1] 129)).ownsRow w.heap.size 3 1 (.slice (some ⟨w1.heap.size, 0, none⟩) 1 1) 1 [.int .i64 0] := (World.ownsRow_lit w1 #[.int .i64 0] 1 z1 (by decide) rfl).alloc _
  have X3 : ((w1.alloc (.cells #[.int .i64 0] 3)).alloc (.cells #[.map (some w.heap.size), .slice (some ⟨w1.heap.size, 0, none⟩) 1 1] 129)).heap[w1.heap.size + 1]? = some (.cells #[.map (some w.heap.size), .slice (some ⟨w1.heap.size, 0, none⟩) 1 1] 129 (0, 0)) := by
    have := blk_new (w1.alloc (.cells #[.int .i64 0] 3)) (.cells #[.map (some w.heap.size), .slice (some ⟨w1.heap.size, 0, none⟩) 1 1] 129)
    rw [show (w1.alloc (.cells #[.int .i64 0] 3)).heap.size = w1.heap.size + 1 by simp] at this
    exact this
  have b3 : Below w.heap.size w ((w1.alloc (.cells #[.int .i64 0] 3)).alloc (.cells #[.map (some w.heap.size), .slice (some ⟨w1.heap.size, 0, none⟩) 1 1] 129)) := bla _ (bla _ b1)
  obtain ⟨w3, hw3⟩ : ∃ w3, w3 = ((w1.alloc (.cells #[.int .i64 0] 3)).alloc (.cells #[.map (some w.heap.size), .slice (some ⟨w1.heap.size, 0, none⟩) 1 1] 129)) := ⟨_, rfl⟩
  rw [← hw3] at M3 R3 X3 b3 ⊢
  have S3 : StsAt w.heap.size w3 (w1.heap.size + 1) w.heap.size (.slice (some ⟨w1.heap.size, 0, none⟩) 1 1) [zero8] (up0 0) := ⟨X3, M3, R3⟩
  clear hw3 M3 R3 X3 hrun hrun2 hm1 hg1 hmm b1
  have hBs : w.heap.size ≤ w1.heap.size + 1 := by omega
  generalize w1.heap.size + 1 = s at *
  have HN := hid (nNodes_any (K.below b3) hn)
  go_wp2_with (go_at_call 10; (with_reducible refine HN.out.mono ?_); rintro E4 w4 ⟨v4, rfl, o4, hb4⟩; obtain ⟨a4, c4, rfl, -⟩ := owns_cap o4)
  have S4 := S3.below hb4
  have b4 := bl2 b3 hb4
  clear S3 hb4 HN b3
  go_loopw [14] (fun i w' => GofLoop w nodes s w.heap.size w3.heap.size (.slice a4 nodes.length c4) i w') (fun i _ => nodes.length + 1 - (intOf i).toNat)
  case atStart => exact ⟨0, _, rfl, Nat.zero_le _, S4, o4, b4⟩
  case round =>
    obtain ⟨k, uv, rfl, hk, HS, ho, hb⟩ := hrel
    clear S4 o4 b4
    by_cases hkn : k < nodes.length
    · obtain ⟨x, hx⟩ : ∃ x, nodes[k]? = some x := ⟨nodes[k]'hkn, List.getElem?_eq_getElem hkn⟩
      have hx16 := hsz x (List.mem_of_getElem? hx)
      obtain ⟨ga, ca, ea, -⟩ := ho.form (by omega)
      cases ea
      have cx : wr.cell? ⟨ga, k, none⟩ = some (.string x) := by
        rw [ho.cellAt k (by omega)]
        simp [strL, hx]
      have g6 : (k : Int) < (nodes.length : Int) := by omega
      have c0 := HS.c0
      have c1 := HS.c1
      obtain ⟨gu, cu, eu, -⟩ := HS.row.form (by rw [up0_len]; omega)
      rw [up0_len] at eu
      subst eu
      have hxn : x ∉ zero8 :: nodes.take k := by
        intro hm
        rw [List.nodup_cons] at hnd
        rcases List.mem_cons.1 hm with rfl | hm
        · exact hnd.1 (List.mem_of_getElem? hx)
        · obtain ⟨j, hj⟩ := List.getElem?_of_mem hm
          have hjk : j < k := by have := (List.getElem?_eq_some_iff.1 hj).1; simp at this; omega
          rw [List.getElem?_take_of_lt hjk] at hj
          have h3 := (List.pairwise_iff_getElem.1 hnd.2) j k (by omega) hkn hjk
          exact h3 ((List.getElem?_eq_some_iff.1 hj).2.trans (List.getElem?_eq_some_iff.1 hx).2.symm)
      obtain ⟨w5, hrun, hm5, hg5⟩ := (HS.m.below (w' := wr.drew) (bld (Below.refl _ _))).runU (s := x) (by simp; omega) (sz16b hx16) hxn
      rw [show (zero8 :: nodes.take k).length = k + 1 by simp; omega] at hrun
      push_cast at hrun
      go_upto_region 5 with (fail)
      go_region_with (fail)
      all_goals
        have hmap : ∃ es clock, wr.drew.heap[w.heap.size]? = some (.map es clock) := by
          obtain ⟨D, ⟨es, clock, h1, _⟩, _⟩ := HS.m
          exact ⟨es, clock, h1⟩
        have S5 := StsAt.upd (HS.drewN 1) hm5 hg5
        have o5 : w5.ownsRow w3.heap.size 9 1 (.slice (some ⟨ga, 0, none⟩) nodes.length c4) nodes.length (strL nodes) := own_kept (owns_drewN ho 1) hg5 (fun cs fr e => by
          obtain ⟨es, clock, h1⟩ := hmap
          have h2 : wr.drew.heap[w.heap.size]? = some (.cells cs 9 fr) := e
          rw [h1] at h2
          cases h2)
        have b5 : Below w.heap.size w w5 := (bld hb).trans (gr_below hg5 (Nat.le_refl _) hb.size)
        have d1 := S5.c1
        have hB5 := b5.size
        clear HS ho hb c0 c1 cx hm5 hg5 hrun hmap
        go_upto_region 6 with (fail)
        have hRow : w5.ownsRow w.heap.size 3 1 (.slice (some ⟨gu, 0, none⟩) (k + 1) cu) (k + 1) ((up0 k).map fun k : Nat => Value.int .i64 (k : Int)) := by have := S5.row; rw [up0_len] at this; exact this
        have hX : Below w5.heap.size w5 (w5.alloc (.cells #[.int .i64 ((k : Int) + 1)] 3)).drew := bld (bla _ (Below.refl _ _))
        have d4 : (w5.alloc (.cells #[.int .i64 ((k : Int) + 1)] 3)).cell? ⟨s, 1, none⟩ = some (.slice (some ⟨gu, 0, none⟩) (k + 1) cu) := cell_al2 d1
        go_region_law (first
          | (apply step_app_int rfl _ _ rfl w.heap.size (.slice (some ⟨gu, 0, none⟩) (k + 1) cu) (k + 1) ((up0 k).map fun k : Nat => Value.int .i64 (k : Int)) w5.heap.size ((k : Int) + 1) (by omega); (· rfl); (· rfl); (· exact owns_below hRow hX); (· exact cell_new w5 _ _ 0 _ rfl); (· exact Nat.le_trans hB5 hX.size); intro g6 cap6 w6 hown6 hg6 hat6; have Q6 := set_app (o := k + 1) S5 o5 hX (by simpa using hown6) hg6 hat6 (by simp [up0_len]) hB5 hBs; have d2 := Q6.1; have d3 := Q6.2.1))
        all_goals
          obtain ⟨-, -, Q7, Q8, Q9, -⟩ := Q6
          have hks : zero8 :: nodes.take (k + 1) = zero8 :: nodes.take k ++ [x] := by rw [take_snoc hx]; rfl
          clear d1 d2 d3 d4 hown6 hg6 hat6 hRow hX S5 o5
          go_wp2
          go_roundw
          case rel => exact ⟨k + 1, .slice (some ⟨g6, 0, none⟩) (k + 1 + 1) cap6, by go_num, by omega, by rw [hks, up0_snoc]; exact Q7, Q8, b5.trans Q9⟩
          case measure => simp [intOf] <;> omega
    · obtain rfl : k = nodes.length := by omega
      have g6 : ¬ (nodes.length : Int) < (nodes.length : Int) := by omega
      rw [List.take_length] at HS
      go_wp2
      go_ret
      exact ⟨s, _, uv, rfl, HS, hb⟩
end Go.Proofs.Ytgcakhmdmajplaa

