/- phasor.work: the walk. Condition: the net was made. phasor.With. Condition: the net was made; the right side is as long as its order. phasor.Solve. Condition: the net was made. -/
import Derived.Test.YtgcakhmdmajplaaTlEM
namespace Go.Proofs.Ytgcakhmdmajplaa
open Go.RowKit

set_option maxRecDepth 100000 in
set_option maxHeartbeats 4000000 in
theorem work_any {w : World} {B : Nat} {N : NB} {V : NV} {L : List El} {nodes br ks : List ByteArray} (K : NetR w B N V L nodes br ks nodes br) (hm : Mn L nodes br ks) (o : Nat) :
    Calls Try.prog 65 #[.pointer (some ⟨N.n, 0, none⟩), .float .f64 o] w (RetWrk w (nodes.length + br.length) (wrkF nodes br L (val o))) := by
  obtain ⟨n, hn⟩ : ∃ n, n = nodes.length + br.length := ⟨_, rfl⟩
  have hn64 : n ≤ 64 := by have := hm.hs; omega
  obtain ⟨G, hG⟩ : ∃ G, G = wrkF nodes br L (val o) := ⟨_, rfl⟩
  rw [← hn, ← hG]
  replace hG := hid hG
  replace hn := hid hn
  obtain ⟨s, hnet⟩ := hm.hnet
  have b0 : Below w.heap.size w ((w.alloc (.cells #[.int .i64 0, .int .i64 0, .slice none 0 0, .pointer none] 115)).alloc (.cells #[.int .i64 0, .int .i64 0] 29)) := bla _ (bl_a _ _)
  have W0 : WrkB ((w.alloc (.cells #[.int .i64 0, .int .i64 0, .slice none 0 0, .pointer none] 115)).alloc (.cells #[.int .i64 0, .int .i64 0] 29)) w.heap.size 0 0 (.slice none 0 0) (.pointer none) := WrkB.below (blk_new _ _) (bl_a _ _)
  have F0 : FltAt ((w.alloc (.cells #[.int .i64 0, .int .i64 0, .slice none 0 0, .pointer none] 115)).alloc (.cells #[.int .i64 0, .int .i64 0] 29)) (w.heap.size + 1) 0 0 := flt_n _ 0 0 (by simp)
  go_enter Try.func65, Try.ntmps65
  go_upto_region 1 with (fail)
  obtain ⟨w1, hw1⟩ : ∃ w1, w1 = ((w.alloc (.cells #[.int .i64 0, .int .i64 0, .slice none 0 0, .pointer none] 115)).alloc (.cells #[.int .i64 0, .int .i64 0] 29)) := ⟨_, rfl⟩
  rw [← hw1] at b0 W0 F0 ⊢
  clear hw1
  have HGr := hid (Grounded_any (K.below b0) (by have := hm.hs; omega) hm.hL hm.hnd hm.hsz hm.hab hnet)
  obtain ⟨g, hg⟩ : ∃ g, g = gndF nodes L := ⟨_, rfl⟩
  have hg0 : g.1 = 0 → g = (0, 0) := by
    intro h
    rw [hg] at h ⊢
    exact gndG_00 _ _ _ h
  rw [← hg] at HGr
  obtain ⟨g1, g2⟩ := g
  replace hg := hid hg
  go_upto_region 2 with (go_at_call 40; (with_reducible refine HGr.out.mono ?_); rintro E2 w2 ⟨rfl, hb2⟩)
  have b3 := bla (.cells #[.int .i64 g1, .int .i64 g2] 29) hb2
  have X3 : FltAt (w2.alloc (.cells #[.int .i64 g1, .int .i64 g2] 29)) w2.heap.size g1 g2 := flt_n _ _ _ rfl
  obtain ⟨w3, hw3⟩ : ∃ w3, w3 = w2.alloc (.cells #[.int .i64 g1, .int .i64 g2] 29) := ⟨_, rfl⟩
  rw [← hw3] at b3 X3 ⊢
  clear hw3
  have W3 := W0.below b3
  have F3 := flt_b F0 b3
  have bw3 := bl2 b0 b3
  have x0 := X3.c0
  have x1 := X3.c1
  have p0 := W3.c0
  have p1 := W3.c1
  have p2 := W3.c2
  have p3 := W3.c3
  have p4 := W3.fr 0
  have p5 := W3.fr 1
  have p6 := W3.fr 2
  have p7 := W3.fr 3
  have f0 := F3.c0
  have f1 := F3.c1
  have f2 := F3.fr 0
  have f3 := F3.fr 1
  have hl2 := F0.lt
  have hl3 := hb2.size
  have ne1 : w2.heap.size ≠ w.heap.size := by omega
  have ne2 : w2.heap.size ≠ w.heap.size + 1 := by omega
  have ne3 := ne1.symm
  have ne4 := ne2.symm
  clear W0 F0 b0 b3 hb2
  by_cases he : g1 = 0
  · have := hg0 he
    obtain ⟨rfl, rfl⟩ := Prod.mk.inj this
    have HM0 := Matrix_any (K.below bw3) hm.hh hm.hs hm.hL hm.hck hm.hbr hm.hkw o
    rw [← hn.out] at HM0
    obtain ⟨mm, hmm⟩ : ∃ mm, mm = matF nodes br L (val o) := ⟨_, rfl⟩
    rw [← hmm] at HM0
    by_cases em : mm.1.1 = 0
    · have hm0 := matF_00 (x := val o) (nodes := nodes) (br := br) (L := L) (by rw [← hmm]; exact em)
      rw [← hmm, ← hn.out] at hm0
      have HM : Hid (Calls Try.prog 8 #[.pointer (some ⟨N.n, 0, none⟩), .float .f64 o] w3 fun E w' => ∃ (v : Value) (l : List Z), E = .returned (.tuple #[.agg #[.int .i64 n, .int .i64 n, v], .agg #[.int .i64 0, .int .i64 0]]) ∧ w'.ownsRow w3.heap.size 44 1 v l.length (l.map C) ∧ l.map zv = mm.2 ∧ Below w3.heap.size w3 w') := hid (HM0.mono fun E w' ⟨v, l, h1, h2, h3, h4⟩ => ⟨v, l, by rw [h1, if_pos em, hm0.1], h2, h3, h4⟩)
      have hGe : Hid (G = lowF n mm.2) := hid (by
        rw [hG.out]
        unfold wrkF
        rw [← hg.out, ← hmm, ← hn.out, if_neg (by simp), if_neg (by rw [em]; simp)])
      clear hG hg hg0 HM0 this he
      go_upto_region 5 with (go_at_call 8; (with_reducible refine HM.out.mono ?_); rintro E4 w4 ⟨v, l, rfl, o4, hlm, hb4⟩; obtain ⟨va, vc, rfl, -⟩ := own_cap o4)
      have b5 := bla (.cells #[.int .i64 0, .int .i64 0] 29) (bla (.cells #[.int .i64 n, .int .i64 n, .slice va l.length vc] 35) hb4)
      have X5 : FltAt ((w4.alloc (.cells #[.int .i64 n, .int .i64 n, .slice va l.length vc] 35)).alloc (.cells #[.int .i64 0, .int .i64 0] 29)) (w4.heap.size + 1) 0 0 := flt_n _ _ _ (by simp)
      have M5 : MxAt ((w4.alloc (.cells #[.int .i64 n, .int .i64 n, .slice va l.length vc] 35)).alloc (.cells #[.int .i64 0, .int .i64 0] 29)) w4.heap.size n n (.slice va l.length vc) := MxAt.below (blk_new _ _) (bl_a _ _)
      have s5 : w4.heap.size + 1 < ((w4.alloc (.cells #[.int .i64 n, .int .i64 n, .slice va l.length vc] 35)).alloc (.cells #[.int .i64 0, .int .i64 0] 29)).heap.size := by simp
      have own5 : Sl ((w4.alloc (.cells #[.int .i64 n, .int .i64 n, .slice va l.length vc] 35)).alloc (.cells #[.int .i64 0, .int .i64 0] 29)) (.slice va l.length vc) (l.map C) := Sl.of_owns ((o4.alloc _).alloc _)
      obtain ⟨w5, hw5⟩ : ∃ w5, w5 = (w4.alloc (.cells #[.int .i64 n, .int .i64 n, .slice va l.length vc] 35)).alloc (.cells #[.int .i64 0, .int .i64 0] 29) := ⟨_, rfl⟩
      rw [← hw5] at b5 X5 M5 own5 s5 ⊢
      clear hw5 p0 p1 p2 p3 p4 p5 p6 p7 f0 f1 f2 f3 x0 x1
      have W5 := W3.below b5
      have F5 := flt_b F3 b5
      have bw5 := bl2 bw3 b5
      have hll : l.length = n * n := by
        have := congrArg List.length hlm
        rw [List.length_map, hm0.2] at this
        exact this
      have HLow := LowOf_any w5 n hn64 l hll (.slice va l.length vc) own5
      rw [hlm] at HLow
      obtain ⟨r, hr⟩ : ∃ r, r = lowF n mm.2 := ⟨_, rfl⟩
      have hr0 : r.1.1 = 0 → r.1 = (0, 0) := fun h => by rw [hr] at h ⊢; exact lowF_00 h
      rw [← hr] at HLow hGe
      clear hr hll hlm own5 o4 HM hm0 hmm
      have hl4 := hb4.size
      have hlt3 := F3.lt
      have x0 := X5.c0
      have x1 := X5.c1
      have m0 := M5.c0
      have m1 := M5.c1
      have m2 := M5.c2
      have ne5 : w4.heap.size + 1 ≠ w.heap.size := by omega
      have ne6 : w4.heap.size + 1 ≠ w.heap.size + 1 := by omega
      have ne7 := ne5.symm
      have ne8 := ne6.symm
      have ne9 : w4.heap.size ≠ w.heap.size := by omega
      have neA : w4.heap.size ≠ w.heap.size + 1 := by omega
      have neB := ne9.symm
      have neC := neA.symm
      by_cases er : r.1.1 = 0
      · have hr1 := hr0 er
        obtain ⟨⟨r1, r2⟩, rr⟩ := r
        obtain ⟨rfl, rfl⟩ := Prod.mk.inj hr1
        have HL2 : Hid (Calls Try.prog 78 #[.agg #[.int .i64 n, .int .i64 n, .slice va l.length vc]] w5 fun E w' => ∃ lb : Nat, E = .returned (.tuple #[.pointer (some ⟨lb, 0, none⟩), .agg #[.int .i64 0, .int .i64 0]]) ∧ Below w5.heap.size w5 w' ∧ (rr.2.2 = 1 ∨ rr.2.2 = -1) ∧ ∃ ρ rv ov rw rs, LoR w5.heap.size ρ w' lb n rv ov rr.2.2 rw rr.2.1 rs id n ∧ Ent rs n rr.1) := hid (HLow.mono fun E w' ⟨v, h1, h2, h3⟩ => by
          rcases h3 with ⟨h3, -⟩ | ⟨-, h4, lb, ρ, rv, ov, rw', rs, rfl, h5, h6⟩
          · exact absurd rfl h3
          · exact ⟨lb, h1, h2, h4, ρ, rv, ov, rw', rs, h5, h6⟩)
        clear HLow hr0 hr1 er
        go_upto_region 8 with (go_at_call 78; (with_reducible refine HL2.out.mono ?_); rintro E6 w6 ⟨lb, rfl, hb6, hsg6, hLo⟩; have X6 := X5.below hb6 s5; have x2 := X6.c0; have x3 := X6.c1; have x4 := X6.fr 0; have x5 := X6.fr 1)
        obtain ⟨ρ, rv, ov, rw', rs, HL, hE6⟩ := hLo
        have M6 := MxAt.below M5 hb6
        have W6 := WrkB.below W5 hb6
        have F6 := flt_b F5 hb6
        have b6 := bl2 bw5 hb6
        have X7 := X6.set2 (0) (0)
        have M7 := (M6.other (a := ⟨w4.heap.size + 1, 0, none⟩) (Nat.succ_ne_self _).symm (.int .i64 (0))).other (a := ⟨w4.heap.size + 1, 1, none⟩) (Nat.succ_ne_self _).symm (.int .i64 (0))
        have W7 := (W6.other (a := ⟨w4.heap.size + 1, 0, none⟩) ne7 (.int .i64 (0))).other (a := ⟨w4.heap.size + 1, 1, none⟩) ne7 (.int .i64 (0))
        have F7 := (F6.other (a := ⟨w4.heap.size + 1, 0, none⟩) ne8 (.int .i64 (0))).other (a := ⟨w4.heap.size + 1, 1, none⟩) ne8 (.int .i64 (0))
        have b7 := below_set2 b6 (.int .i64 (0)) (.int .i64 (0)) (show w.heap.size ≤ w4.heap.size + 1 by omega)
        have R7 := (HL.own.setLow (p := ⟨w4.heap.size + 1, 0, none⟩) s5 (.int .i64 (0))).setLow (p := ⟨w4.heap.size + 1, 1, none⟩) s5 (.int .i64 (0))
        obtain ⟨w7, hw7⟩ : ∃ w7, w7 = (w6.setCell ⟨w4.heap.size + 1, 0, none⟩ (.int .i64 (0))).setCell ⟨w4.heap.size + 1, 1, none⟩ (.int .i64 (0)) := ⟨_, rfl⟩
        rw [← hw7] at X7 M7 W7 F7 b7 R7 ⊢
        clear hw7 x0 x1 x2 x3 x4 x5 m0 m1 m2 X6 M6 W6 F6 b6 X5 M5 W5 F5
        have x0 := X7.c0
        have x1 := X7.c1
        have m0 := M7.c0
        have m1 := M7.c1
        have m2 := M7.c2
        have p0 := (W7).c0; have p1 := (W7).c1; have p2 := (W7).c2; have p3 := (W7).c3; have p4 := (W7).fr 0; have p5 := (W7).fr 1; have p6 := (W7).fr 2; have p7 := (W7).fr 3; have f0 := (F7).c0; have f1 := (F7).c1; have f2 := (F7).fr 0; have f3 := (F7).fr 1
        go_region_with (fail)
        all_goals
          go_wp2
          obtain ⟨w9, hw9, W9, F9, b9⟩ := wrk_end W7 F7 b7 n n (.slice va l.length vc) (.pointer (some ⟨lb, 0, none⟩)) (0) (0)
          have q1 : w.heap.size < w5.heap.size := by omega
          have q2 : w.heap.size + 1 < w5.heap.size := by omega
          have R9 : RS w5.heap.size ρ w9 := by
            rw [hw9]
            exact (((((R7.setLow (p := ⟨w.heap.size, 0, none⟩) q1 _).setLow (p := ⟨w.heap.size, 1, none⟩) q1 _).setLow (p := ⟨w.heap.size, 2, none⟩) q1 _).setLow (p := ⟨w.heap.size, 3, none⟩) q1 _).setLow (p := ⟨w.heap.size + 1, 0, none⟩) q2 _).setLow (p := ⟨w.heap.size + 1, 1, none⟩) q2 _
          rw [← hw9]
          refine bodyPost_ret (results_wrk rfl _ _ w.heap.size (w.heap.size + 1) n n (0) (0) _ _ rfl rfl (show WrkB w9.drew _ _ _ _ _ from W9) (show FltAt w9.drew _ _ _ from F9)) rfl ?_
          rw [hGe.out]
          exact ⟨n, n, _, _, _, _, rfl, b9.drew, fun _ => ⟨hsg6, lb, rfl, _, ρ, _, _, _, _, HL.same R9.drew, hE6⟩⟩
      · obtain ⟨⟨r1, r2⟩, rr⟩ := r
        have HL2 : Hid (Calls Try.prog 78 #[.agg #[.int .i64 n, .int .i64 n, .slice va l.length vc]] w5 fun E w' => E = .returned (.tuple #[.pointer none, .agg #[.int .i64 r1, .int .i64 r2]]) ∧ Below w5.heap.size w5 w') := hid (HLow.mono fun E w' ⟨v, h1, h2, h3⟩ => by
          rcases h3 with ⟨-, rfl⟩ | ⟨h4, -⟩
          · exact ⟨h1, h2⟩
          · exact absurd h4 er)
        clear HLow hr0
        go_upto_region 8 with (go_at_call 78; (with_reducible refine HL2.out.mono ?_); rintro E6 w6 ⟨rfl, hb6⟩; have X6 := X5.below hb6 s5; have x2 := X6.c0; have x3 := X6.c1; have x4 := X6.fr 0; have x5 := X6.fr 1)
        have M6 := MxAt.below M5 hb6
        have W6 := WrkB.below W5 hb6
        have F6 := flt_b F5 hb6
        have b6 := bl2 bw5 hb6
        have X7 := X6.set2 (r1) (r2)
        have M7 := (M6.other (a := ⟨w4.heap.size + 1, 0, none⟩) (Nat.succ_ne_self _).symm (.int .i64 (r1))).other (a := ⟨w4.heap.size + 1, 1, none⟩) (Nat.succ_ne_self _).symm (.int .i64 (r2))
        have W7 := (W6.other (a := ⟨w4.heap.size + 1, 0, none⟩) ne7 (.int .i64 (r1))).other (a := ⟨w4.heap.size + 1, 1, none⟩) ne7 (.int .i64 (r2))
        have F7 := (F6.other (a := ⟨w4.heap.size + 1, 0, none⟩) ne8 (.int .i64 (r1))).other (a := ⟨w4.heap.size + 1, 1, none⟩) ne8 (.int .i64 (r2))
        have b7 := below_set2 b6 (.int .i64 (r1)) (.int .i64 (r2)) (show w.heap.size ≤ w4.heap.size + 1 by omega)
        obtain ⟨w7, hw7⟩ : ∃ w7, w7 = (w6.setCell ⟨w4.heap.size + 1, 0, none⟩ (.int .i64 (r1))).setCell ⟨w4.heap.size + 1, 1, none⟩ (.int .i64 (r2)) := ⟨_, rfl⟩
        rw [← hw7] at X7 M7 W7 F7 b7 ⊢
        clear hw7 x0 x1 x2 x3 x4 x5 m0 m1 m2 X6 M6 W6 F6 b6 X5 M5 W5 F5
        have x0 := X7.c0
        have x1 := X7.c1
        have m0 := M7.c0
        have m1 := M7.c1
        have m2 := M7.c2
        have p0 := (W7).c0; have p1 := (W7).c1; have p2 := (W7).c2; have p3 := (W7).c3; have p4 := (W7).fr 0; have p5 := (W7).fr 1; have p6 := (W7).fr 2; have p7 := (W7).fr 3; have f0 := (F7).c0; have f1 := (F7).c1; have f2 := (F7).fr 0; have f3 := (F7).fr 1
        go_region_with (fail)
        all_goals
          go_wp2
          obtain ⟨w9, hw9, W9, F9, b9⟩ := wrk_end W7 F7 b7 n n (.slice va l.length vc) (.pointer none) (r1) (r2)
          rw [← hw9]
          refine bodyPost_ret (results_wrk rfl _ _ w.heap.size (w.heap.size + 1) n n (r1) (r2) _ _ rfl rfl (show WrkB w9.drew _ _ _ _ _ from W9) (show FltAt w9.drew _ _ _ from F9)) rfl ?_
          rw [hGe.out]
          exact ⟨n, n, _, _, _, _, rfl, b9.drew, fun h => absurd h er⟩
    · have hem : ¬ (mm.1.1 : Int) = 0 := em
      have HM : Hid (Calls Try.prog 8 #[.pointer (some ⟨N.n, 0, none⟩), .float .f64 o] w3 fun E w' => ∃ (v : Value), E = .returned (.tuple #[.agg #[.int .i64 0, .int .i64 0, v], .agg #[.int .i64 mm.1.1, .int .i64 mm.1.2]]) ∧ (∃ a n c, v = .slice a n c) ∧ Below w3.heap.size w3 w') := hid (HM0.mono fun E w' ⟨v, l, h1, h2, h3, h4⟩ => ⟨v, by rw [h1, if_neg em], (by obtain ⟨a, c, e, -⟩ := own_cap h2; exact ⟨a, _, c, e⟩), h4⟩)
      have hGe : Hid (G = (mm.1, fun _ _ => (none, none), id, 1)) := hid (by
        rw [hG.out]
        unfold wrkF
        rw [← hg.out, ← hmm, if_neg (by simp), if_pos em])
      obtain ⟨⟨m1, m2⟩, mD⟩ := mm
      clear hG hg hg0 HM0 this he hmm
      go_upto_region 5 with (go_at_call 8; (with_reducible refine HM.out.mono ?_); rintro E4 w4 ⟨v, rfl, ⟨va, vn, vc, rfl⟩, hb4⟩)
      have b5 := bla (.cells #[.int .i64 m1, .int .i64 m2] 29) (bla (.cells #[.int .i64 0, .int .i64 0, .slice va vn vc] 35) hb4)
      have X5 : FltAt ((w4.alloc (.cells #[.int .i64 0, .int .i64 0, .slice va vn vc] 35)).alloc (.cells #[.int .i64 m1, .int .i64 m2] 29)) (w4.heap.size + 1) m1 m2 := flt_n _ _ _ (by simp)
      obtain ⟨w5, hw5⟩ : ∃ w5, w5 = (w4.alloc (.cells #[.int .i64 0, .int .i64 0, .slice va vn vc] 35)).alloc (.cells #[.int .i64 m1, .int .i64 m2] 29) := ⟨_, rfl⟩
      rw [← hw5] at b5 X5 ⊢
      clear hw5 p0 p1 p2 p3 p4 p5 p6 p7 f0 f1 f2 f3 x0 x1
      have W5 := W3.below b5
      have F5 := flt_b F3 b5
      have bw5 := bl2 bw3 b5
      have x0 := X5.c0
      have x1 := X5.c1
      have p0 := (W5).c0; have p1 := (W5).c1; have p2 := (W5).c2; have p3 := (W5).c3; have p4 := (W5).fr 0; have p5 := (W5).fr 1; have p6 := (W5).fr 2; have p7 := (W5).fr 3; have f0 := (F5).c0; have f1 := (F5).c1; have f2 := (F5).fr 0; have f3 := (F5).fr 1
      have hl4 := hb4.size
      have hlt3 := F3.lt
      have ne5 : w4.heap.size + 1 ≠ w.heap.size := by omega
      have ne6 : w4.heap.size + 1 ≠ w.heap.size + 1 := by omega
      have ne7 := ne5.symm
      have ne8 := ne6.symm
      go_upto_region 6 with (fail)
      go_region_with (fail)
      all_goals
        go_wp2
        obtain ⟨w9, hw9, W9, F9, b9⟩ := wrk_end W5 F5 bw5 0 0 (.slice none 0 0) (.pointer none) m1 m2
        rw [← hw9]
        refine bodyPost_ret (results_wrk rfl _ _ w.heap.size (w.heap.size + 1) 0 0 m1 m2 _ _ rfl rfl (show WrkB w9.drew _ _ _ _ _ from W9) (show FltAt w9.drew _ _ _ from F9)) rfl ?_
        rw [hGe.out]
        exact ⟨0, 0, _, _, _, _, rfl, b9.drew, fun h => absurd h em⟩
  · have he1 : ¬ (g1 : Int) = 0 := he
    have hGe := hid (show G = ((g1, g2), fun _ _ => (none, none), id, 1) by
      rw [hG.out]
      unfold wrkF
      rw [← hg.out, if_pos he])
    clear hG hg hg0
    go_upto_region 3 with (fail)
    go_region_with (fail)
    all_goals
      go_wp2
      obtain ⟨w9, hw9, W9, F9, b9⟩ := wrk_end W3 F3 bw3 0 0 (.slice none 0 0) (.pointer none) g1 g2
      rw [← hw9]
      refine bodyPost_ret (results_wrk rfl _ _ w.heap.size (w.heap.size + 1) 0 0 g1 g2 _ _ rfl rfl (show WrkB w9.drew _ _ _ _ _ from W9) (show FltAt w9.drew _ _ _ from F9)) rfl ?_
      rw [hGe.out]
      exact ⟨0, 0, _, _, _, _, rfl, b9.drew, fun h => absurd h he⟩
end Go.Proofs.Ytgcakhmdmajplaa

namespace Go.Proofs.Ytgcakhmdmajplaa
open Go.RowKit

/-- What With tells: the fault; the unknowns. -/
def withF (nodes br : List ByteArray) (L : List El) (x : Option Nat) (b : List CV) : (Int × Int) × (Nat → CV) :=
  if askF x ≠ 0 then ((askF x, -1), fun _ => (none, none))
  else if b.all cfin = false then ((5, -1), fun _ => (none, none))
  else if (wrkF nodes br L x).1.1 ≠ 0 then ((wrkF nodes br L x).1, fun _ => (none, none))
  else if (solF (nodes.length + br.length) (wrkF nodes br L x).2.1 (wrkF nodes br L x).2.2.1 b).1 ≠ 0 then (((solF (nodes.length + br.length) (wrkF nodes br L x).2.1 (wrkF nodes br L x).2.2.1 b).1, -1), fun _ => (none, none))
  else ((0, 0), (solF (nodes.length + br.length) (wrkF nodes br L x).2.1 (wrkF nodes br L x).2.2.1 b).2)
def RetSlv (w : World) (n k : Nat) (r : (Int × Int) × (Nat → CV)) (o : Nat) (E : Ending) (w' : World) : Prop := ∃ (ov : Nat) (aa : Option Addr) (an ac : Nat) (ba : Option Addr) (bn bc : Nat), E = .returned (.tuple #[.agg #[.float .f64 ov, .slice aa an ac, .slice ba bn bc], .agg #[.int .i64 r.1.1, .int .i64 r.1.2]]) ∧ Below w.heap.size w w' ∧ ((r.1.1 ≠ 0 ∧ ov = 0 ∧ Value.slice aa an ac = .slice none 0 0 ∧ Value.slice ba bn bc = .slice none 0 0) ∨ (r.1.1 = 0 ∧ ov = o ∧ ∃ l : List Z, l.map zv = (List.range n).map r.2 ∧ w'.ownsRow w.heap.size 44 1 (.slice aa an ac) k ((l.take k).map C) ∧ w'.ownsRow w.heap.size 44 1 (.slice ba bn bc) (l.length - k) ((l.drop k).map C)))
theorem SolB.other {w : World} {b o : Nat} {x y : Value} (h : SolB w b o x y) {a : Addr} (ha : b ≠ a.block) (u : Value) : SolB (w.setCell a u) b o x y := by
  unfold SolB at *
  have := Ne.symm ha
  simp [World.setCell, Array.getElem?_modify, this, h]
theorem results_slv {fn : Func} {p q : Tmp} (h : fn.results = #[.cell p 47, .cell q 29]) (tmps : Array Value) (w : World) (b d o : Nat) (x y : Value) (f g : Int) (hp : tmps.getD p undef = .pointer (some ⟨b, 0, none⟩)) (hq : tmps.getD q undef = .pointer (some ⟨d, 0, none⟩)) (hw : SolB w b o x y) (hf : FltAt w d f g) :
    (results fn tmps).run Try.prog w = .ok (.tuple #[.agg #[.float .f64 o, x, y], .agg #[.int .i64 f, .int .i64 g]]) w := by
  have c0 := hw.c0
  have c1 := hw.c1
  have c2 := hw.c2
  have d0 := hf.c0
  have d1 := hf.c1
  simp only [Array.getD_eq_getD_getElem?] at hp hq ⊢
  simp [results, h, hp, hq, go_sem, c0, c1, c2, d0, d1, Sem.run_bind, Result.andThen]
theorem own_low {w : World} {B e n : Nat} {v : Value} {cs : List Value} (h : w.ownsRow B e 1 v n cs) {p : Addr} (hp : p.block < B) (u : Value) : (w.setCell p u).ownsRow B e 1 v n cs := by
  obtain ⟨h1, h2⟩ := h
  refine ⟨h1, ?_⟩
  rcases h2 with h2 | ⟨g, cap, cur, e, hg, hh, r⟩
  · exact .inl h2
  · refine .inr ⟨g, cap, cur, e, hg, ?_, r⟩
    have hne : p.block ≠ g := by omega
    simp [World.setCell, Array.getElem?_modify, hne]
    exact hh
/-- The two results, stored. -/
theorem slv_end {w w3 : World} {o : Nat} {x y : Value} {f g : Int} (W : SolB w3 w.heap.size o x y) (F : FltAt w3 (w.heap.size + 1) f g) (b : Below w.heap.size w w3) (o' : Nat) (x' y' : Value) (f' g' : Int) : ∃ w4, w4 = (((((w3.setCell ⟨w.heap.size, 0, none⟩ (.float .f64 o')).setCell ⟨w.heap.size, 1, none⟩ x').setCell ⟨w.heap.size, 2, none⟩ y').setCell ⟨w.heap.size + 1, 0, none⟩ (.int .i64 f')).setCell ⟨w.heap.size + 1, 1, none⟩ (.int .i64 g')) ∧ SolB w4 w.heap.size o' x' y' ∧ FltAt w4 (w.heap.size + 1) f' g' ∧ Below w.heap.size w w4 := by
  have W1 := W.set o' x' y'
  have F1 := ((F.other (a := ⟨w.heap.size, 0, none⟩) (Nat.succ_ne_self _) (.float .f64 o')).other (a := ⟨w.heap.size, 1, none⟩) (Nat.succ_ne_self _) x').other (a := ⟨w.heap.size, 2, none⟩) (Nat.succ_ne_self _) y'
  refine ⟨_, rfl, (W1.other (a := ⟨w.heap.size + 1, 0, none⟩) (Nat.succ_ne_self _).symm _).other (a := ⟨w.heap.size + 1, 1, none⟩) (Nat.succ_ne_self _).symm _, F1.set2 f' g', ?_⟩
  exact ((((b.setCell (Nat.le_refl _) _).setCell (Nat.le_refl _) _).setCell (Nat.le_refl _) _).setCell (Nat.le_succ _) _).setCell (Nat.le_succ _) _
set_option maxRecDepth 100000 in
set_option maxHeartbeats 4000000 in
theorem With_any {w : World} {B : Nat} {N : NB} {V : NV} {L : List El} {nodes br ks : List ByteArray} (K : NetR w B N V L nodes br ks nodes br) (hm : Mn L nodes br ks) (o : Nat) (l : List Z) (rv : Value) (hs : Sl w rv (l.map C)) (hl : l.length = nodes.length + br.length) :
    Calls Try.prog 42 #[.pointer (some ⟨N.n, 0, none⟩), .float .f64 o, rv] w (RetSlv w (nodes.length + br.length) nodes.length (withF nodes br L (val o) (l.map zv)) o) := by
  obtain ⟨n, hn⟩ : ∃ n, n = nodes.length + br.length := ⟨_, rfl⟩
  have hn64 : n ≤ 64 := by have := hm.hs; omega
  have hni : (nodes.length : Int) + (br.length : Int) = (n : Int) := by rw [hn]; push_cast; rfl
  obtain ⟨G, hG⟩ : ∃ G, G = withF nodes br L (val o) (l.map zv) := ⟨_, rfl⟩
  rw [← hn, ← hG]
  rw [← hn] at hl
  subst hl
  replace hG := hid hG
  replace hn := hid hn
  have b0 : Below w.heap.size w ((w.alloc (.cells #[.float .f64 0, .slice none 0 0, .slice none 0 0] 47)).alloc (.cells #[.int .i64 0, .int .i64 0] 29)) := bla _ (bl_a _ _)
  have W0 : SolB ((w.alloc (.cells #[.float .f64 0, .slice none 0 0, .slice none 0 0] 47)).alloc (.cells #[.int .i64 0, .int .i64 0] 29)) w.heap.size 0 (.slice none 0 0) (.slice none 0 0) := SolB.below (blk_new _ _) (bl_a _ _)
  have F0 : FltAt ((w.alloc (.cells #[.float .f64 0, .slice none 0 0, .slice none 0 0] 47)).alloc (.cells #[.int .i64 0, .int .i64 0] 29)) (w.heap.size + 1) 0 0 := flt_n _ 0 0 (by simp)
  obtain ⟨ra, rc, rfl, -⟩ := hs.cz
  go_enter Try.func42, Try.ntmps42
  go_upto_region 1 with (fail)
  obtain ⟨w1, hw1⟩ : ∃ w1, w1 = ((w.alloc (.cells #[.float .f64 0, .slice none 0 0, .slice none 0 0] 47)).alloc (.cells #[.int .i64 0, .int .i64 0] 29)) := ⟨_, rfl⟩
  rw [← hw1] at b0 W0 F0 ⊢
  clear hw1
  have HA := hid (asked_any (K.below b0) hm.hh o)
  have HNo := hid fun e (he : e ≠ 0) w => pnone_any e he w
  obtain ⟨e, he⟩ : ∃ e, e = askF (val o) := ⟨_, rfl⟩
  rw [← he] at HA
  replace he := hid he
  by_cases he0 : e = 0
  · subst he0
    have HO : Hid (∀ w' : World, Below w.heap.size w w' → Calls Try.prog 22 #[.pointer (some ⟨N.n, 0, none⟩)] w' fun E w'' => E = .returned (.int .i64 l.length) ∧ ∃ n, w'' = w'.drewN n) := hid fun w' hb => (Order_any (K.below hb) (by have := hm.hs; omega) (by have := hm.hs; omega)).mono fun E w'' ⟨h1, h2⟩ => ⟨by rw [h1, hni], h2⟩
    go_upto_region 6 with (first
      | (go_at_call 38; (with_reducible refine HA.out.mono ?_); rintro E2 w2 ⟨rfl, hb2⟩; have b2 := bl2 b0 hb2; have W2 := SolB.below W0 hb2; have F2 := flt_b F0 hb2)
      | (go_at_call 22; (with_reducible refine (HO.out _ b2).mono ?_); rintro E3 w3 ⟨rfl, ⟨n3, hw3⟩⟩; have b3 := below_drewN' b2 n3; rw [← hw3] at b3; have W3 := (show SolB (w2.drewN n3) w.heap.size 0 (.slice none 0 0) (.slice none 0 0) from W2); rw [← hw3] at W3; have F3 := (show FltAt (w2.drewN n3) (w.heap.size + 1) 0 0 from F2); rw [← hw3] at F3; clear hw3))
    clear b0 b2 W0 W2 F0 F2 HA HO
    have hs3 := hs.below b3
    go_wp2
    go_loopw [32] (fun i w' => FinLoop w3 l i w') (fun i _ => l.length + 1 - (intOf i).toNat)
    case atStart => exact ⟨0, 0, rfl, Nat.zero_le _, rfl, fun q z hq => absurd hq (Nat.not_lt_zero _)⟩
    case round =>
      obtain ⟨p, nd, rfl, hp, rfl, hfin⟩ := hrel
      by_cases hpn : p < l.length
      · have g6 : (p : Int) < (l.length : Int) := by omega
        obtain ⟨z, hz⟩ : ∃ z, l[p]? = some z := ⟨l[p]'hpn, List.getElem?_eq_getElem hpn⟩
        obtain ⟨a', cap', e', hc⟩ := hs3.cz
        cases e'
        obtain ⟨b, off, rfl, cz0⟩ := hc p z hz
        have cz : (w3.drewN nd).cell? ⟨b, off + p, none⟩ = some (.complex .f64 z.1 z.2) := cz0
        have HFi : Hid (∀ w, Calls Try.prog 61 #[.complex .f64 z.1 z.2] w (RetB w (cfin (zv z)))) := hid fun w => Finite_q z.1 z.2 (zv z) rfl w
        cases hcf : cfin (zv z) with
        | false =>
          have hGe := hid (show G = ((5, -1), fun _ => (none, none)) by
            rw [hG.out]
            unfold withF
            rw [← he.out, if_neg (by simp), if_pos]
            rw [List.all_eq_false]
            exact ⟨zv z, List.mem_map.2 ⟨z, List.mem_of_getElem? hz, rfl⟩, by rw [hcf]; simp⟩)
          rw [hcf] at HFi
          clear hc hz cz0 hfin hG hcf hs3
          go_wp2_with (first
            | (go_at_call 61; (with_reducible refine (HFi.out _).mono ?_); rintro E6 w6 ⟨rfl, ⟨n6, rfl⟩⟩)
            | (go_at_call 39; (with_reducible refine (HNo.out 5 (by decide) _).mono ?_); rintro E7 w7 ⟨rfl, hb7⟩; have b7 : Below w.heap.size w w7 := bl2 (below_drewN' b3 (nd + n6)) hb7; have W7 : SolB w7 w.heap.size 0 (.slice none 0 0) (.slice none 0 0) := SolB.below (show SolB (w3.drewN (nd + n6)) w.heap.size 0 (.slice none 0 0) (.slice none 0 0) from W3) hb7; have F7 : FltAt w7 (w.heap.size + 1) 0 0 := flt_b (show FltAt (w3.drewN (nd + n6)) (w.heap.size + 1) 0 0 from F3) hb7; have p0 := (W7).c0; have p1 := (W7).c1; have p2 := (W7).c2; have p4 := (W7).fr 0; have p5 := (W7).fr 1; have p6 := (W7).fr 2; have f0 := (F7).c0; have f1 := (F7).c1; have f2 := (F7).fr 0; have f3 := (F7).fr 1))
          obtain ⟨w9, hw9, W9, F9, b9⟩ := slv_end W7 F7 b7 0 (.slice none 0 0) (.slice none 0 0) 5 (-1)
          rw [← hw9]
          refine bodyPost_ret (results_slv rfl _ _ w.heap.size (w.heap.size + 1) _ _ _ _ _ rfl rfl W9 F9) rfl ?_
          rw [hGe.out]
          exact ⟨0, _, _, _, _, _, _, rfl, b9, .inl ⟨(show (5 : Int) ≠ 0 by decide), rfl, rfl, rfl⟩⟩
        | true =>
          rw [hcf] at HFi
          have hfin2 : Hid (∀ q z, q < p + 1 → l[q]? = some z → cfin (zv z) = true) := hid (by
            intro q y hq hy
            rcases Nat.lt_or_ge q p with h | h
            · exact hfin q y h hy
            · obtain rfl : q = p := by omega
              rw [hz] at hy
              rw [← Option.some.inj hy]
              exact hcf)
          clear hc hz cz0 hfin hG hcf hs3
          go_wp2_with (first | (go_at_call 61; (with_reducible refine (HFi.out _).mono ?_); rintro E6 w6 ⟨rfl, ⟨n6, rfl⟩⟩))
          go_roundw
          case rel => exact ⟨p + 1, _, by go_num, hpn, rfl, hfin2.out⟩
          case measure => simp [intOf]; omega
      · obtain rfl : p = l.length := by omega
        have g6 : ¬ (l.length : Int) < (l.length : Int) := by omega
        have hfa : (l.map zv).all cfin = true := by
          rw [List.all_eq_true]
          intro x hx
          obtain ⟨z, hz, rfl⟩ := List.mem_map.1 hx
          obtain ⟨q, hq⟩ := List.getElem?_of_mem hz
          exact hfin q z (List.getElem?_eq_some_iff.1 hq).1 hq
        clear hfin
        obtain ⟨w4, hw4⟩ : ∃ w4, w4 = w3.drewN nd := ⟨_, rfl⟩
        have b4 : Below w.heap.size w w4 := by rw [hw4]; exact below_drewN' b3 _
        have W4 : SolB w4 w.heap.size 0 (.slice none 0 0) (.slice none 0 0) := by rw [hw4]; exact W3
        have F4 : FltAt w4 (w.heap.size + 1) 0 0 := by rw [hw4]; exact F3
        rw [← hw4]
        clear hw4 b3 W3 F3 hs3
        have HW := work_any (K.below b4) hm o
        rw [← hn.out] at HW
        obtain ⟨r, hr⟩ : ∃ r, r = wrkF nodes br L (val o) := ⟨_, rfl⟩
        have hro : ∀ i, i < l.length → r.2.2.1 i < l.length := by
          rw [hr]
          unfold wrkF
          rw [← hn.out]
          split
          · exact fun i hi => hi
          · split
            · exact fun i hi => hi
            · exact lowF_od hn64
        have hr00 : r.1.1 = 0 → r.1 = (0, 0) := by
          rw [hr]
          unfold wrkF
          split
          · exact fun h => absurd h ‹_›
          · split
            · exact fun h => absurd h ‹_›
            · exact lowF_00
        have hG2 : G = (if r.1.1 ≠ 0 then (r.1, fun _ => (none, none)) else if (solF l.length r.2.1 r.2.2.1 (l.map zv)).1 ≠ 0 then (((solF l.length r.2.1 r.2.2.1 (l.map zv)).1, -1), fun _ => (none, none)) else ((0, 0), (solF l.length r.2.1 r.2.2.1 (l.map zv)).2)) := by
          rw [hG.out]
          unfold withF
          rw [← he.out, if_neg (by simp), if_neg (by rw [hfa]; simp), ← hr, ← hn.out]
        rw [← hr] at HW
        clear hr hfa hG he
        replace HW := hid HW
        replace hG2 := hid hG2
        replace hro := hid hro
        replace hr00 := hid hr00
        go_upto_region 13 with (go_at_call 65; (with_reducible refine HW.out.mono ?_); rintro E5 w5 ⟨wx, wy, wva, wvn, wvc, wp, rfl, hb5, hL5⟩)
        obtain ⟨⟨r1, r2⟩, rM, rO, rS⟩ := r
        have b6 := bl2 b4 (bla (.cells #[.int .i64 r1, .int .i64 r2] 29) (bla (.cells #[.int .i64 wx, .int .i64 wy, .slice wva wvn wvc, .pointer wp] 115) hb5))
        have X6 : FltAt ((w5.alloc (.cells #[.int .i64 wx, .int .i64 wy, .slice wva wvn wvc, .pointer wp] 115)).alloc (.cells #[.int .i64 r1, .int .i64 r2] 29)) (w5.heap.size + 1) r1 r2 := flt_n _ _ _ (by simp)
        have V6 : WrkB ((w5.alloc (.cells #[.int .i64 wx, .int .i64 wy, .slice wva wvn wvc, .pointer wp] 115)).alloc (.cells #[.int .i64 r1, .int .i64 r2] 29)) w5.heap.size wx wy (.slice wva wvn wvc) (.pointer wp) := WrkB.below (blk_new _ _) (bl_a _ _)
        have hb6 := bla (.cells #[.int .i64 r1, .int .i64 r2] 29) (bl_a w5 (.cells #[.int .i64 wx, .int .i64 wy, .slice wva wvn wvc, .pointer wp] 115))
        obtain ⟨w6, hw6⟩ : ∃ w6, w6 = (w5.alloc (.cells #[.int .i64 wx, .int .i64 wy, .slice wva wvn wvc, .pointer wp] 115)).alloc (.cells #[.int .i64 r1, .int .i64 r2] 29) := ⟨_, rfl⟩
        rw [← hw6] at b6 X6 V6 hb6 ⊢
        clear hw6
        have hl4 := W4.lt
        have hlt4 := F4.lt
        have hl5 := hb5.size
        have W6 := (W4.below hb5).below hb6
        have F6 := flt_b (flt_b F4 hb5) hb6
        have ne1 : w5.heap.size + 1 ≠ w.heap.size := by omega
        have ne2 : w5.heap.size + 1 ≠ w.heap.size + 1 := by omega
        have ne3 := ne1.symm
        have ne4 := ne2.symm
        have x0 := X6.c0
        have x1 := X6.c1
        have y1 := V6.c3
        have p0 := (W6).c0; have p1 := (W6).c1; have p2 := (W6).c2; have p4 := (W6).fr 0; have p5 := (W6).fr 1; have p6 := (W6).fr 2; have f0 := (F6).c0; have f1 := (F6).c1; have f2 := (F6).fr 0; have f3 := (F6).fr 1
        by_cases er : r1 = 0
        · obtain ⟨rfl, rfl⟩ := Prod.mk.inj (hr00.out er)
          obtain ⟨hsg, lb, rfl, hLo⟩ := hL5 rfl
          have HS := hid fun w' (hb : Below w6.heap.size w6 w') => Solve_any w' lb l.length hn64 rM rO rS ((hLo.below hb6).below hb) hsg hro.out l (.slice ra l.length rc) ((hs.below b6).below hb) (by omega)
          obtain ⟨q, hq⟩ : ∃ q, q = solF l.length rM rO (l.map zv) := ⟨_, rfl⟩
          have hG3 : G = (if q.1 ≠ 0 then ((q.1, -1), fun _ => (none, none)) else ((0, 0), q.2)) := by
            rw [hG2.out, if_neg (by simp), hq]
          rw [← hq] at HS
          clear hq hG2 hro hr00 er hL5 hsg hb5
          replace hG3 := hid hG3
          obtain ⟨qe, qx⟩ := q
          by_cases eq : qe = 0
          · subst eq
            have hGe := hid (show G = ((0, 0), qx) by rw [hG3.out, if_neg (by simp)])
            have hkn : nodes.length ≤ l.length := by have := hn.out; omega
            have HLa := hid fun w' (hb : Below w.heap.size w w') xb (ul : List Z) (hul : ul.length = l.length) hx => laid_any (K.below hb) (by omega) o xb l.length hkn hn64 ul hul (w := w') hx
            clear hG3
            go_upto_region 18 with (go_at_call 66; (with_reducible refine (HS.out _ (Below.refl _ _)).mono ?_); rintro E7 w7 ⟨v, rfl, hb7, hq7⟩)
            rcases hq7 with ⟨hq7, -⟩ | ⟨-, ul, xb, rfl, hxc, hxm⟩
            · exact absurd rfl hq7
            have hul : ul.length = l.length := by
              have := congrArg List.length hxm
              rw [List.length_map, List.length_map, List.length_range] at this
              exact this
            have b7 := bl2 b6 hb7
            have W7 := W6.below hb7
            have F7 := flt_b F6 hb7
            have HLb := hid (HLa.out w7 b7 xb ul hul hxc)
            clear HLa p0 p1 p2 p4 p5 p6 f0 f1 f2 f3 hxc
            go_wp2_with (go_at_call 67; (with_reducible refine HLb.out.mono ?_); rintro E8 w8 ⟨va, vb, rfl, oa, ob, hb8⟩; obtain ⟨aa, ac, rfl, -⟩ := own_cap oa; obtain ⟨ba, bc, rfl, -⟩ := own_cap ob; have b8 := bl2 b7 hb8; have W8 := W7.below hb8; have F8 := flt_b F7 hb8; have p0 := (W8).c0; have p1 := (W8).c1; have p2 := (W8).c2; have p4 := (W8).fr 0; have p5 := (W8).fr 1; have p6 := (W8).fr 2; have f0 := (F8).c0; have f1 := (F8).c1; have f2 := (F8).fr 0; have f3 := (F8).fr 1)
            obtain ⟨w9, hw9, W9, F9, b9⟩ := slv_end W8 F8 b8 o (.slice aa nodes.length ac) (.slice ba (l.length - nodes.length) bc) 0 0
            rw [hul] at ob
            rw [← hw9]
            have l7 : w.heap.size + 1 < w7.heap.size := F7.lt
            have cut : ∀ {v : Value} {n : Nat} {cs : List Value}, w8.ownsRow w7.heap.size 44 1 v n cs → w9.ownsRow w.heap.size 44 1 v n cs := fun h => by
              rw [hw9]
              exact own_mono (own_low (own_low (own_low (own_low (own_low h (by show w.heap.size < _; omega) _) (by show w.heap.size < _; omega) _) (by show w.heap.size < _; omega) _) l7 _) l7 _) b7.size
            refine bodyPost_ret (results_slv rfl _ _ w.heap.size (w.heap.size + 1) _ _ _ _ _ rfl rfl W9 F9) rfl ?_
            rw [hGe.out]
            exact ⟨o, _, _, _, _, _, _, rfl, b9, .inr ⟨rfl, rfl, ul, hxm, cut oa, by rw [hul]; exact cut ob⟩⟩
          · have hq1 : ¬ (qe : Int) = 0 := eq
            have hGe := hid (show G = ((qe, -1), fun _ => (none, none)) by rw [hG3.out, if_pos eq])
            clear hG3
            have HS2 : Hid (Calls Try.prog 66 #[.pointer (some ⟨lb, 0, none⟩), .slice ra l.length rc] w6 fun E w' => E = .returned (.tuple #[.slice none 0 0, .int .i64 qe]) ∧ Below w6.heap.size w6 w') := hid ((HS.out _ (Below.refl _ _)).mono fun E w' ⟨v, h1, h2, h3⟩ => by
              rcases h3 with ⟨-, rfl⟩ | ⟨h3, -⟩
              · exact ⟨h1, h2⟩
              · exact absurd h3 eq)
            clear HS
            go_wp2_with (first
              | (go_at_call 66; (with_reducible refine HS2.out.mono ?_); rintro E7 w7 ⟨rfl, hb7⟩; have b7 := bl2 b6 hb7; have W7 := W6.below hb7; have F7 := flt_b F6 hb7)
              | (go_at_call 39; (with_reducible refine (HNo.out _ eq _).mono ?_); rintro E8 w8 ⟨rfl, hb8⟩; have b8 := bl2 b7 hb8; have W8 := W7.below hb8; have F8 := flt_b F7 hb8; clear p0 p1 p2 p4 p5 p6 f0 f1 f2 f3; have p0 := (W8).c0; have p1 := (W8).c1; have p2 := (W8).c2; have p4 := (W8).fr 0; have p5 := (W8).fr 1; have p6 := (W8).fr 2; have f0 := (F8).c0; have f1 := (F8).c1; have f2 := (F8).fr 0; have f3 := (F8).fr 1))
            obtain ⟨w9, hw9, W9, F9, b9⟩ := slv_end W8 F8 b8 0 (.slice none 0 0) (.slice none 0 0) qe (-1)
            rw [← hw9]
            refine bodyPost_ret (results_slv rfl _ _ w.heap.size (w.heap.size + 1) _ _ _ _ _ rfl rfl W9 F9) rfl ?_
            rw [hGe.out]
            exact ⟨0, _, _, _, _, _, _, rfl, b9, .inl ⟨eq, rfl, rfl, rfl⟩⟩
        · have hr1 : ¬ (r1 : Int) = 0 := er
          have hGe := hid (show G = ((r1, r2), fun _ => (none, none)) by rw [hG2.out, if_pos er])
          clear hG2 hro hr00 hL5
          go_upto_region 14 with (fail)
          go_region_with (fail)
          all_goals
            go_wp2
            obtain ⟨w9, hw9, W9, F9, b9⟩ := slv_end W6 F6 b6 0 (.slice none 0 0) (.slice none 0 0) r1 r2
            rw [← hw9]
            refine bodyPost_ret (results_slv rfl _ _ w.heap.size (w.heap.size + 1) 0 _ _ r1 r2 rfl rfl (show SolB w9.drew _ _ _ _ from W9) (show FltAt w9.drew _ _ _ from F9)) rfl ?_
            rw [hGe.out]
            exact ⟨0, _, _, _, _, _, _, rfl, b9.drew, .inl ⟨er, rfl, rfl, rfl⟩⟩
  · have he1 : ¬ (e : Int) = 0 := he0
    have hGe := hid (show G = ((e, -1), fun _ => (none, none)) by
      rw [hG.out]
      unfold withF
      rw [← he.out, if_pos he0])
    clear hG
    go_wp2_with (first
      | (go_at_call 38; (with_reducible refine HA.out.mono ?_); rintro E2 w2 ⟨rfl, hb2⟩)
      | (go_at_call 39; (with_reducible refine (HNo.out _ he0 _).mono ?_); rintro E3 w3 ⟨rfl, hb3⟩; have b3 := bl2 hb2 hb3; have W3 := SolB.below W0 b3; have F3 := flt_b F0 b3; have bw3 := bl2 b0 b3; have p0 := (W3).c0; have p1 := (W3).c1; have p2 := (W3).c2; have p4 := (W3).fr 0; have p5 := (W3).fr 1; have p6 := (W3).fr 2; have f0 := (F3).c0; have f1 := (F3).c1; have f2 := (F3).fr 0; have f3 := (F3).fr 1))
    obtain ⟨w9, hw9, W9, F9, b9⟩ := slv_end W3 F3 bw3 0 (.slice none 0 0) (.slice none 0 0) e (-1)
    rw [← hw9]
    refine bodyPost_ret (results_slv rfl _ _ w.heap.size (w.heap.size + 1) _ _ _ _ _ rfl rfl W9 F9) rfl ?_
    rw [hGe.out]
    exact ⟨0, _, _, _, _, _, _, rfl, b9, .inl ⟨he0, rfl, rfl, rfl⟩⟩
end Go.Proofs.Ytgcakhmdmajplaa

namespace Go.Proofs.Ytgcakhmdmajplaa
open Go.RowKit

/-- What Solve tells: the fault; the unknowns. -/
def slvF (nodes br : List ByteArray) (L : List El) (x : Option Nat) : (Int × Int) × (Nat → CV) :=
  if askF x ≠ 0 then ((askF x, -1), fun _ => (none, none))
  else if (gndF nodes L).1 ≠ 0 then (gndF nodes L, fun _ => (none, none))
  else if (matF nodes br L x).1.1 ≠ 0 then ((matF nodes br L x).1, fun _ => (none, none))
  else if (rigF nodes br L).1.1 ≠ 0 then ((rigF nodes br L).1, fun _ => (none, none))
  else withF nodes br L x ((List.range (nodes.length + br.length)).map (rigF nodes br L).2)
theorem rigG_00 (nodes br : List ByteArray) : ∀ (L : List El) (k : Nat) (x : Nat → CV), (rigG nodes br k x L).1.1 = 0 → (rigG nodes br k x L).1 = (0, 0)
  | [], _, _, _ => rfl
  | e :: r, k, x, h => by
    unfold rigG at h ⊢
    split at h
    · rename_i h1
      rw [if_pos h1]
      exact rigG_00 nodes br r _ _ h
    · cases h
set_option maxRecDepth 100000 in
set_option maxHeartbeats 4000000 in
theorem PSolve_any {w : World} {B : Nat} {N : NB} {V : NV} {L : List El} {nodes br ks : List ByteArray} (K : NetR w B N V L nodes br ks nodes br) (hm : Mn L nodes br ks) (o : Nat) :
    Calls Try.prog 24 #[.pointer (some ⟨N.n, 0, none⟩), .float .f64 o] w (RetSlv w (nodes.length + br.length) nodes.length (slvF nodes br L (val o)) o) := by
  obtain ⟨n, hn⟩ : ∃ n, n = nodes.length + br.length := ⟨_, rfl⟩
  have hn64 : n ≤ 64 := by have := hm.hs; omega
  obtain ⟨G, hG⟩ : ∃ G, G = slvF nodes br L (val o) := ⟨_, rfl⟩
  rw [← hn, ← hG]
  replace hG := hid hG
  replace hn := hid hn
  obtain ⟨s, hnet⟩ := hm.hnet
  have b0 : Below w.heap.size w ((w.alloc (.cells #[.float .f64 0, .slice none 0 0, .slice none 0 0] 47)).alloc (.cells #[.int .i64 0, .int .i64 0] 29)) := bla _ (bl_a _ _)
  have W0 : SolB ((w.alloc (.cells #[.float .f64 0, .slice none 0 0, .slice none 0 0] 47)).alloc (.cells #[.int .i64 0, .int .i64 0] 29)) w.heap.size 0 (.slice none 0 0) (.slice none 0 0) := SolB.below (blk_new _ _) (bl_a _ _)
  have F0 : FltAt ((w.alloc (.cells #[.float .f64 0, .slice none 0 0, .slice none 0 0] 47)).alloc (.cells #[.int .i64 0, .int .i64 0] 29)) (w.heap.size + 1) 0 0 := flt_n _ 0 0 (by simp)
  go_enter Try.func24, Try.ntmps24
  go_upto_region 1 with (fail)
  obtain ⟨w1, hw1⟩ : ∃ w1, w1 = ((w.alloc (.cells #[.float .f64 0, .slice none 0 0, .slice none 0 0] 47)).alloc (.cells #[.int .i64 0, .int .i64 0] 29)) := ⟨_, rfl⟩
  rw [← hw1] at b0 W0 F0 ⊢
  clear hw1
  have HA := hid (asked_any (K.below b0) hm.hh o)
  have HNo := hid fun e (he : e ≠ 0) w => pnone_any e he w
  obtain ⟨e, he⟩ : ∃ e, e = askF (val o) := ⟨_, rfl⟩
  rw [← he] at HA
  replace he := hid he
  by_cases he0 : e = 0
  · subst he0
    have HGr := hid fun w' (hb : Below w.heap.size w w') => Grounded_any (K.below hb) (by have := hm.hs; omega) hm.hL hm.hnd hm.hsz hm.hab hnet
    obtain ⟨g, hg⟩ : ∃ g, g = gndF nodes L := ⟨_, rfl⟩
    have hg0 : g.1 = 0 → g = (0, 0) := by
      intro h
      rw [hg] at h ⊢
      exact gndG_00 _ _ _ h
    have hG1 : G = if g.1 ≠ 0 then (g, fun _ => (none, none)) else if (matF nodes br L (val o)).1.1 ≠ 0 then ((matF nodes br L (val o)).1, fun _ => (none, none)) else if (rigF nodes br L).1.1 ≠ 0 then ((rigF nodes br L).1, fun _ => (none, none)) else withF nodes br L (val o) ((List.range n).map (rigF nodes br L).2) := by
      rw [hG.out]
      unfold slvF
      rw [← he.out, if_neg (by simp), ← hg, ← hn.out]
    rw [← hg] at HGr
    clear hg hG he
    obtain ⟨g1, g2⟩ := g
    replace hG1 := hid hG1
    replace hg0 := hid hg0
    go_upto_region 5 with (first
      | (go_at_call 38; (with_reducible refine HA.out.mono ?_); rintro E2 w2 ⟨rfl, hb2⟩; have b2 := bl2 b0 hb2; have W2 := SolB.below W0 hb2; have F2 := flt_b F0 hb2)
      | (go_at_call 40; (with_reducible refine (HGr.out _ b2).mono ?_); rintro E3 w3 ⟨rfl, hb3⟩; have b3 := bl2 b2 hb3; have W3 := SolB.below W2 hb3; have F3 := flt_b F2 hb3))
    have hb4 := bl_a w3 (.cells #[.int .i64 g1, .int .i64 g2] 29)
    have X4 : FltAt (w3.alloc (.cells #[.int .i64 g1, .int .i64 g2] 29)) w3.heap.size g1 g2 := flt_n _ _ _ rfl
    obtain ⟨w4, hw4⟩ : ∃ w4, w4 = w3.alloc (.cells #[.int .i64 g1, .int .i64 g2] 29) := ⟨_, rfl⟩
    rw [← hw4] at hb4 X4 ⊢
    clear hw4
    have b4 := bl2 b3 hb4
    have W4 := SolB.below W3 hb4
    have F4 := flt_b F3 hb4
    have x0 := X4.c0
    have x1 := X4.c1
    have hlt3 := F3.lt
    have ne1 : w3.heap.size ≠ w.heap.size := by omega
    have ne2 : w3.heap.size ≠ w.heap.size + 1 := by omega
    have ne3 := ne1.symm
    have ne4 := ne2.symm
    clear HA HGr W0 F0 W2 F2 W3 F3 b2 b3 b0 hb2 hb3
    by_cases eg : g1 = 0
    · obtain ⟨rfl, rfl⟩ := Prod.mk.inj (hg0.out eg)
      have HM0 := Matrix_any (K.below b4) hm.hh hm.hs hm.hL hm.hck hm.hbr hm.hkw o
      rw [← hn.out] at HM0
      obtain ⟨mm, hmm⟩ : ∃ mm, mm = matF nodes br L (val o) := ⟨_, rfl⟩
      have hm00 : mm.1.1 = 0 → mm.1 = (0, 0) := fun h => by rw [hmm] at h ⊢; exact (matF_00 h).1
      rw [← hmm] at HM0
      have HM : Hid (Calls Try.prog 8 #[.pointer (some ⟨N.n, 0, none⟩), .float .f64 o] w4 fun E w' => ∃ (mx my : Int) (va : Option Addr) (vn vc : Nat), E = .returned (.tuple #[.agg #[.int .i64 mx, .int .i64 my, .slice va vn vc], .agg #[.int .i64 mm.1.1, .int .i64 mm.1.2]]) ∧ Below w4.heap.size w4 w') := hid (HM0.mono fun E w' ⟨v, l, h1, h2, h3, h4⟩ => by
        obtain ⟨a, c, rfl, -⟩ := own_cap h2
        split at h1
        · exact ⟨_, _, a, _, c, by rw [h1, hm00 ‹_›], h4⟩
        · exact ⟨_, _, a, _, c, by rw [h1], h4⟩)
      have hG2 := hid (show G = if mm.1.1 ≠ 0 then (mm.1, fun _ => (none, none)) else if (rigF nodes br L).1.1 ≠ 0 then ((rigF nodes br L).1, fun _ => (none, none)) else withF nodes br L (val o) ((List.range n).map (rigF nodes br L).2) by
        rw [hG1.out, if_neg (by simp), ← hmm])
      clear hG1 hmm HM0 hg0 eg
      obtain ⟨⟨m1, m2⟩, mD⟩ := mm
      replace hm00 := hid hm00
      go_upto_region 8 with (go_at_call 8; (with_reducible refine HM.out.mono ?_); rintro E5 w5 ⟨mx, my, va, vn, vc, rfl, hb5⟩)
      have hb6 := bla (.cells #[.int .i64 m1, .int .i64 m2] 29) (bl_a w5 (.cells #[.int .i64 mx, .int .i64 my, .slice va vn vc] 35))
      have X6 : FltAt ((w5.alloc (.cells #[.int .i64 mx, .int .i64 my, .slice va vn vc] 35)).alloc (.cells #[.int .i64 m1, .int .i64 m2] 29)) (w5.heap.size + 1) m1 m2 := flt_n _ _ _ (by simp)
      obtain ⟨w6, hw6⟩ : ∃ w6, w6 = (w5.alloc (.cells #[.int .i64 mx, .int .i64 my, .slice va vn vc] 35)).alloc (.cells #[.int .i64 m1, .int .i64 m2] 29) := ⟨_, rfl⟩
      rw [← hw6] at hb6 X6 ⊢
      clear hw6 x0 x1 ne1 ne2 ne3 ne4
      have b6 := bl2 (bl2 b4 hb5) hb6
      have W6 := SolB.below (SolB.below W4 hb5) hb6
      have F6 := flt_b (flt_b F4 hb5) hb6
      have x0 := X6.c0
      have x1 := X6.c1
      have hl5 := hb5.size
      have hlt4 := F4.lt
      have ne1 : w5.heap.size + 1 ≠ w.heap.size := by omega
      have ne2 : w5.heap.size + 1 ≠ w.heap.size + 1 := by omega
      have ne3 := ne1.symm
      have ne4 := ne2.symm
      clear HM hb4 hb5 hb6 X4 W4 F4 b4
      by_cases em : m1 = 0
      · obtain ⟨rfl, rfl⟩ := Prod.mk.inj (hm00.out em)
        have HR := Right_any (K.below b6) hm.hs hm.hL hm.hck hm.hbr hm.hkw hnet
        rw [← hn.out] at HR
        obtain ⟨rr, hrr⟩ : ∃ rr, rr = rigF nodes br L := ⟨_, rfl⟩
        have hr00 : rr.1.1 = 0 → rr.1 = (0, 0) := fun h => by rw [hrr] at h ⊢; exact rigG_00 _ _ _ _ _ h
        rw [← hrr] at HR
        have hG3 := hid (show G = if rr.1.1 ≠ 0 then (rr.1, fun _ => (none, none)) else withF nodes br L (val o) ((List.range n).map rr.2) by
          rw [hG2.out, if_neg (by simp), ← hrr])
        clear hG2 hrr hm00 em
        obtain ⟨⟨r1, r2⟩, rx⟩ := rr
        have HR2 : Hid (Calls Try.prog 41 #[.pointer (some ⟨N.n, 0, none⟩)] w6 fun E w' => ∃ (va : Option Addr) (vn vc : Nat), E = .returned (.tuple #[.slice va vn vc, .agg #[.int .i64 r1, .int .i64 r2]]) ∧ Below w6.heap.size w6 w' ∧ (r1 = 0 → vn = n ∧ ∃ xs : List Z, Sl w' (.slice va vn vc) (xs.map C) ∧ xs.map zv = (List.range n).map rx)) := hid (HR.mono fun E w' ⟨v, h1, h2, h3⟩ => by
          rcases h3 with ⟨h3, rfl⟩ | ⟨h3, xs, h4, h5⟩
          · exact ⟨none, 0, 0, h1, h2, fun h => absurd h h3⟩
          · obtain ⟨a, c, rfl, -⟩ := own_cap h4
            exact ⟨a, n, c, h1, h2, fun _ => ⟨rfl, xs, Sl.of_owns h4, h5⟩⟩)
        clear HR
        replace hr00 := hid hr00
        clear x0 x1
        have x0 := X6.c0
        have x1 := X6.c1
        go_upto_region 11 with (go_at_call 41; (with_reducible refine HR2.out.mono ?_); rintro E7 w7 ⟨va, vn, vc, rfl, hb7, hR7⟩)
        have hb8 := bl_a w7 (.cells #[.int .i64 r1, .int .i64 r2] 29)
        have X8 : FltAt (w7.alloc (.cells #[.int .i64 r1, .int .i64 r2] 29)) w7.heap.size r1 r2 := flt_n _ _ _ rfl
        obtain ⟨w8, hw8⟩ : ∃ w8, w8 = w7.alloc (.cells #[.int .i64 r1, .int .i64 r2] 29) := ⟨_, rfl⟩
        rw [← hw8] at hb8 X8 ⊢
        clear hw8 x0 x1 ne1 ne2 ne3 ne4
        have b8 := bl2 (bl2 b6 hb7) hb8
        have W8 := SolB.below (SolB.below W6 hb7) hb8
        have F8 := flt_b (flt_b F6 hb7) hb8
        have x0 := X8.c0
        have x1 := X8.c1
        have hl7 := hb7.size
        have hlt6 := F6.lt
        have ne1 : w7.heap.size ≠ w.heap.size := by omega
        have ne2 : w7.heap.size ≠ w.heap.size + 1 := by omega
        have ne3 := ne1.symm
        have ne4 := ne2.symm
        clear HR2 hb7 X6 W6 F6 b6
        by_cases er : r1 = 0
        · obtain ⟨rfl, rfl⟩ := Prod.mk.inj (hr00.out er)
          obtain ⟨rfl, xs, hxs, hxm⟩ := hR7 rfl
          have hxl : xs.length = vn := by
            have := congrArg List.length hxm
            rw [List.length_map, List.length_map, List.length_range] at this
            exact this
          have hGe := hid (show G = withF nodes br L (val o) (xs.map zv) by rw [hG3.out, if_neg (by simp), hxm])
          have HWi := With_any (K.below b8) hm o xs (.slice va vn vc) (hxs.below hb8) (hxl.trans hn.out)
          rw [← hn.out, ← hGe.out] at HWi
          replace HWi := hid HWi
          clear hG3 hxs hxm hxl hr00 er hGe
          go_wp2_with (go_at_call 42; (with_reducible refine HWi.out.mono ?_); rintro E9 wA ⟨ov, aa, an, ac, ba, bn, bc, rfl, hbA, hrA⟩; have bA := bl2 b8 hbA; have WA := SolB.below W8 hbA; have FA := flt_b F8 hbA; have p0 := (WA).c0; have p1 := (WA).c1; have p2 := (WA).c2; have p4 := (WA).fr 0; have p5 := (WA).fr 1; have p6 := (WA).fr 2; have f0 := (FA).c0; have f1 := (FA).c1; have f2 := (FA).fr 0; have f3 := (FA).fr 1)
          obtain ⟨w9, hw9, W9, F9, b9⟩ := slv_end WA FA bA ov (.slice aa an ac) (.slice ba bn bc) G.1.1 G.1.2
          rw [← hw9]
          have l7 : w.heap.size + 1 < w8.heap.size := F8.lt
          have cut : ∀ {v : Value} {n : Nat} {cs : List Value}, wA.ownsRow w8.heap.size 44 1 v n cs → w9.ownsRow w.heap.size 44 1 v n cs := fun h => by
            rw [hw9]
            exact own_mono (own_low (own_low (own_low (own_low (own_low h (by show w.heap.size < _; omega) _) (by show w.heap.size < _; omega) _) (by show w.heap.size < _; omega) _) l7 _) l7 _) b8.size
          refine bodyPost_ret (results_slv rfl _ _ w.heap.size (w.heap.size + 1) _ _ _ _ _ rfl rfl W9 F9) rfl ?_
          refine ⟨ov, aa, an, ac, ba, bn, bc, rfl, b9, ?_⟩
          rcases hrA with hrA | ⟨hr1, hr2, l, hl1, hl2, hl3⟩
          · exact .inl hrA
          · exact .inr ⟨hr1, hr2, l, hl1, cut hl2, cut hl3⟩
        · have hr1 : ¬ (r1 : Int) = 0 := er
          have hGe := hid (show G = ((r1, r2), fun _ => (none, none)) by rw [hG3.out, if_pos er])
          clear hG3 hR7 hr00
          have p0 := (W8).c0; have p1 := (W8).c1; have p2 := (W8).c2; have p4 := (W8).fr 0; have p5 := (W8).fr 1; have p6 := (W8).fr 2; have f0 := (F8).c0; have f1 := (F8).c1; have f2 := (F8).fr 0; have f3 := (F8).fr 1
          go_upto_region 12 with (fail)
          (go_region_with (fail)) <;> (go_wp2; obtain ⟨w9, hw9, W9, F9, b9⟩ := slv_end W8 F8 b8 0 (.slice none 0 0) (.slice none 0 0) r1 r2; rw [← hw9]; refine bodyPost_ret (results_slv rfl _ _ w.heap.size (w.heap.size + 1) 0 _ _ r1 r2 rfl rfl (show SolB w9.drew _ _ _ _ from W9) (show FltAt w9.drew _ _ _ from F9)) rfl ?_; rw [hGe.out]; exact ⟨0, _, _, _, _, _, _, rfl, b9.drew, .inl ⟨er, rfl, rfl, rfl⟩⟩)
      · have hm1 : ¬ (m1 : Int) = 0 := em
        have hGe := hid (show G = ((m1, m2), fun _ => (none, none)) by rw [hG2.out, if_pos em])
        clear hG2 hm00
        have p0 := (W6).c0; have p1 := (W6).c1; have p2 := (W6).c2; have p4 := (W6).fr 0; have p5 := (W6).fr 1; have p6 := (W6).fr 2; have f0 := (F6).c0; have f1 := (F6).c1; have f2 := (F6).fr 0; have f3 := (F6).fr 1
        go_upto_region 9 with (fail)
        (go_region_with (fail)) <;> (go_wp2; obtain ⟨w9, hw9, W9, F9, b9⟩ := slv_end W6 F6 b6 0 (.slice none 0 0) (.slice none 0 0) m1 m2; rw [← hw9]; refine bodyPost_ret (results_slv rfl _ _ w.heap.size (w.heap.size + 1) 0 _ _ m1 m2 rfl rfl (show SolB w9.drew _ _ _ _ from W9) (show FltAt w9.drew _ _ _ from F9)) rfl ?_; rw [hGe.out]; exact ⟨0, _, _, _, _, _, _, rfl, b9.drew, .inl ⟨em, rfl, rfl, rfl⟩⟩)
    · have hg1 : ¬ (g1 : Int) = 0 := eg
      have hGe := hid (show G = ((g1, g2), fun _ => (none, none)) by rw [hG1.out, if_pos eg])
      clear hG1 hg0
      have p0 := (W4).c0; have p1 := (W4).c1; have p2 := (W4).c2; have p4 := (W4).fr 0; have p5 := (W4).fr 1; have p6 := (W4).fr 2; have f0 := (F4).c0; have f1 := (F4).c1; have f2 := (F4).fr 0; have f3 := (F4).fr 1
      go_upto_region 6 with (fail)
      (go_region_with (fail)) <;> (go_wp2; obtain ⟨w9, hw9, W9, F9, b9⟩ := slv_end W4 F4 b4 0 (.slice none 0 0) (.slice none 0 0) g1 g2; rw [← hw9]; refine bodyPost_ret (results_slv rfl _ _ w.heap.size (w.heap.size + 1) 0 _ _ g1 g2 rfl rfl (show SolB w9.drew _ _ _ _ from W9) (show FltAt w9.drew _ _ _ from F9)) rfl ?_; rw [hGe.out]; exact ⟨0, _, _, _, _, _, _, rfl, b9.drew, .inl ⟨eg, rfl, rfl, rfl⟩⟩)
  · have he1 : ¬ (e : Int) = 0 := he0
    have hGe := hid (show G = ((e, -1), fun _ => (none, none)) by
      rw [hG.out]
      unfold slvF
      rw [← he.out, if_pos he0])
    clear hG
    go_wp2_with (first
      | (go_at_call 38; (with_reducible refine HA.out.mono ?_); rintro E2 w2 ⟨rfl, hb2⟩)
      | (go_at_call 39; (with_reducible refine (HNo.out _ he0 _).mono ?_); rintro E3 w3 ⟨rfl, hb3⟩; have b3 := bl2 hb2 hb3; have W3 := SolB.below W0 b3; have F3 := flt_b F0 b3; have bw3 := bl2 b0 b3; have p0 := (W3).c0; have p1 := (W3).c1; have p2 := (W3).c2; have p4 := (W3).fr 0; have p5 := (W3).fr 1; have p6 := (W3).fr 2; have f0 := (F3).c0; have f1 := (F3).c1; have f2 := (F3).fr 0; have f3 := (F3).fr 1))
    obtain ⟨w9, hw9, W9, F9, b9⟩ := slv_end W3 F3 bw3 0 (.slice none 0 0) (.slice none 0 0) e (-1)
    rw [← hw9]
    refine bodyPost_ret (results_slv rfl _ _ w.heap.size (w.heap.size + 1) _ _ _ _ _ rfl rfl W9 F9) rfl ?_
    rw [hGe.out]
    exact ⟨0, _, _, _, _, _, _, rfl, b9, .inl ⟨he0, rfl, rfl, rfl⟩⟩
end Go.Proofs.Ytgcakhmdmajplaa
