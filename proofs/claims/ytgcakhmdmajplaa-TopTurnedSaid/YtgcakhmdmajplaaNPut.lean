/- netlist.put: an element is laid into a net that is being made. No condition beyond bounds. -/
import Derived.Test.YtgcakhmdmajplaaNPutKM
import Derived.StillTailTactics
import Derived.Deep.RegionLaw
import Derived.Deep.AppendLies
import Derived.Deep.CutRange
namespace Go.Proofs.Ytgcakhmdmajplaa
open Go.RowKit Go.Maps

def RetPut (W : World) (B : Nat) (N : NB) (s : NetS) (E : Ending) (w' : World) : Prop := E = .returned (.tuple #[]) ∧ Below B W w' ∧ ∃ V, NetR w' B N V s.l s.nodes s.br (nmL s.l) s.nodes s.br

set_option maxRecDepth 100000 in
set_option maxHeartbeats 4000000 in
theorem put_any (e : El) (N : NB) (V : NV) (s : NetS) (w : World) (B : Nat) (hB : B ≤ w.heap.size) (K : NetR w B N V s.l s.nodes s.br (nmL s.l) s.nodes s.br) (hl : s.l.length ≤ 256) (hnl : s.nodes.length ≤ 1024) (hbl : s.br.length ≤ 256)
    (hn : hasS (nmL s.l) e.name = false) (hbr : hasS s.br e.name = false) (hns : e.name.size ≤ 65536) (has : e.a.size ≤ 65536) (hbs : e.b.size ≤ 65536) (hcs : e.c.size ≤ 65536) (hds : e.d.size ≤ 65536) :
    Calls Try.prog 21 #[.pointer (some ⟨N.n, 0, none⟩), elV e] w (RetPut w B N (putN s e)) := by
  show Calls Try.prog 21 #[.pointer (some ⟨N.n, 0, none⟩), .agg #[.int .u8 e.kind, .string e.name, .string e.a, .string e.b, .string e.c, .string e.d, .float .f64 e.v, .int .i64 e.ph]] w _
  obtain ⟨iE, hiE, hz0, hz1, hz2⟩ := info_parts info_el
  obtain ⟨iS, hiS, hs0, hs1, hs2⟩ := info_parts info_str
  have hmm : nmL s.l ++ [e.name] = nmL (s.l ++ [e]) := by simp [nmL]
  have hkl : (nmL s.l).length = s.l.length := by simp [nmL]
  obtain ⟨la, lcap, hvl⟩ := form_L K
  go_enter Try.func21, Try.ntmps21
  go_wp2
  obtain ⟨w1, hw1⟩ : ∃ w1, w1 = World.drew (w.alloc (.cells #[.int .u8 e.kind, .string e.name, .string e.a, .string e.b, .string e.c, .string e.d, .float .f64 e.v, .int .i64 e.ph] 54)) := ⟨_, rfl⟩
  have K1 : PutK w w1 B N V e s.l s.nodes s.br (nmL s.l) s.nodes s.br := by rw [hw1]; exact (PutK.start K hB).drew
  obtain ⟨⟨c0, c1, c2, c3, c4, c5, c6⟩, e0, e1, e2, e3, e4, e5, e6, e7⟩ := K1.cells
  rw [hvl] at c1
  (refine wp_region_still_tail 11 (by kernel_rfl) (by kernel_rfl) ?_; simp only [List.take_succ_cons, List.take_zero, List.drop_succ_cons, List.drop_zero]; change wpStill _ _ (World.drew (w.alloc (.cells #[.int .u8 e.kind, .string e.name, .string e.a, .string e.b, .string e.c, .string e.d, .float .f64 e.v, .int .i64 e.ph] 54))) (fun a' => wpList _ _ _ _ a' (World.drew (w.alloc (.cells #[.int .u8 e.kind, .string e.name, .string e.a, .string e.b, .string e.c, .string e.d, .float .f64 e.v, .int .i64 e.ph] 54)))) _ _; rw [← hw1]; clear hw1; (repeat still_step); (try refine wpStill_nil ?_))
  refine wpList_upd rfl rfl _ _ _ rfl N.nm rfl (nmL s.l) K1.R.KN (by omega) e.name rfl (by unfold maxLen; omega) (by rw [hkl]; rfl) (by rw [← hasS_iff, hn]; simp) ?_
  intro w2 hm2 hg2
  have K2 := K1.putM hm2 hg2
  clear hm2 hg2 c0 c1 c2 c3 c4 c5 c6 e0 e1 e2 e3 e4 e5 e6 e7 K1
  obtain ⟨⟨c0, c1, c2, c3, c4, c5, c6⟩, e0, e1, e2, e3, e4, e5, e6, e7⟩ := K2.cells
  rw [hvl] at c1
  go_wp2
  go_cut [] from 19 to 28 (fun wx => ∃ g cap, PutK w wx B N ⟨.slice (some ⟨g, 0, none⟩) (s.l.length + 1) cap, V.n, V.b⟩ e (s.l ++ [e]) s.nodes s.br (nmL s.l ++ [e.name]) s.nodes s.br)
  case first =>
    have K3 := K2.drew.alloc (.cells (elC e).toArray 54)
    have hown3 := K3.R.L
    rw [hvl] at hown3
    obtain ⟨⟨-, d1, -, -, -, -, -⟩, f0, f1, f2, f3, f4, f5, f6, f7⟩ := K3.cells
    rw [hvl] at d1
    have d2 : (w2.alloc (.cells #[.int .u8 e.kind, .string e.name, .string e.a, .string e.b, .string e.c, .string e.d, .float .f64 e.v, .int .i64 e.ph] 54)).cell? ⟨N.n, 1, none⟩ = some (.slice la s.l.length lcap) := d1
    go_region_law (first | (refine step_append_lies _ rfl _ _ 24 rfl B 54 iE _ 8 104 Try.underlying24 hiE hz0 hz1 hz2 rfl (by decide) (.slice la s.l.length lcap) s.l.length (cellsL s.l) rfl hown3 ⟨w2.heap.size, 0, none⟩ 1 1 (elC e) rfl rfl (by exact cells_new _ (elC e) _) (by simp [elC, Value.oneCell']) (by decide) (by unfold maxLen; omega) (by omega) (by have := K3.size; have := K3.hB; exact Nat.le_of_lt (Nat.lt_of_le_of_lt ‹B ≤ _› ‹_›)) _ rfl ?_; intro g cap w4 hown4 hg4 hat hlt; have KZ := K3.appL1 (n := s.l.length + 1) (by rw [hvl]; exact hg4) (by rw [hvl]; exact hat) hown4 rfl; have z1 := KZ.1; have z2 := KZ.2.1; obtain ⟨q0, q1, q2, q3, q4, q5, q6, q7⟩ := KZ.2.2.1.cells; rw [hvl] at z1; have K4 := KZ.2.2.2; clear KZ hat hg4 hown4))
    all_goals
      go_wp2
      go_meet
      exact ⟨_, _, K4⟩
  case rest =>
    obtain ⟨g, cap, K4⟩ := hcut
    clear c0 c1 c2 c3 c4 c5 c6 e0 e1 e2 e3 e4 e5 e6 e7 K2
    obtain ⟨-, e0, e1, e2, e3, e4, e5, e6, e7⟩ := K4.cells
    have hF : FourAt (wc.alloc (.cells (strL (fourE e)).toArray 9)) wc.heap.size e := blk_new _ _
    have KS := K4.alloc (.cells (strL (fourE e)).toArray 9)
    have OS := K4.R.out (Nat.le_refl _)
    obtain ⟨cb, hcb⟩ : ∃ cb, cb = wc.heap.size := ⟨_, rfl⟩
    go_wp2
    rw [← hcb] at hF OS ⊢
    clear hcb
    go_loopw [39] (fun i w' => PutLoop w B N (.slice (some ⟨g, 0, none⟩) (s.l.length + 1) cap) V.b e (s.l ++ [e]) s.nodes s.br (nmL s.l ++ [e.name]) s.br cb i w') (fun i _ => 5 - (intOf i).toNat)
    case atStart => exact ⟨0, rfl, by omega, V.n, KS, hF, OS⟩
    case round =>
      obtain ⟨k, rfl, hk, nv, KR, hF2, hO2⟩ := hrel
      have hfl := fold_len ((fourE e).take k) s.nodes
      obtain ⟨ns, hns0⟩ : ∃ ns, ns = ((fourE e).take k).foldl putNode s.nodes := ⟨_, rfl⟩
      rw [← hns0] at KR hfl
      have HNS := hid hns0
      clear hns0
      clear e0 e1 e2 e3 e4 e5 e6 e7 K4 KS hF OS
      obtain ⟨-, e0, e1, -, -, -, -, e6, e7⟩ := KR.cells
      obtain ⟨⟨c0, c1, c2, c3, c4, c5, c6⟩, -⟩ := KR.cells
      obtain ⟨na, ncap, hnv⟩ := form_N KR.R
      simp only at hnv
      subst hnv
      simp only at c1 c3 c5
      by_cases hk4 : k < 4
      · obtain ⟨x, hx⟩ : ∃ x, (fourE e)[k]? = some x := ⟨(fourE e)[k]'hk4, List.getElem?_eq_getElem hk4⟩
        have hxs : x.size ≤ 65536 := by
          have hm := List.mem_of_getElem? hx
          simp only [fourE, List.mem_cons, List.not_mem_nil, or_false] at hm
          rcases hm with rfl | rfl | rfl | rfl <;> assumption
        have hxc := hF2.cell hx
        have hstep : ((fourE e).take (k + 1)).foldl putNode s.nodes = putNode ns x := by
          rw [HNS.out, List.take_add_one, hx]
          simp [List.foldl_append]
        have HST := hid hstep
        have hll : ((fourE e).take k).length ≤ 4 := by rw [List.length_take]; exact Nat.min_le_right _ _
        clear hx hstep
        rcases new_cases ns x with ⟨hnew, b1, ⟨b2, b2'⟩, b3⟩ | ⟨hnew, hno⟩
        · have HB1 := hid b1
          have HP := hid (show putNode ns x = ns ++ [x] by unfold putNode; rw [if_pos hnew])
          clear hnew
          go_wp2_with (first | (at_lookup; refine wpList_look rfl _ _ rfl N.pm rfl ns KR.R.KP x rfl (by unfold maxLen; omega) ?_; intro cc hcc; rw [b1]))
          clear b1 b2 b2' b3
          obtain ⟨w5, hw5⟩ : ∃ w5, w5 = World.drew wr := ⟨_, rfl⟩
          have KD : PutK w w5 B N ⟨.slice (some ⟨g, 0, none⟩) (s.l.length + 1) cap, .slice na ns.length ncap, V.b⟩ e (s.l ++ [e]) ns s.br (nmL s.l ++ [e.name]) ns s.br := by rw [hw5]; exact KR.drew
          have hF5 : FourAt w5 cb e := by rw [hw5]; exact hF2
          clear c0 c1 c2 c3 c4 c5 c6 e0 e1 e6 e7
          obtain ⟨⟨c0, c1, c2, c3, c4, c5, c6⟩, -⟩ := KD.cells
          simp only at c1 c3 c5
          (refine wp_region_still_tail 10 (by kernel_rfl) (by kernel_rfl) ?_; simp only [List.take_succ_cons, List.take_zero, List.drop_succ_cons, List.drop_zero]; change wpStill _ _ (World.drew wr) (fun a' => wpList _ _ _ _ a' (World.drew wr)) _ _; rw [← hw5]; clear hw5; (repeat still_step); (try refine wpStill_nil ?_))
          refine wpList_upd rfl rfl _ _ _ rfl N.pm rfl ns KD.R.KP (by omega) x rfl (by unfold maxLen; omega) rfl (by rw [← hasS_iff, HB1.out]; simp) ?_
          intro w6 hm6 hg6
          have K6 := KD.putP hm6 hg6
          have hF6 := hF5.grown hg6 (by simp [hO2.p])
          clear hm6 hg6 c0 c1 c2 c3 c4 c5 c6 KD hF5 KR hF2
          obtain ⟨⟨c0, c1, c2, c3, c4, c5, c6⟩, -⟩ := K6.cells
          simp only at c1 c3 c5
          have K7 := K6.alloc (.cells #[.string x] 9)
          have hF7 := hF6.below ((Below.refl _ w6).alloc (Nat.le_refl _) (.cells #[.string x] 9))
          have hownS := K7.R.R
          simp only at hownS
          have hsz7 := K6.size
          have hsb7 := K6.hB
          have hO7 := hid fun (w7 : World) g2 cap2 (h : (Value.slice na ns.length ncap).ownBlock = some g2 ∨ g2 = (w6.alloc (.cells #[.string x] 9)).heap.size) => OutN.appN (n := ns.length + 1) (c := cap2) hO2 hF7.lt h
          go_wp2_with ((at_builtin; refine wpList_append_lies _ rfl _ _ 40 rfl B 9 iS _ 1 16 Try.underlying40 hiS hs0 hs1 hs2 rfl (by decide) (.slice na ns.length ncap) ns.length (strL ns) rfl (by exact hownS) ⟨_, 0, none⟩ 1 1 [.string x] rfl rfl (cell_new _ _ _) (by simp [Value.oneCell']) (by decide) (by unfold maxLen; omega) (by omega) (by simp; omega) _ rfl ?_; intro g2 cap2 w7 hown7 hg7 hat7 hlt7); have KZ := K7.appN1 (n := ns.length + 1) hg7 hat7 hown7 rfl; have z1 := KZ.1; have z2 := KZ.2.1; have K8 := KZ.2.2.2; have hO8 := hO7.out w7 g2 cap2 hat7; have hF8 := (hF7.grown hg7 hO2.vn.symm).setOther (a := ⟨N.n, 3, none⟩) hO2.n (.slice (some ⟨g2, 0, none⟩) (ns.length + 1) cap2); clear KZ hg7 hown7 hat7 hlt7)
          go_roundw
          case rel => exact ⟨k + 1, by go_num, by omega, _, by rw [HST.out, HP.out]; exact K8, hF8, hO8⟩
          case measure => simp [intOf] <;> omega
        · have HP := hid (show putNode ns x = ns by unfold putNode; rw [if_neg (by simp [hnew])])
          clear hnew
          rcases hno with b1 | ⟨b1, ⟨b2, b2'⟩ | ⟨⟨b2, b2'⟩, b3⟩⟩
          all_goals
            go_wp2_with (first | (at_lookup; refine wpList_look rfl _ _ rfl N.pm rfl ns KR.R.KP x rfl (by unfold maxLen; omega) ?_; intro cc hcc; rw [b1]))
            go_roundw
            case rel => exact ⟨k + 1, by go_num, by omega, _, by rw [HST.out, HP.out]; exact KR, hF2, hO2⟩
            case measure => simp [intOf] <;> omega
      · obtain rfl : k = 4 := by omega
        have HPN := hid (show ns = (putN s e).nodes from HNS.out)
        clear hfl HNS c0 c1 c2 c3 c4 c5 c6 e6 e7
        by_cases hbk : brK e.kind = true
        · have HBK := hid (show (putN s e).br = s.br ++ [e.name] by show (if brK e.kind = true then _ else _) = _; rw [if_pos hbk])
          obtain ⟨ba, bcap, hbv⟩ := form_B KR.R
          simp only at hbv
          obtain ⟨bv, hbv2⟩ : ∃ bv, bv = V.b := ⟨_, rfl⟩
          rw [← hbv2] at KR hbv
          subst hbv
          clear hbv2 hO2
          obtain ⟨-, e0, -, -, -, -, -, -, -⟩ := KR.cells
          have hbk2 : ((e.kind : Int) == 5) = true ∧ ((e.kind : Int) = 5) = True ∨ ((e.kind : Int) == 5) = false ∧ ((e.kind : Int) = 5) = False ∧ ((e.kind : Int) == 7) = true := by
            simp only [brK, Bool.or_eq_true, beq_iff_eq] at hbk
            by_cases h5 : e.kind = 5
            · exact .inl ⟨by simp [h5], by simp [h5]⟩
            · exact .inr ⟨by simp; omega, by simp; omega, by simp; omega⟩
          clear hbk
          rcases hbk2 with ⟨b1, b2⟩ | ⟨b1, b2, b3⟩
          all_goals
            go_wp2
            obtain ⟨w5, hw5⟩ : ∃ w5, w5 = World.drew wr := ⟨_, rfl⟩
            have KD := KR.drew
            rw [← hw5] at KD
            clear KR hF2
            obtain ⟨⟨c0, c1, c2, c3, c4, c5, c6⟩, f0, f1, -⟩ := KD.cells
            simp only at c1 c3 c5
            (refine wp_region_still_tail 11 (by kernel_rfl) (by kernel_rfl) ?_; simp only [List.take_succ_cons, List.take_zero, List.drop_succ_cons, List.drop_zero]; change wpStill _ _ (World.drew wr) (fun a' => wpList _ _ _ _ a' (World.drew wr)) _ _; rw [← hw5]; clear hw5; (repeat still_step); (try refine wpStill_nil ?_))
            refine wpList_upd rfl rfl _ _ _ rfl N.bm rfl s.br KD.R.KB (by omega) e.name rfl (by unfold maxLen; omega) rfl (by rw [← hasS_iff, hbr]; simp) ?_
            intro w6 hm6 hg6
            have K6 := KD.putB hm6 hg6
            clear hm6 hg6 c0 c1 c2 c3 c4 c5 c6 KD f0 f1
            obtain ⟨⟨c0, c1, c2, c3, c4, c5, c6⟩, f0, f1, -⟩ := K6.cells
            simp only at c1 c3 c5
            have K7 := K6.drew.alloc (.cells #[.string e.name] 9)
            have hownS := K7.R.Q
            simp only at hownS
            have d5 := K7.cells.1.2.2.2.2.2.1
            simp only at d5
            have d6 : (w6.alloc (.cells #[.string e.name] 9)).cell? ⟨N.n, 5, none⟩ = some (.slice ba s.br.length bcap) := d5
            have hsz7 := K7.size
            have hsb7 := K7.hB
            go_wp2
            go_region_law (first | (refine step_append_lies _ rfl _ _ 40 rfl B 9 iS _ 1 16 Try.underlying40 hiS hs0 hs1 hs2 rfl (by decide) (.slice ba s.br.length bcap) s.br.length (strL s.br) rfl (by exact hownS) ⟨w6.heap.size, 0, none⟩ 1 1 [.string e.name] rfl rfl (cell_new _ _ _) (by simp [Value.oneCell']) (by decide) (by unfold maxLen; omega) (by omega) (by exact Nat.le_of_lt (Nat.lt_of_le_of_lt hsb7 hsz7)) _ rfl ?_; intro g2 cap2 w7 hown7 hg7 hat7 hlt7; have KZ := K7.appB1 (n := s.br.length + 1) hg7 hat7 hown7 rfl; have z1 := KZ.1; have z2 := KZ.2.1; have K8 := KZ.2.2.2; clear KZ hg7 hown7 hat7 hlt7))
            all_goals
              go_wp2
              go_end0
              have hR := K8.R
              rw [HPN.out, ← HBK.out, hmm] at hR
              exact ⟨rfl, K8.bl, _, hR⟩
        · have HBK := hid (show (putN s e).br = s.br by show (if brK e.kind = true then _ else _) = _; rw [if_neg hbk])
          have b1 : ((e.kind : Int) == 5) = false := by simp [brK] at hbk; simp; omega
          have b2 : ((e.kind : Int) == 7) = false := by simp [brK] at hbk; simp; omega
          have b3 : ((e.kind : Int) = 5) = False := by simp at b1; simp [b1]
          clear hbk
          go_wp2
          go_end0
          have hR := KR.R
          rw [HPN.out, ← HBK.out, hmm] at hR
          exact ⟨rfl, KR.bl, _, hR⟩
end Go.Proofs.Ytgcakhmdmajplaa

