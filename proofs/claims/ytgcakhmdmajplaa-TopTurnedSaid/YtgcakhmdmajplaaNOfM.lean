/- netlist.Of: the net of some elements, or the fault. Condition: an element's kind is a byte. ladder.Net: a ladder's net. Condition: kinds are bytes. -/
import Derived.Test.YtgcakhmdmajplaaNPut
import Derived.Test.YtgcakhmdmajplaaNPutKM
import Derived.Test.YtgcakhmdmajplaaBaseM
namespace Go.Proofs.Ytgcakhmdmajplaa
open Go.RowKit Go.Maps

set_option maxRecDepth 100000 in
set_option maxHeartbeats 400000 in
theorem is_any {w : World} {B : Nat} {N : NB} {V : NV} {l : List El} {nodes br ks ps bs : List ByteArray} (K : NetR w B N V l nodes br ks ps bs) : Calls Try.prog 30 #[.pointer (some ⟨N.n, 0, none⟩)] w fun E w' => E = .returned (.bool true) ∧ w' = w := by
  obtain ⟨c0, -⟩ := K.cells
  go_enter Try.func30, Try.ntmps30
  go_wp2
  go_ret
  exact ⟨rfl, rfl⟩
set_option maxRecDepth 100000 in
set_option maxHeartbeats 400000 in
theorem is_nil (w : World) : Calls Try.prog 30 #[.pointer none] w fun E w' => E = .returned (.bool false) ∧ w' = w := by
  go_enter Try.func30, Try.ntmps30
  go_wp2
  go_ret
  exact ⟨rfl, rfl⟩
set_option maxRecDepth 100000 in
set_option maxHeartbeats 400000 in
theorem Order_any {w : World} {B : Nat} {N : NB} {V : NV} {l : List El} {nodes br ks ps bs : List ByteArray} (K : NetR w B N V l nodes br ks ps bs) (hn : nodes.length ≤ 100000) (hb : br.length ≤ 100000) : Calls Try.prog 22 #[.pointer (some ⟨N.n, 0, none⟩)] w fun E w' => E = .returned (.int .i64 ((nodes.length : Int) + br.length)) ∧ ∃ n, w' = w.drewN n := by
  obtain ⟨-, -, -, c3, -, c5, -⟩ := K.cells
  obtain ⟨na, ncap, hnv⟩ := form_N K
  obtain ⟨ba, bcap, hbv⟩ := form_B K
  rw [hnv] at c3
  rw [hbv] at c5
  go_enter Try.func22, Try.ntmps22
  go_wp2_with (go_at_call 30; (with_reducible refine (is_any K).mono ?_); rintro e w' ⟨rfl, rfl⟩)
  go_quiet (fail)
  go_wp2
  go_ret
  exact ⟨rfl, _, rfl⟩

theorem below_alloc4 {B : Nat} {w w0 : World} (h : Below B w w0) (hB : B ≤ w0.heap.size) (o1 o2 o3 o4 : Obj) : Below B w ((((w0.alloc o1).alloc o2).alloc o3).alloc o4) := by
  have h1 := h.alloc hB o1
  have h2 := h1.alloc (by simp; omega) o2
  have h3 := h2.alloc (by simp; omega) o3
  exact h3.alloc (by simp; omega) o4
set_option maxRecDepth 100000 in
set_option maxHeartbeats 4000000 in
theorem Of_any (L : List El) (hk : ∀ e ∈ L, e.kind < 256) (v : Value) (w : World) (hL : ElsAt w v L) (hcap : L.length ≤ 100000) : Calls Try.prog 6 #[v] w (RetNet w (netF L)) := by
  obtain ⟨a, cap, rfl⟩ := hL.form
  have hmm := @run_makeMap Try.prog
  by_cases hlen : 256 < L.length
  · have HF := hid (show netF L = ((3, -1), none) by unfold netF; rw [if_pos hlen])
    go_enter Try.func6, Try.ntmps6
    go_wp2
    refine bodyPost_ret (results_flt rfl _ _ w.heap.size 3 (-1) rfl (FltAt.new _ _ _)) rfl ?_
    exact RetNet_none rfl ((Below.refl _ w).alloc (Nat.le_refl _) _) HF.out
  · have HN := hid (NetR.new (w.alloc (.cells #[.int .i64 0, .int .i64 0] 29)) (B := w.heap.size + 1) (by simp))
    have HF := hid (FltAt.new w 0 0)
    simp only [World.size_alloc] at HN
    have hl256 : L.length ≤ 256 := by omega
    go_enter Try.func6, Try.ntmps6
    go_wp2
    obtain ⟨N, hN⟩ : ∃ N : NB, N = ⟨w.heap.size + 1 + 1 + 1 + 1, w.heap.size + 1, w.heap.size + 1 + 1, w.heap.size + 1 + 1 + 1⟩ := ⟨_, rfl⟩
    have hNn : w.heap.size + 1 + 1 + 1 + 1 = N.n := by rw [hN]
    rw [hNn]
    clear hNn
    go_loopw [21] (fun i w' => OfLoop w L N i w') (fun i _ => L.length + 1 - (intOf i).toNat)
    case atStart =>
      refine ⟨0, net0, ⟨.slice none 0 0, .slice none 0 0, .slice none 0 0⟩, rfl, by omega, OfInv.start L, ?_, ?_, ?_⟩
      · rw [hN]
        exact HN.out
      · exact HF.out.below (below_alloc4 (Below.refl (w.heap.size + 1) _) (by simp) _ _ _ _) (by omega)
      · exact below_alloc4 ((Below.refl _ w).alloc (Nat.le_refl _) _) (by simp) _ _ _ _
    case round =>
      obtain ⟨k, s, V, rfl, hkl, hinv, hR, hF, hb⟩ := hrel
      clear HN HF hN
      have hz := hb.size
      by_cases hk2 : k < L.length
      · obtain ⟨e, he⟩ : ∃ e, L[k]? = some e := ⟨L[k]'hk2, List.getElem?_eq_getElem hk2⟩
        obtain ⟨b, off, rfl, hblt, x0, x1, x2, x3, x4, x5, x6, x7⟩ := (hL.below hb).at he
        have hek := hk e (List.mem_of_getElem? he)
        have HCK := hid (show ∀ w, Calls Try.prog 20 #[.agg #[.int .u8 e.kind, .string e.name, .string e.a, .string e.b, .string e.c, .string e.d, .float .f64 e.v, .int .i64 e.ph]] w (RetV w (.int .i64 (checkE e))) from fun w => Check_any e hek w)
        have HE := hid he
        have HI := hid hinv
        clear he hinv
        obtain ⟨ck, hck⟩ : ∃ ck, ck = checkE e := ⟨_, rfl⟩
        rw [← hck] at HCK
        have HC := hid hck
        clear hck
        by_cases hc0 : ck = 0
        · subst hc0
          have hsz := checkE_sizes HC.out.symm
          obtain ⟨sz0, sz1, sz2, sz3, sz4⟩ := hsz
          go_wp2_with (go_at_call 20; (with_reducible refine (HCK.out _).mono ?_); rintro E1 w1 ⟨rfl, hb1⟩; obtain ⟨R1, F1, b1, E1⟩ := of_step (e := e) hR hF hb hb1; clear hb1 x0 x1 x2 x3 x4 x5 x6 x7)
          have D1 : NetR (World.drew w1) (w.heap.size + 1) N V s.l s.nodes s.br (nmL s.l) s.nodes s.br := R1.below ⟨rfl, rfl, rfl, Nat.le_refl _, fun _ _ => rfl⟩
          obtain ⟨w2, hw2⟩ : ∃ w2, w2 = World.drew w1 := ⟨_, rfl⟩
          have E2 : ElAt w2 wr.heap.size e := by rw [hw2]; exact E1
          have F2 : FltAt w2 w.heap.size 0 0 := by rw [hw2]; exact F1
          have b2 : Below w.heap.size w w2 := by rw [hw2]; exact below_drewN' b1 1
          rw [← hw2] at D1
          clear R1 F1 b1 E1
          obtain ⟨c0, -, c2, -⟩ := D1.cells
          obtain ⟨-, e1, -⟩ := E2.cells
          obtain ⟨cc, hrun, hcc⟩ := D1.KN.run (s := e.name) (by unfold maxLen; omega)
          by_cases hn : hasS (nmL s.l) e.name = true
          · rw [hn] at hrun
            (refine wp_region_still_lit (by kernel_rfl) (by kernel_rfl) ?_; change wpStill _ _ (World.drew w1) _ _ _; rw [← hw2]; have HWS := hid hw2; clear hw2; (repeat still_step); (try refine wpStill_nil ?_); change Exit.then _ _ Exit.normal _ (World.drew w1); rw [← HWS.out]; clear HWS)
            have HB := hid (netF_inl hl256 (HI.out.bad2 HE.out HC.out.symm hn))
            have y0 := F2.c0
            have y1 := F2.c1
            have y2 := F2.fr 0
            have y3 := F2.fr 1
            go_wp2
            refine bodyPost_ret (results_flt rfl _ _ w.heap.size 9 k rfl (F2.set2 _ _)) rfl ?_
            exact RetNet_none rfl (below_set2 b2 _ _ (Nat.le_refl _)) HB.out
          · rw [Bool.not_eq_true] at hn
            rw [hn] at hrun
            (refine wp_region_still_lit (by kernel_rfl) (by kernel_rfl) ?_; change wpStill _ _ (World.drew w1) _ _ _; rw [← hw2]; have HWS := hid hw2; clear hw2; (repeat still_step); (try refine wpStill_nil ?_); change Exit.then _ _ Exit.normal _ (World.drew w1); rw [← HWS.out]; clear HWS)
            obtain ⟨-, -, e2, e3, e4, e5, e6, e7⟩ := E2.cells
            obtain ⟨e0, -⟩ := E2.cells
            have hlk : s.l.length = k := by rw [HI.out.l, List.length_take]; omega
            have hbr : hasS s.br e.name = false := by
              cases hh : hasS s.br e.name with
              | false => rfl
              | true => have := HI.out.h _ hh; rw [hn] at this; cases this
            have HPUT := hid (show Calls Try.prog 21 #[.pointer (some ⟨N.n, 0, none⟩), .agg #[.int .u8 e.kind, .string e.name, .string e.a, .string e.b, .string e.c, .string e.d, .float .f64 e.v, .int .i64 e.ph]] w2 (RetPut w2 (w.heap.size + 1) N (putN s e)) from put_any e N V s w2 (w.heap.size + 1) (Nat.lt_of_lt_of_le F2.lt (Nat.le_refl _)) D1 (by omega) (by have := HI.out.n; omega) (by have := HI.out.b; omega) hn hbr sz0 sz1 sz2 sz3 sz4)
            have HN2 := hid (HI.out.step HE.out HC.out.symm hn)
            clear hbr hn hrun hcc
            go_wp2_with (go_at_call 21; (with_reducible refine HPUT.out.mono ?_); rintro E1 w3 ⟨rfl, hb3, V3, R3⟩)
            go_roundw
            case rel => exact ⟨k + 1, _, V3, by go_num, by omega, HN2.out, R3, F2.below hb3 (by omega), b2.trans (hb3.mono (by omega))⟩
            case measure => simp [intOf] <;> omega
        · have HB := hid (netF_inl hl256 (HI.out.bad1 HE.out (by rw [← HC.out]; exact hc0)))
          rw [← HC.out] at HB
          go_wp2_with (go_at_call 20; (with_reducible refine (HCK.out _).mono ?_); rintro E1 w1 ⟨rfl, hb1⟩; obtain ⟨R1, F1, b1, E1⟩ := of_step (e := e) hR hF hb hb1; clear hb1 x0 x1 x2 x3 x4 x5 x6 x7; have y0 := F1.c0; have y1 := F1.c1; have y2 := F1.fr 0; have y3 := F1.fr 1)
          refine bodyPost_ret (results_flt rfl _ _ w.heap.size ck k rfl (F1.set2 _ _)) rfl ?_
          exact RetNet_none rfl (below_set2 b1 _ _ (Nat.le_refl _)) HB.out
      · obtain rfl : k = L.length := by omega
        have HD := hid (netF_inr hl256 hinv.done)
        have hn1 := hinv.n
        have hn2 := hinv.b
        obtain ⟨-, -, -, c3, -, c5, -⟩ := hR.cells
        obtain ⟨na, ncap, hnv⟩ := form_N hR
        rw [hnv] at c3
        have HOR := hid (Order_any hR (by omega) (by omega))
        have y0 := hF.c0
        have y1 := hF.c1
        have y2 := hF.fr 0
        have y3 := hF.fr 1
        have HR := hid hR
        have HI := hid hinv
        clear hinv hR
        by_cases g1 : 32 < s.nodes.length
        · rw [if_pos (.inl g1)] at HD
          have g2 : (32 : Int) < (s.nodes.length : Int) := by omega
          go_wp2
          refine bodyPost_ret (results_flt rfl _ _ w.heap.size 3 (-1) rfl (hF.set2 _ _)) rfl ?_
          exact RetNet_none rfl (below_set2 hb _ _ (Nat.le_refl _)) HD.out
        · have g2 : ¬ (32 : Int) < (s.nodes.length : Int) := by omega
          by_cases g3 : 64 < s.nodes.length + s.br.length
          · rw [if_pos (.inr g3)] at HD
            have g4 : (64 : Int) < (s.nodes.length : Int) + (s.br.length : Int) := by omega
            go_wp2_with (go_at_call 22; (with_reducible refine HOR.out.mono ?_); rintro E1 w3 ⟨rfl, nd, rfl⟩)
            refine bodyPost_ret (results_flt rfl _ _ w.heap.size 3 (-1) rfl ((show FltAt (wr.drewN nd) w.heap.size 0 0 from hF).set2 _ _)) rfl ?_
            exact RetNet_none rfl (below_set2 (below_drewN' hb nd) _ _ (Nat.le_refl _)) HD.out
          · rw [if_neg (by omega)] at HD
            have g4 : ¬ (64 : Int) < (s.nodes.length : Int) + (s.br.length : Int) := by omega
            go_wp2_with (go_at_call 22; (with_reducible refine HOR.out.mono ?_); rintro E1 w3 ⟨rfl, nd, rfl⟩)
            refine bodyPost_ret (results_flt rfl _ _ w.heap.size 0 0 rfl ((show FltAt (wr.drewN nd) w.heap.size 0 0 from hF).set2 _ _)) rfl ?_
            exact RetNet_some (N := N) (V := V) rfl ((NetR.setBelow (show NetR (wr.drewN nd) _ N V _ _ _ _ _ _ from HR.out.below ⟨rfl, rfl, rfl, Nat.le_refl _, fun _ _ => rfl⟩) (Nat.lt_succ_self _) _).setBelow (Nat.lt_succ_self _) _) (below_set2 (below_drewN' hb nd) _ _ (Nat.le_refl _)) HD.out
end Go.Proofs.Ytgcakhmdmajplaa

namespace Go.Proofs.Ytgcakhmdmajplaa
open Go.RowKit Go.Maps

theorem NetR.weaken {w : World} {B B' : Nat} {N : NB} {V : NV} {l : List El} {nodes br ks ps bs : List ByteArray} (h : NetR w B N V l nodes br ks ps bs) (hB : B' ≤ B) : NetR w B' N V l nodes br ks ps bs := by
  have ow : ∀ {e size : Nat} {v : Value} {n : Nat} {xs : List Value}, w.ownsRow B e size v n xs → w.ownsRow B' e size v n xs := by
    rintro e size v n xs ⟨h1, h2⟩
    refine ⟨h1, ?_⟩
    rcases h2 with h2 | ⟨g, cap, cur, h3, h4, h5⟩
    · exact .inl h2
    · exact .inr ⟨g, cap, cur, h3, by omega, h5⟩
  exact { h with L := ow h.L, R := ow h.R, Q := ow h.Q, gn := by have := h.gn; omega, gm := by have := h.gm; omega, gp := by have := h.gp; omega, gb := by have := h.gb; omega }
end Go.Proofs.Ytgcakhmdmajplaa
