/- The gains of many solutions: gain.Curve and its reference. Conditions: lengths as a net has them; at most 4096 solutions. -/
import Derived.Test.YtfnbohpfcdddgaaGVoltM
import Derived.Test.YtfnbohpfcdddgaaAbsM
namespace Go.Proofs.Ytfnbohpfcdddgaa
open Go.RowKit Go.Maps

/-- A solution's two lists. -/
abbrev Sol := List Z × List Z
def stE (nodes br : List ByteArray) (out inn : ByteArray) (s : Sol) : Int :=
  if (voltF nodes br s.1 s.2 out).2 = 0 then (if (voltF nodes br s.1 s.2 inn).2 = 0 then ofE (zv (voltF nodes br s.1 s.2 out).1) (zv (voltF nodes br s.1 s.2 inn).1) else (voltF nodes br s.1 s.2 inn).2) else (voltF nodes br s.1 s.2 out).2
def stG (nodes br : List ByteArray) (out inn : ByteArray) (s : Sol) : CV := ofG (zv (voltF nodes br s.1 s.2 out).1) (zv (voltF nodes br s.1 s.2 inn).1)
def cuF (nodes br : List ByteArray) (out inn : ByteArray) (ss : List Sol) : List CV × (Int × Int) :=
  if (errG (stE nodes br out inn) 0 ss).1 = 0 then (ss.map (stG nodes br out inn), (0, 0)) else ([], errG (stE nodes br out inn) 0 ss)
def RetCu (w : World) (r : List CV × (Int × Int)) (E : Ending) (w' : World) : Prop := ∃ (v : Value) (l : List Z), E = .returned (.tuple #[v, .agg #[.int .i64 r.2.1, .int .i64 r.2.2]]) ∧ w'.ownsRow w.heap.size 63 1 v l.length (l.map C) ∧ l.map zv = r.1 ∧ Below w.heap.size w w'
/-- A slice of solutions. -/
def SolsAt (w : World) (v : Value) (ss : List Sol) : Prop := ∃ a cap, v = .slice a ss.length cap ∧ ∀ (k : Nat) (s : Sol), ss[k]? = some s → ∃ b off o a1 c1 a2 c2, a = some ⟨b, off, none⟩ ∧ w.cell? ⟨b, off + k * 3, none⟩ = some (.float .f64 o) ∧ w.cell? ⟨b, off + k * 3 + 1, none⟩ = some (.slice a1 s.1.length c1) ∧ w.cell? ⟨b, off + k * 3 + 2, none⟩ = some (.slice a2 s.2.length c2) ∧ Sl w (.slice a1 s.1.length c1) (s.1.map C) ∧ Sl w (.slice a2 s.2.length c2) (s.2.map C)
theorem SolsAt.below {w w' : World} {v : Value} {ss : List Sol} (h : SolsAt w v ss) (hb : Below w.heap.size w w') : SolsAt w' v ss := by
  obtain ⟨a, cap, rfl, hr⟩ := h
  refine ⟨a, cap, rfl, fun k s hs => ?_⟩
  obtain ⟨b, off, o, a1, c1, a2, c2, rfl, h0, h1, h2, h3, h4⟩ := hr k s hs
  exact ⟨b, off, o, a1, c1, a2, c2, rfl, (hb.cell (World.block_lt_of_cell? _ _ h0)).trans h0, (hb.cell (World.block_lt_of_cell? _ _ h1)).trans h1, (hb.cell (World.block_lt_of_cell? _ _ h2)).trans h2, h3.below hb, h4.below hb⟩
theorem cuF_bad {nodes br : List ByteArray} {out inn : ByteArray} {ss : List Sol} {e k : Int} (he : errG (stE nodes br out inn) 0 ss = (e, k)) (h0 : e ≠ 0) : cuF nodes br out inn ss = ([], (e, k)) := by
  unfold cuF
  rw [he, if_neg h0]
theorem cuF_ok {nodes br : List ByteArray} {out inn : ByteArray} {ss : List Sol} (he : errG (stE nodes br out inn) 0 ss = (0, 0)) : cuF nodes br out inn ss = (ss.map (stG nodes br out inn), (0, 0)) := by
  unfold cuF
  rw [he, if_pos rfl]
def CuLoop (w : World) (e : Sol → Int) (g : Sol → CV) (ss : List Sol) (i v : Value) (wr : World) : Prop := ∃ (k : Nat) (r : List Z), k ≤ ss.length ∧ i = .int .i64 k ∧ r.length = k ∧ wr.ownsRow (w.heap.size + 1) 63 1 v k (r.map C) ∧ r.map zv = (ss.take k).map g ∧ errG e 0 ss = errG e k (ss.drop k) ∧ FltAt wr w.heap.size 0 0 ∧ Below w.heap.size w wr
section
variable {w : World} {B : Nat} {N : NB} {V : NV} {l : List El} {nodes br ks ps bs : List ByteArray}
set_option maxRecDepth 100000 in
set_option maxHeartbeats 8000000 in
theorem Curve_any (K : NetR w B N V l nodes br ks nodes bs) (hh : hasS ks ⟨#[]⟩ = false) (hn : nodes.length ≤ 4000) (hbr : br.length ≤ 4000) (ss : List Sol) (hss : ∀ s ∈ ss, s.1.length ≤ 140737488355328 ∧ s.2.length ≤ 140737488355328) (hlen : ss.length ≤ 4096) (v : Value) (hv : SolsAt w v ss) (out inn : ByteArray) (ho : out.size ≤ maxLen) (hi : inn.size ≤ maxLen) :
    Calls Try.prog 11 #[.pointer (some ⟨N.n, 0, none⟩), v, .string out, .string inn] w (RetCu w (cuF nodes br out inn ss)) := by
  have hv0 := hv
  obtain ⟨sa, sc, rfl, -⟩ := hv0
  have b0 : Below w.heap.size w (w.alloc (.cells #[.int .i64 0, .int .i64 0] 31)) := (Below.refl _ w).alloc (Nat.le_refl _) _
  have F0 := FltAt.new w 0 0
  have HW := hid (nWithout_any (K.below b0) hh)
  go_enter Try.func11, Try.ntmps11
  have g1 : ¬ (4096 : Int) < (ss.length : Int) := by omega
  go_wp2_with (go_at_call 33; (with_reducible refine HW.out.mono ?_); rintro E1 w1 ⟨rfl, hb1⟩)
  have F1 : FltAt w1 w.heap.size 0 0 := F0.below hb1 (by simp)
  have b1 : Below w.heap.size w w1 := b0.trans (hb1.mono (by simp))
  clear F0 b0 hb1 HW
  go_loopw [35, 12] (fun i v w' => CuLoop w (stE nodes br out inn) (stG nodes br out inn) ss i v w') (fun i _ _ => ss.length + 1 - (intOf i).toNat)
  case atStart => exact ⟨0, [], Nat.zero_le _, rfl, rfl, World.ownsRow_nil _ _ _ _, rfl, rfl, F1, b1⟩
  case round =>
    obtain ⟨k, r, hk, rfl, hr, hown, hrm, herr, hF, hb⟩ := hrel
    clear F1 b1
    have hz := hb.size
    have hlt := hF.lt
    have Kr := K.below hb
    have Hv := hv.below hb
    by_cases hkn : k < ss.length
    · obtain ⟨s, hs⟩ : ∃ z, ss[k]? = some z := ⟨ss[k]'hkn, List.getElem?_eq_getElem hkn⟩
      obtain ⟨ea, ec, e1, hx⟩ := Hv
      cases e1
      obtain ⟨b, off, o, a1, c1, a2, c2, rfl, h0, h1, h2, S1, S2⟩ := hx k s hs
      have g2 : (k : Int) < (ss.length : Int) := by omega
      have HX := hid hs
      have HRM := hid hrm
      have HER := hid herr
      obtain ⟨m1, m2⟩ := hss s (List.mem_of_getElem? hs)
      clear hx hs hrm herr hv K
      go_upto_region 10 with (fail)
      have ba : Below wr.heap.size wr (wr.alloc (.cells #[.float .f64 o, .slice a1 s.1.length c1, .slice a2 s.2.length c2] 46)) := (Below.refl _ wr).alloc (Nat.le_refl _) _
      have hblk := blk_new wr (.cells #[.float .f64 o, .slice a1 s.1.length c1, .slice a2 s.2.length c2] 46)
      obtain ⟨wa, hwa⟩ : ∃ wa, wa = wr.alloc (.cells #[.float .f64 o, .slice a1 s.1.length c1, .slice a2 s.2.length c2] 46) := ⟨_, rfl⟩
      rw [← hwa] at ba hblk ⊢
      clear hwa
      have hla : wr.heap.size < wa.heap.size := (Array.getElem?_eq_some_iff.1 hblk).1
      have k0 : wa.cell? ⟨wr.heap.size, 0, none⟩ = some (.float .f64 o) := by simp [World.cell?, hblk]
      have k1 : wa.cell? ⟨wr.heap.size, 1, none⟩ = some (.slice a1 s.1.length c1) := by simp [World.cell?, hblk]
      have k2 : wa.cell? ⟨wr.heap.size, 2, none⟩ = some (.slice a2 s.2.length c2) := by simp [World.cell?, hblk]
      have HA := fun (w' : World) (h : Below wr.heap.size wr w') => Volt_any (Kr.below h) hh hn hbr s.1 s.2 (.agg #[.float .f64 o, .slice a1 s.1.length c1, .slice a2 s.2.length c2]) ⟨o, a1, c1, a2, c2, rfl, S1.below h, S2.below h⟩ m1 m2 out ho
      have HB := fun (w' : World) (h : Below wr.heap.size wr w') => Volt_any (Kr.below h) hh hn hbr s.1 s.2 (.agg #[.float .f64 o, .slice a1 s.1.length c1, .slice a2 s.2.length c2]) ⟨o, a1, c1, a2, c2, rfl, S1.below h, S2.below h⟩ m1 m2 inn hi
      obtain ⟨⟨⟨x1, y1⟩, e1⟩, hv1⟩ : ∃ r, r = voltF nodes br s.1 s.2 out := ⟨_, rfl⟩
      obtain ⟨⟨⟨x2, y2⟩, e2⟩, hv2⟩ : ∃ r, r = voltF nodes br s.1 s.2 inn := ⟨_, rfl⟩
      rw [← hv1] at HA
      rw [← hv2] at HB
      replace HA := hid HA
      replace HB := hid HB
      have hE1 : e1 ≠ 0 → stE nodes br out inn s = e1 := fun h => by unfold stE; rw [← hv1, if_neg h]
      have hE2 : e1 = 0 → e2 ≠ 0 → stE nodes br out inn s = e2 := fun h h' => by unfold stE; rw [← hv1, ← hv2, if_pos h, if_neg h']
      have hE3 : e1 = 0 → e2 = 0 → stE nodes br out inn s = ofE (cv x1 y1) (cv x2 y2) := fun h h' => by unfold stE; rw [← hv1, ← hv2, if_pos h, if_pos h']; rfl
      have hG : stG nodes br out inn s = ofG (cv x1 y1) (cv x2 y2) := by unfold stG; rw [← hv1, ← hv2]; rfl
      have HE1 := hid hE1
      have HE2 := hid hE2
      have HE3 := hid hE3
      have HG := hid hG
      clear hv1 hv2 hE1 hE2 hE3 hG h0 h1 h2 hblk
      go_upto_region 11 with (go_at_call 34; (with_reducible refine (HA.out _ ba).mono ?_); rintro E1 w1 ⟨rfl, hb1⟩)
      have b1 := bl2 ba hb1
      have q0 := (hb1.cell (p := ⟨wr.heap.size, 0, none⟩) hla).trans k0
      have q1 := (hb1.cell (p := ⟨wr.heap.size, 1, none⟩) hla).trans k1
      have q2 := (hb1.cell (p := ⟨wr.heap.size, 2, none⟩) hla).trans k2
      clear k0 k1 k2 HA hb1 ba
      go_upto_region 12 with (go_at_call 34; (with_reducible refine (HB.out _ b1).mono ?_); rintro E2 w2 ⟨rfl, hb2⟩)
      have b2 := bl2 b1 hb2
      have hF2 := hF.below b2 hlt
      have hown2 := owns_below hown b2
      have hbB := hb.trans (b2.mono hz)
      have hz2 := hbB.size
      have hlt2 := hF2.lt
      have f0 := hF2.c0
      have f1 := hF2.c1
      have f2 := hF2.fr 0
      have f3 := hF2.fr 1
      clear q0 q1 q2 HB hb2 b1 S1 S2 Kr hF hown hla hb
      by_cases he1 : e1 = 0
      · by_cases he2 : e2 = 0
        · obtain ⟨e3, he3⟩ : ∃ e, e = ofE (cv x1 y1) (cv x2 y2) := ⟨_, rfl⟩
          have HO := fun w => gOf_any x1 y1 x2 y2 w
          rw [← he3] at HO
          replace HO := hid HO
          have HS := hid ((HE3.out he1 he2).trans he3.symm)
          subst he1
          subst he2
          clear he3 HE1 HE2 HE3
          by_cases h0 : e3 = 0
          · subst h0
            clear f0 f1 f2 f3
            go_wp2_with (first | (go_at_call 21; (with_reducible refine (HO.out _).mono ?_); rintro E3 w3 ⟨x3, y3, rfl, ⟨n3, rfl⟩, hv3, hx3, hy3⟩; have HV := hid hv3; clear hv3) | (at_builtin; go_loud (refine wpList_app1 rfl _ _ 41 rfl (w.heap.size + 1) 63 _ 16 Try.underlying41 info_c rfl _ k _ (.complex .f64 x3 y3) rfl rfl rfl (by exact owns_drewN hown2 n3) (by omega) (by omega) (by simp; omega) ?_; intro v' w' h1 h2 h3)))
            go_roundw
            case rel =>
              have hF4 : FltAt (w2.drewN n3) w.heap.size 0 0 := hF2
              exact ⟨k + 1, r ++ [(x3, y3)], by omega, by go_num, by simp [hr], by rw [List.map_append]; exact h1, map_snoc HX.out HRM.out (HV.out.trans HG.out.symm), HER.out.trans (errG_ok HX.out HS.out), hF4.below h2 (by omega), (below_drewN' hbB n3).trans (h2.mono (by omega))⟩
            case measure => simp [intOf] <;> omega
          · have g3 : (e3 == 0) = false := by simpa using h0
            clear h0
            go_wp2_with (first | (go_at_call 21; (with_reducible refine (HO.out _).mono ?_); rintro E3 w3 ⟨x3, y3, rfl, ⟨n3, rfl⟩, hv3, hx3, hy3⟩; have HV := hid hv3; clear hv3))
            have hF4 : FltAt (w2.drewN n3) w.heap.size 0 0 := hF2
            refine bodyPost_ret (results_flt rfl _ _ w.heap.size e3 k rfl (hF4.set2 _ _)) rfl ?_
            have h00 : e3 ≠ 0 := by simpa using g3
            have HF := cuF_bad (HER.out.trans (errG_bad HX.out (by rw [HS.out]; exact h00))) (by rw [HS.out]; exact h00)
            rw [HS.out] at HF
            exact ⟨_, [], by rw [HF]; rfl, World.ownsRow_nil _ _ _ _, by rw [HF]; rfl, below_set2 (below_drewN' hbB n3) _ _ (Nat.le_refl _)⟩
        · have HS := hid (HE2.out he1 he2)
          have H0 := hid he2
          have g3 : (e2 == 0) = false := by simpa using he2
          subst he1
          clear he2 HE1 HE2 HE3
          go_wp2
          refine bodyPost_ret (results_flt rfl _ _ w.heap.size e2 k rfl (hF2.set2 _ _)) rfl ?_
          have HF := cuF_bad (HER.out.trans (errG_bad HX.out (by rw [HS.out]; exact H0.out))) (by rw [HS.out]; exact H0.out)
          rw [HS.out] at HF
          exact ⟨_, [], by rw [HF]; rfl, World.ownsRow_nil _ _ _ _, by rw [HF]; rfl, below_set2 hbB _ _ (Nat.le_refl _)⟩
      · have HS := hid (HE1.out he1)
        have H0 := hid he1
        have g3 : (e1 == 0) = false := by simpa using he1
        clear he1 HE1 HE2 HE3
        go_wp2
        refine bodyPost_ret (results_flt rfl _ _ w.heap.size e1 k rfl (hF2.set2 _ _)) rfl ?_
        have HF := cuF_bad (HER.out.trans (errG_bad HX.out (by rw [HS.out]; exact H0.out))) (by rw [HS.out]; exact H0.out)
        rw [HS.out] at HF
        exact ⟨_, [], by rw [HF]; rfl, World.ownsRow_nil _ _ _ _, by rw [HF]; rfl, below_set2 hbB _ _ (Nat.le_refl _)⟩
    · obtain rfl : k = ss.length := by omega
      have f0 := hF.c0
      have f1 := hF.c1
      have f2 := hF.fr 0
      have f3 := hF.fr 1
      clear hv K Hv Kr
      go_wp2
      refine bodyPost_ret (results_flt rfl _ _ w.heap.size 0 0 rfl (hF.set2 _ _)) rfl ?_
      have HF := cuF_ok (herr.trans errG_end)
      rw [List.take_length] at hrm
      refine ⟨_, r, by rw [HF], ?_, by rw [HF]; exact hrm, below_set2 hb _ _ (Nat.le_refl _)⟩
      rw [hr]
      exact gownsRow_le (own_setBelow (own_setBelow hown (Nat.lt_succ_self _) _) (Nat.lt_succ_self _) _) (by omega)
end
section
variable {w : World} {r : Nat} {L : List El} {nodes : List ByteArray}
set_option maxRecDepth 100000 in
set_option maxHeartbeats 8000000 in
theorem rCurve_any (K : RfN w r L) (hL : L.length ≤ 1000) (hno : nodesF L = nodes) (hzn : hasS nodes zero8 = false) (ss : List Sol) (hss : ∀ s ∈ ss, s.1.length ≤ 140737488355328 ∧ s.2.length ≤ 140737488355328) (hlen : ss.length ≤ 4096) (v : Value) (hv : SolsAt w v ss) (out inn : ByteArray) :
    Calls Try.prog 12 #[.pointer (some ⟨r, 0, none⟩), v, .string out, .string inn] w (RetCu w (cuF nodes (brF L) out inn ss)) := by
  have hv0 := hv
  obtain ⟨sa, sc, rfl, -⟩ := hv0
  have b0 : Below w.heap.size w (w.alloc (.cells #[.int .i64 0, .int .i64 0] 31)) := (Below.refl _ w).alloc (Nat.le_refl _) _
  have F0 := FltAt.new w 0 0
  have HW := hid (None_any (K.below b0))
  have HNO := hid hno
  clear hno
  go_enter Try.func12, Try.ntmps12
  have g1 : ¬ (4096 : Int) < (ss.length : Int) := by omega
  go_wp2_with (go_at_call 35; (with_reducible refine HW.out.mono ?_); rintro E1 w1 ⟨rfl, hb1⟩)
  have F1 : FltAt w1 w.heap.size 0 0 := F0.below hb1 (by simp)
  have b1 : Below w.heap.size w w1 := b0.trans (hb1.mono (by simp))
  clear F0 b0 hb1 HW
  go_loopw [11, 10] (fun i v w' => CuLoop w (stE nodes (brF L) out inn) (stG nodes (brF L) out inn) ss i v w') (fun i _ _ => ss.length + 1 - (intOf i).toNat)
  case atStart => exact ⟨0, [], Nat.zero_le _, rfl, rfl, World.ownsRow_nil _ _ _ _, rfl, rfl, F1, b1⟩
  case round =>
    obtain ⟨k, q, hk, rfl, hr, hown, hrm, herr, hF, hb⟩ := hrel
    clear F1 b1
    have hz := hb.size
    have hlt := hF.lt
    have Kr := K.below hb
    have Hv := hv.below hb
    by_cases hkn : k < ss.length
    · obtain ⟨s, hs⟩ : ∃ z, ss[k]? = some z := ⟨ss[k]'hkn, List.getElem?_eq_getElem hkn⟩
      have hv2 := Hv
      obtain ⟨ea, ec, e1, hx⟩ := Hv
      cases e1
      obtain ⟨b, off, o, a1, c1, a2, c2, rfl, h0, h1, h2, S1, S2⟩ := hx k s hs
      have g2 : (k : Int) < (ss.length : Int) := by omega
      have HX := hid hs
      have HRM := hid hrm
      have HER := hid herr
      obtain ⟨m1, m2⟩ := hss s (List.mem_of_getElem? hs)
      have hbl : b < wr.heap.size := World.block_lt_of_cell? _ _ h0
      clear hx hs hrm herr hv K hv2
      have HA := fun (w' : World) (h : Below wr.heap.size wr w') => rVolt_any (Kr.below h) hL nodes HNO.out s.1 s.2 (.agg #[.float .f64 o, .slice a1 s.1.length c1, .slice a2 s.2.length c2]) ⟨o, a1, c1, a2, c2, rfl, S1.below h, S2.below h⟩ m1 m2 out hzn
      have HB := fun (w' : World) (h : Below wr.heap.size wr w') => rVolt_any (Kr.below h) hL nodes HNO.out s.1 s.2 (.agg #[.float .f64 o, .slice a1 s.1.length c1, .slice a2 s.2.length c2]) ⟨o, a1, c1, a2, c2, rfl, S1.below h, S2.below h⟩ m1 m2 inn hzn
      obtain ⟨⟨⟨x1, y1⟩, e1⟩, hv1⟩ : ∃ r, r = voltF nodes (brF L) s.1 s.2 out := ⟨_, rfl⟩
      obtain ⟨⟨⟨x2, y2⟩, e2⟩, hv2⟩ : ∃ r, r = voltF nodes (brF L) s.1 s.2 inn := ⟨_, rfl⟩
      rw [← hv1] at HA
      rw [← hv2] at HB
      replace HA := hid HA
      replace HB := hid HB
      have hE1 : e1 ≠ 0 → stE nodes (brF L) out inn s = e1 := fun h => by unfold stE; rw [← hv1, if_neg h]
      have hE2 : e1 = 0 → e2 ≠ 0 → stE nodes (brF L) out inn s = e2 := fun h h' => by unfold stE; rw [← hv1, ← hv2, if_pos h, if_neg h']
      have hE3 : e1 = 0 → e2 = 0 → stE nodes (brF L) out inn s = ofE (cv x1 y1) (cv x2 y2) := fun h h' => by unfold stE; rw [← hv1, ← hv2, if_pos h, if_pos h']; rfl
      have hG : stG nodes (brF L) out inn s = ofG (cv x1 y1) (cv x2 y2) := by unfold stG; rw [← hv1, ← hv2]; rfl
      have HE1 := hid hE1
      have HE2 := hid hE2
      have HE3 := hid hE3
      have HG := hid hG
      clear hv1 hv2 hE1 hE2 hE3 hG
      go_upto_region 10 with (go_at_call 36; (with_reducible refine (HA.out _ (Below.refl _ _)).mono ?_); rintro E1 w1 ⟨rfl, b1⟩)
      have q0 := (b1.cell (p := ⟨b, off + k * 3, none⟩) hbl).trans h0
      have q1 := (b1.cell (p := ⟨b, off + k * 3 + 1, none⟩) hbl).trans h1
      have q2 := (b1.cell (p := ⟨b, off + k * 3 + 2, none⟩) hbl).trans h2
      have hF1 := hF.below b1 hlt
      have hown1 := owns_below hown b1
      have hbA := hb.trans (b1.mono hz)
      clear h0 h1 h2 HA
      by_cases he1 : e1 = 0
      · have HE2b := hid (HE2.out he1)
        have HE3b := hid (HE3.out he1)
        subst he1
        clear HE1 HE2 HE3 hF hown hb
        go_upto_region 13 with (go_at_call 36; (with_reducible refine (HB.out _ b1).mono ?_); rintro E2 w2 ⟨rfl, hb2⟩)
        have hF2 := hF1.below hb2 hF1.lt
        have hown2 := owns_below hown1 hb2
        have hbB := hbA.trans (hb2.mono hbA.size)
        have hz2 := hbB.size
        have hlt2 := hF2.lt
        have f0 := hF2.c0
        have f1 := hF2.c1
        have f2 := hF2.fr 0
        have f3 := hF2.fr 1
        clear q0 q1 q2 HB hb2 b1 S1 S2 Kr hF1 hown1 hbA
        by_cases he2 : e2 = 0
        · obtain ⟨e3, he3⟩ : ∃ e, e = ofE (cv x1 y1) (cv x2 y2) := ⟨_, rfl⟩
          have HO := fun w => grOf_any x1 y1 x2 y2 w
          rw [← he3] at HO
          replace HO := hid HO
          have HS := hid ((HE3b.out he2).trans he3.symm)
          subst he2
          clear he3 HE2b HE3b
          by_cases h0 : e3 = 0
          · subst h0
            clear f0 f1 f2 f3
            go_wp2_with (first | (go_at_call 37; (with_reducible refine (HO.out _).mono ?_); rintro E3 w3 ⟨x3, y3, rfl, ⟨n3, rfl⟩, hv3, hx3, hy3⟩; have HV := hid hv3; clear hv3) | (at_builtin; go_loud (refine wpList_app1 rfl _ _ 41 rfl (w.heap.size + 1) 63 _ 16 Try.underlying41 info_c rfl _ k _ (.complex .f64 x3 y3) rfl rfl rfl (by exact owns_drewN hown2 n3) (by omega) (by omega) (by simp; omega) ?_; intro v' w' h1 h2 h3)))
            go_roundw
            case rel =>
              have hF4 : FltAt (w2.drewN n3) w.heap.size 0 0 := hF2
              exact ⟨k + 1, q ++ [(x3, y3)], by omega, by go_num, by simp [hr], by rw [List.map_append]; exact h1, map_snoc HX.out HRM.out (HV.out.trans HG.out.symm), HER.out.trans (errG_ok HX.out HS.out), hF4.below h2 (by omega), (below_drewN' hbB n3).trans (h2.mono (by omega))⟩
            case measure => simp [intOf] <;> omega
          · have g3 : (e3 != 0) = true := by simpa using h0
            clear h0
            go_wp2_with (first | (go_at_call 37; (with_reducible refine (HO.out _).mono ?_); rintro E3 w3 ⟨x3, y3, rfl, ⟨n3, rfl⟩, hv3, hx3, hy3⟩; have HV := hid hv3; clear hv3))
            have hF4 : FltAt (w2.drewN n3) w.heap.size 0 0 := hF2
            refine bodyPost_ret (results_flt rfl _ _ w.heap.size e3 k rfl (hF4.set2 _ _)) rfl ?_
            have h00 : e3 ≠ 0 := by simpa using g3
            have HF := cuF_bad (HER.out.trans (errG_bad HX.out (by rw [HS.out]; exact h00))) (by rw [HS.out]; exact h00)
            rw [HS.out] at HF
            exact ⟨_, [], by rw [HF]; rfl, World.ownsRow_nil _ _ _ _, by rw [HF]; rfl, below_set2 (below_drewN' hbB n3) _ _ (Nat.le_refl _)⟩
        · have HS := hid (HE2b.out he2)
          have H0 := hid he2
          have g3 : (e2 != 0) = true := by simpa using he2
          clear he2 HE2b HE3b
          go_wp2
          refine bodyPost_ret (results_flt rfl _ _ w.heap.size e2 k rfl (hF2.set2 _ _)) rfl ?_
          have HF := cuF_bad (HER.out.trans (errG_bad HX.out (by rw [HS.out]; exact H0.out))) (by rw [HS.out]; exact H0.out)
          rw [HS.out] at HF
          exact ⟨_, [], by rw [HF]; rfl, World.ownsRow_nil _ _ _ _, by rw [HF]; rfl, below_set2 hbB _ _ (Nat.le_refl _)⟩
      · have HS := hid (HE1.out he1)
        have H0 := hid he1
        have g3 : (e1 != 0) = true := by simpa using he1
        have f0 := hF1.c0
        have f1 := hF1.c1
        have f2 := hF1.fr 0
        have f3 := hF1.fr 1
        clear he1 HE1 HE2 HE3 HB q0 q1 q2
        go_wp2
        refine bodyPost_ret (results_flt rfl _ _ w.heap.size e1 k rfl (hF1.set2 _ _)) rfl ?_
        have HF := cuF_bad (HER.out.trans (errG_bad HX.out (by rw [HS.out]; exact H0.out))) (by rw [HS.out]; exact H0.out)
        rw [HS.out] at HF
        exact ⟨_, [], by rw [HF]; rfl, World.ownsRow_nil _ _ _ _, by rw [HF]; rfl, below_set2 hbA _ _ (Nat.le_refl _)⟩
    · obtain rfl : k = ss.length := by omega
      have f0 := hF.c0
      have f1 := hF.c1
      have f2 := hF.fr 0
      have f3 := hF.fr 1
      clear hv K Hv Kr
      go_wp2
      refine bodyPost_ret (results_flt rfl _ _ w.heap.size 0 0 rfl (hF.set2 _ _)) rfl ?_
      have HF := cuF_ok (herr.trans errG_end)
      rw [List.take_length] at hrm
      refine ⟨_, q, by rw [HF], ?_, by rw [HF]; exact hrm, below_set2 hb _ _ (Nat.le_refl _)⟩
      rw [hr]
      exact gownsRow_le (own_setBelow (own_setBelow hown (Nat.lt_succ_self _) _) (Nat.lt_succ_self _) _) (by omega)
end
end Go.Proofs.Ytfnbohpfcdddgaa

