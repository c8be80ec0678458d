/- lower.step: a column eliminated. Conditions: the state is lower.start's or a step's; the column is one of it; at most 64 rows. -/
import Derived.Test.YtgcakhmdmajplaaTlCM
import Derived.Test.YtgcakhmdmajplaaNLInM
import Derived.Deep.CutBlock
import Derived.Deep.CutRange
namespace Go.Proofs.Ytgcakhmdmajplaa
open Go.RowKit

def RetLo (w : World) (B lb n : Nat) (r : Int × (Nat → Nat → CV) × (Nat → Nat) × Int) (E : Ending) (w' : World) : Prop := E = .returned (.int .i64 r.1) ∧ Below B w w' ∧ (r.1 = 0 → ∃ ρ rv ov rw rs, LoR B ρ w' lb n rv ov r.2.2.2 rw r.2.2.1 rs id n ∧ Ent rs n r.2.1)
def ElLoop (W : World) (B lb n gr cr go co : Nat) (sg : Int) (gb cb od : Nat → Nat) (M : Nat → Nat → CV) (k : Nat) (fi i : Value) (wr : World) : Prop := ∃ (q : Nat) (fb : Bool) (ρ : Nat → Rw) (rs : Nat → List Z), fi = .bool fb ∧ i = .int .i64 q ∧ k < q ∧ q ≤ n ∧ (fb = true ↔ FineO M n k q) ∧ LoS B ρ wr lb n gr cr go co sg gb cb od rs ∧ Ent rs n (midM M k q (k + 1)) ∧ Below B W wr
def ElIn (W : World) (B lb n gr cr go co : Nat) (sg : Int) (gb cb od : Nat → Nat) (M : Nat → Nat → CV) (k q : Nat) (fi j : Value) (wr : World) : Prop := ∃ (t : Nat) (fb : Bool) (ρ : Nat → Rw) (rs : Nat → List Z), fi = .bool fb ∧ j = .int .i64 t ∧ k < t ∧ t ≤ n ∧ (fb = true ↔ FineI M n k q t) ∧ LoS B ρ wr lb n gr cr go co sg gb cb od rs ∧ Ent rs n (midM M k q t) ∧ Below B W wr
theorem upd_upd (ρ : Nat → Rw) (i : Nat) (x y : Rw) : upd (upd ρ i x) i y = upd ρ i y := by
  funext j
  unfold upd
  split <;> rfl
def ColLoop (W : World) (B : Nat) (ρ : Nat → Rw) (g n k : Nat) (M : Nat → Nat → CV) (i : Value) (wr : World) : Prop := ∃ (q : Nat) (cs : List Z), i = .int .i64 q ∧ q ≤ n ∧ cs.length = n ∧ (∀ a, a < q → ∃ z, cs[a]? = some z ∧ zv z = M a k) ∧ RS B (upd ρ 4 ⟨44, 1, .slice (some ⟨g, 0, none⟩) n n, n, cs.map C⟩) wr ∧ Below B W wr
set_option maxRecDepth 100000 in
set_option maxHeartbeats 4000000 in
theorem step_any (w : World) (B lb n k : Nat) (ρ : Nat → Rw) (rv ov : Value) (sg : Int) (rw : Nat → Value) (od : Nat → Nat) (rs : Nat → List Z) (M : Nat → Nat → CV) (H0 : LoR B ρ w lb n rv ov sg rw od rs id n) (hE : Ent rs n M) (hk : k < n) (hn : n ≤ 64) (hB : B ≤ w.heap.size) (hsg : sg = 1 ∨ sg = -1) :
    Calls Try.prog 87 #[.pointer (some ⟨lb, 0, none⟩), .int .i64 k] w (RetLo w B lb n (stepF n M od sg k)) := by
  obtain ⟨gr, cr, go, co, gb, cb, H⟩ := H0.form (Nat.zero_lt_of_lt hk)
  clear H0
  obtain ⟨G, hG⟩ : ∃ G, G = stepF n M od sg k := ⟨_, rfl⟩
  rw [← hG]
  replace hG := hid hG
  have k1 := H.c1
  have hmk := made_z n hn
  have R1 := H.own.push hB (bl_a w (.cells (Array.replicate n (Value.complex .f64 0 0)) 44)) 4 (Nat.le_refl _) (own_col n hn w)
  have b1 : Below B w (w.alloc (.cells (Array.replicate n (Value.complex .f64 0 0)) 44)) := (bl_a w _).mono hB
  have k2 := cell_alq (o := .cells (Array.replicate n (Value.complex .f64 0 0)) 44) k1
  go_enter Try.func87, Try.ntmps87
  go_wp2
  clear k1 k2
  go_loopw [26] (fun i w' => ColLoop w B ρ w.heap.size n k M i w') (fun i _ => n + 1 - (intOf i).toNat)
  case atStart => exact ⟨0, List.replicate n (0, 0), rfl, Nat.zero_le _, by simp, fun a ha => absurd ha (Nat.not_lt_zero _), R1, b1⟩
  case round =>
    obtain ⟨q, cs, rfl, hq, hcs, hc, R, hb⟩ := hrel
    clear R1 b1 hmk
    have HR := H.row4 R
    by_cases hqn : q < n
    · have g6 : (q : Int) < (n : Int) := by omega
      have g7 : (k : Int) < (n : Int) := by omega
      obtain ⟨z, hz, hzM⟩ := hE q hqn k hk
      have m1 := HR.rc hqn
      have m2 := HR.ec hqn hz
      have m3 := R.fr (upd_same _ _ _) q
      obtain ⟨y, hy⟩ : ∃ y, cs[q]? = some y := ⟨cs[q]'(by omega), List.getElem?_eq_getElem (by omega)⟩
      have m4 := R.cell (upd_same _ _ _) (j := q) (u := C y) (by rw [List.getElem?_map, hy]; rfl)
      have R2 := R.store (upd_same _ _ _) q (.complex .f64 z.1 z.2)
      rw [upd_upd, show (cs.map C).set q (.complex .f64 z.1 z.2) = (cs.set q z).map C by rw [List.map_set]; rfl] at R2
      have hc2 : ∀ a, a < q + 1 → ∃ x, (cs.set q z)[a]? = some x ∧ zv x = M a k := by
        intro a ha
        by_cases haq : a = q
        · subst haq
          exact ⟨z, by rw [List.getElem?_set_self (by omega)], hzM⟩
        · obtain ⟨x, h1, h2⟩ := hc a (by omega)
          exact ⟨x, by rw [List.getElem?_set_ne (Ne.symm haq)]; exact h1, h2⟩
      go_wp2
      go_roundw
      case rel => exact ⟨q + 1, cs.set q z, by go_num, hqn, by simp [hcs], hc2, R2, hb.setCell hB _⟩
      case measure => simp [intOf]; omega
    · obtain rfl : n = q := by omega
      have g6 : ¬ (n : Int) < (n : Int) := by omega
      have hcol : cs.map zv = colF n M k := by
        refine List.ext_getElem? fun j => ?_
        unfold colF
        rcases Nat.lt_or_ge j n with hj | hj
        · obtain ⟨x, h1, h2⟩ := hc j hj
          rw [List.getElem?_map, List.getElem?_map, List.getElem?_range hj, h1]
          simp [h2]
        · rw [List.getElem?_eq_none (by simp; omega), List.getElem?_eq_none (by simp; omega)]
      have hsl := R.sl 4 (by rw [upd_same])
      rw [upd_same] at hsl
      have HCh := Choose_any cs _ wr hsl (by omega) k (by omega)
      rw [hcol] at HCh
      obtain ⟨r, hr⟩ : ∃ r, r = choF (colF n M k) k := ⟨_, rfl⟩
      rw [← hr] at HCh
      by_cases he : r.2 = 0
      · obtain ⟨p, hp, hpn⟩ := choF_pick (l := colF n M k) (k := k) (by unfold colF; simp; omega) (by unfold colF; simp; omega) (by rw [← hr]; exact he)
        rw [← hr] at hp
        subst hp
        replace hpn : p < n := by unfold colF at hpn; simpa using hpn
        replace hr := hid hr
        clear he hc hcol hsl
        go_upto_if 50 with (first | (go_at_call 96; (with_reducible refine HCh.mono ?_); rintro E2 w2 ⟨rfl, ⟨n2, rfl⟩⟩))
        have HS := HR.drewN n2
        have hb2 : Below B w (wr.drewN n2) := below_drewN' hb n2
        clear HR R HCh
        obtain ⟨w3, hw3⟩ : ∃ w3, w3 = wr.drewN n2 := ⟨_, rfl⟩
        rw [← hw3] at HS hb2 ⊢
        clear hw3 hb
        go_cut [] from 48 to 110 (fun wx => (∃ ρ', LoS B ρ' wx lb n gr cr go co (if p = k then sg else -sg) (fun i => gb (swapN k p i)) (fun i => cb (swapN k p i)) (fun i => od (swapN k p i)) (fun i => rs (swapN k p i))) ∧ Below B w wx)
        case first =>
          by_cases hpk : p = k
          · have hpk2 : (p : Int) = (k : Int) := by omega
            go_wp2
            go_meet
            exact ⟨⟨_, by rw [if_pos hpk, hpk, swapN_self]; exact HS⟩, hb2⟩
          · have hpk2 : ¬ (p : Int) = (k : Int) := by omega
            go_upto_region 11 with (fail)
            have q1 := HS.c1
            have q2 := HS.c2
            have q3 := HS.c3
            have q4 := HS.rc hk
            have q5 := HS.rc hpn
            have q6 := HS.oc hk
            have q7 := HS.oc hpn
            have q8 := HS.f3
            have q9 := HS.rf k
            have q10 := HS.rf p
            have q11 := HS.of k
            have q12 := HS.of p
            obtain ⟨z1, z2, z3⟩ := HS.ne
            have z4 := z1.symm
            have z5 := z2.symm
            have z6 := z3.symm
            have z7 := Ne.symm hpk
            have g7 : (k : Int) < (n : Int) := by omega
            have g8 : (p : Int) < (n : Int) := by omega
            have hng : IntKind.i64.wrap (-sg) = -sg := IntWalk.i64_in _ (by omega)
            refine wp_region_takes 54 0 (by kernel_rfl) (by kernel_rfl) (fun _ _ _ _ _ h => h) ?_
            simp only [List.append_eq, List.cons_append, List.nil_append, List.take_succ_cons, List.take_zero, List.drop_succ_cons, List.drop_zero]
            repeat
              first
                | (refine wpTk_reck rfl rfl (fun K hK => ?_); unfold Oper.gives; go_simp; refine hK _ ?_; clear hK K)
                | (refine wpTk_loadD rfl rfl (fun K hK => ?_); unfold Oper.gives; go_simp; refine hK _ ?_; clear hK K)
            refine wpTk_nil (wpDs_zero ?_)
            go_wp2
            go_meet
            obtain ⟨ρs, hs⟩ := HS.swap hk hpn (-sg)
            obtain ⟨l1, l2, l3⟩ := HS.le
            exact ⟨⟨ρs, by rw [if_neg hpk]; exact hs.drew⟩, (((((hb2.setCell l1 _).setCell l1 _).setCell l2 _).setCell l2 _).setCell l3 _).drew⟩
        case rest =>
          obtain ⟨⟨ρ1, H1⟩, hb1⟩ := hcut
          have hE1 := hE.swap hk hpn
          have hGe : G = (if FineO (fun i j => M (swapN k p i) j) n k n then 0 else 6, midM (fun i j => M (swapN k p i) j) k n (k + 1), fun i => od (swapN k p i), if p = k then sg else -sg) := by
            rw [hG.out]
            unfold stepF
            simp only [← hr.out]
            rfl
          clear hG hr HS H hE hb2
          generalize (fun i j => M (swapN k p i) j) = M1 at hGe hE1
          generalize (fun i => gb (swapN k p i)) = gb1 at H1
          generalize (fun i => cb (swapN k p i)) = cb1 at H1
          generalize (fun i => od (swapN k p i)) = od1 at H1 hGe
          generalize (fun i => rs (swapN k p i)) = rs1 at H1 hE1
          generalize (if p = k then sg else -sg) = sg1 at H1 hGe
          replace hGe := hid hGe
          have hk1 : IntKind.i64.wrap ((k : Int) + 1) = (k : Int) + 1 := IntWalk.i64_in _ (by omega)
          go_wp2
          go_loopw [10, 11] (fun fi i w' => ElLoop w B lb n gr cr go co sg1 gb1 cb1 od1 M1 k fi i w') (fun _ i _ => n + 1 - (intOf i).toNat)
          case atStart => exact ⟨k + 1, true, ρ1, rs1, rfl, by go_num, Nat.lt_succ_self k, hk, ⟨fun _ => FineO.start, fun _ => rfl⟩, H1, hE1.congr fun i _ j _ => (mid_start i j).symm, hb1⟩
          case round =>
            obtain ⟨q, fb, ρq, rsq, rfl, rfl, hkq, hq, hfb, HQ, hEq, hbq⟩ := hrel
            clear H1 hE1 hb1
            replace hfb := hid hfb
            have d1 := HQ.c1
            by_cases hqn : q < n
            · have g8 : (q : Int) < (n : Int) := by omega
              obtain ⟨y1, hy1, hv1⟩ := hEq q hqn k hk
              obtain ⟨y2, hy2, hv2⟩ := hEq k hk k hk
              rw [mid_col hkq] at hv1
              rw [mid_row] at hv2
              have d2 := HQ.rc hqn
              have d3 := HQ.rc hk
              have d4 := HQ.ec hqn hy1
              have d5 := HQ.ec hk hy2
              have g9 : (k : Int) < (n : Int) := by omega
              have HD : Hid (∀ w, Calls Try.prog 94 #[.complex .f64 y1.1 y1.2, .complex .f64 y2.1 y2.2] w (RetC w (cdiv (M1 q k) (M1 k k)))) := hid fun w => Div_z y1.1 y1.2 y2.1 y2.2 (M1 q k) (M1 k k) hv1 hv2 w
              go_upto_region 17 with (fail)
              go_still_tail 14, (by kernel_rfl)
              go_upto_region 18 with (first | (go_at_call 94; (with_reducible refine (HD.out _).mono ?_); rintro E4 w4 ⟨f1, f2, rfl, ⟨n4, rfl⟩, hf, -, -⟩))
              obtain ⟨w5, hw5⟩ : ∃ w5, w5 = wr.drewN (1 + n4) := ⟨_, rfl⟩
              have HQ5 := HQ.drewN (1 + n4)
              have hb5 := below_drewN' hbq (1 + n4)
              rw [← hw5] at HQ5 hb5 ⊢
              clear hw5 HQ hbq d1 d2 d3 d4 d5 HD hv1 hv2 hy1 hy2
              obtain ⟨F, hF⟩ : ∃ F, F = cdiv (M1 q k) (M1 k k) := ⟨_, rfl⟩
              rw [← hF] at hf
              replace hF := hid hF
              go_cut [10] from 144 to 148 (fun z wx => ∃ b : Bool, z = .bool b ∧ (b = true ↔ fb = true ∧ cfin F = true) ∧ ∃ m, wx = w5.drewN m)
              case first =>
                have HFi : Hid (∀ w, Calls Try.prog 61 #[.complex .f64 f1 f2] w (RetB w (cfin F))) := hid fun w => Finite_q f1 f2 F hf w
                cases fb
                all_goals
                  go_wp2_with (first | (go_at_call 61; (with_reducible refine (HFi.out _).mono ?_); rintro E6 w6 ⟨rfl, ⟨n6, rfl⟩⟩))
                  go_meet
                · exact ⟨false, rfl, by simp, 0, rfl⟩
                · exact ⟨cfin F, rfl, by simp, _, rfl⟩
              case rest =>
                obtain ⟨f2b, rfl, hfb2, m5, rfl⟩ := hcut
                have HQ6 := HQ5.drewN m5
                have hb6 := below_drewN' hb5 m5
                obtain ⟨w6, hw6⟩ : ∃ w6, w6 = w5.drewN m5 := ⟨_, rfl⟩
                rw [← hw6] at HQ6 hb6 ⊢
                clear hw6 HQ5 hb5
                have hfi : Hid (f2b = true ↔ FineI M1 n k q (k + 1)) := hid (by rw [FineI.start, ← hfb.out, ← hF.out]; exact hfb2)
                clear hfb2
                go_wp2
                go_loopw [10, 14] (fun fi j w' => ElIn w B lb n gr cr go co sg1 gb1 cb1 od1 M1 k q fi j w') (fun _ j _ => n + 1 - (intOf j).toNat)
                case atStart => exact ⟨k + 1, f2b, ρq, rsq, rfl, by go_num, Nat.lt_succ_self k, hk, hfi.out, HQ6, hEq, hb6⟩
                case round =>
                  obtain ⟨t, fc, ρt, rst, rfl, rfl, hkt, ht, hfc, HT, hEt, hbt⟩ := hrel
                  clear HQ6 hb6 hfi hEq hfb
                  replace hfc := hid hfc
                  by_cases htn : t < n
                  · have g10 : (t : Int) < (n : Int) := by omega
                    obtain ⟨y1, hy1, hv1⟩ := hEt q hqn t htn
                    obtain ⟨y2, hy2, hv2⟩ := hEt k hk t htn
                    rw [mid_at hkq] at hv1
                    rw [mid_row] at hv2
                    have d1 := HT.c1
                    have d3 := HT.rc hk
                    have d4 := HT.ec hqn hy1
                    have d5 := HT.ec hk hy2
                    have d6 := HT.ef hqn t
                    have HM : Hid (∀ w, Calls Try.prog 93 #[.complex .f64 f1 f2, .complex .f64 y2.1 y2.2] w (RetC w (cmul F (M1 k t)))) := hid fun w => Mul_z f1 f2 y2.1 y2.2 F (M1 k t) hf hv2 w
                    go_upto_region 22 with (fail)
                    go_cut [] from 157 to 176 (fun wx => ∃ r1 r2 m, cv r1 r2 = csub (M1 q t) (cmul F (M1 k t)) ∧ wx = (wr.drewN m).setCell ⟨gb1 q, t, none⟩ (.complex .f64 r1 r2))
                    case first =>
                      have hv3 : Hid (cv y1.1 y1.2 = M1 q t) := hid hv1
                      clear hv1
                      refine wp_region_takes 17 2 (by kernel_rfl) (by kernel_rfl) (fun _ _ _ _ _ h => h) ?_
                      simp only [List.take_succ_cons, List.take_zero, List.drop_succ_cons, List.drop_zero]
                      repeat
                        first
                          | (refine wpTk_reck rfl rfl (fun K hK => ?_); unfold Oper.gives; go_simp; refine hK _ ?_; clear hK K)
                          | (refine wpTk_loadD rfl rfl (fun K hK => ?_); unfold Oper.gives; go_simp; refine hK _ ?_; clear hK K)
                      refine wpTk_nil ?_
                      refine wpDs_call rfl (fun K hK => ?_)
                      go_simp
                      go_at_call 93
                      with_reducible refine (HM.out _).mono ?_
                      rintro E7 w7 ⟨p1, p2, rfl, ⟨n7, rfl⟩, hpm, -, -⟩
                      refine hK _ n7 ?_
                      clear hK K
                      rw [show wr.drew.drewN n7 = wr.drewN (1 + n7) from World.drewN_drewN wr 1 n7]
                      refine wpDs_call rfl (fun K hK => ?_)
                      go_simp
                      go_at_call 63
                      with_reducible refine (Sub_z _ _ _ _ _ _ hv3.out hpm _).mono ?_
                      rintro E8 w8 ⟨r1, r2, rfl, ⟨n8, rfl⟩, hrs, -, -⟩
                      refine hK _ n8 (wpDs_zero ?_)
                      clear hK K
                      replace hrs := hid hrs
                      clear hpm
                      go_wp2
                      go_meet
                      exact ⟨_, _, _, hrs.out, rfl⟩
                    case rest =>
                      obtain ⟨r1, r2, m, hrs, rfl⟩ := hcut
                      obtain ⟨ρ9, H9⟩ := (HT.drewN m).setE hqn t (r1, r2)
                      have hE9 := hEt.set (q := q) (t := t) (r1, r2) (M' := midM M1 k q (t + 1)) (fun i hi j hj => by
                        rw [mid_next hkq hkt]
                        unfold elE
                        rw [← hF.out, ← hrs]
                        rfl)
                      obtain ⟨l1, hl1⟩ : ∃ l1, l1 = (rst q)[t]? := ⟨_, rfl⟩
                      have hb9 := (below_drewN' hbt m).setCell (show B ≤ (⟨gb1 q, t, none⟩ : Addr).block from ((HT.own.at (HT.row q hqn)).lt (gb1 q) rfl).1) (.complex .f64 r1 r2)
                      have c9 := H9.ec hqn (j := t) (z := (r1, r2)) (by rw [if_pos rfl, List.getElem?_set_self (List.getElem?_eq_some_iff.1 hy1).1])
                      obtain ⟨w9, hw9⟩ : ∃ w9, w9 = (wr.drewN m).setCell ⟨gb1 q, t, none⟩ (.complex .f64 r1 r2) := ⟨_, rfl⟩
                      replace H9 : LoS B ρ9 w9 lb n gr cr go co sg1 gb1 cb1 od1 (fun i => if i = q then (rst i).set t (r1, r2) else rst i) := by rw [hw9]; exact H9
                      replace c9 : w9.cell? ⟨gb1 q, t, none⟩ = some (.complex .f64 r1 r2) := by rw [hw9]; exact c9
                      rw [← hw9] at hb9 ⊢
                      clear hw9 HT hbt d1 d3 d4 d5 d6 HM hv1 hv2 hy1 hy2 hEt hl1
                      have hrE : elE M1 k q t = csub (M1 q t) (cmul F (M1 k t)) := by
                        unfold elE
                        rw [← hF.out]
                      rw [← hrE] at hrs
                      have HFi : Hid (∀ w, Calls Try.prog 61 #[.complex .f64 r1 r2] w (RetB w (cfin (elE M1 k q t)))) := hid fun w => Finite_q r1 r2 _ hrs w
                      have hnx := hid (FineI.next (M := M1) (n := n) (i := q) hkt)
                      have ht1 : IntKind.i64.wrap ((t : Int) + 1) = (t : Int) + 1 := IntWalk.i64_in _ (by omega)
                      clear hrs hrE
                      cases fc
                      · have hf1 : Hid (false = true ↔ FineI M1 n k q (t + 1)) := hid (by
                          rw [hnx.out, ← hfc.out]
                          simp)
                        clear hfc hnx
                        go_wp2_with (first | (go_at_call 61; (with_reducible refine (HFi.out _).mono ?_); rintro E6 w6 ⟨rfl, ⟨n6, rfl⟩⟩))
                        go_roundw
                        case rel => exact ⟨t + 1, false, ρ9, _, rfl, by go_num, by omega, htn, hf1.out, H9, hE9, hb9⟩
                        case measure => simp [intOf]; omega
                      · have hf1 : Hid (cfin (elE M1 k q t) = true ↔ FineI M1 n k q (t + 1)) := hid (by
                          rw [hnx.out, ← hfc.out]
                          simp)
                        clear hfc hnx
                        go_wp2_with (first | (go_at_call 61; (with_reducible refine (HFi.out _).mono ?_); rintro E6 w6 ⟨rfl, ⟨n6, rfl⟩⟩))
                        go_roundw
                        case rel => exact ⟨t + 1, cfin (elE M1 k q t), ρ9, _, rfl, by go_num, by omega, htn, hf1.out, H9.drewN _, hE9, below_drewN' hb9 _⟩
                        case measure => simp [intOf]; omega
                  · obtain rfl : n = t := by omega
                    have g10 : ¬ (n : Int) < (n : Int) := by omega
                    obtain ⟨y1, hy1, hv1⟩ := hEt q hqn k hk
                    have d4 := HT.ec hqn hy1
                    have d6 := HT.ef hqn k
                    obtain ⟨ρ9, H9⟩ := HT.setE hqn k (f1, f2)
                    have hE9 := hEt.set (q := q) (t := k) (f1, f2) (M' := midM M1 k (q + 1) (k + 1)) (fun i hi j hj => by
                      rw [mid_end hkq i j hj, ← hF.out, ← hf]
                      rfl)
                    have hb9 := hbt.setCell (show B ≤ (⟨gb1 q, k, none⟩ : Addr).block from ((HT.own.at (HT.row q hqn)).lt (gb1 q) rfl).1) (.complex .f64 f1 f2)
                    have hf1 : Hid (fc = true ↔ FineO M1 n k (q + 1)) := hid (by rw [hfc.out]; exact FineI.end hkq)
                    have hq1 : IntKind.i64.wrap ((q : Int) + 1) = (q : Int) + 1 := IntWalk.i64_in _ (by omega)
                    clear hfc hv1 hy1 HT hbt hEt
                    go_wp2
                    go_roundw
                    case rel => exact ⟨q + 1, fc, ρ9, _, rfl, by go_num, by omega, hqn, hf1.out, H9, hE9, hb9⟩
                    case measure => simp [intOf]; omega
            · obtain rfl : n = q := by omega
              have g8 : ¬ (n : Int) < (n : Int) := by omega
              cases fb
              · have hG6 : G = (6, midM M1 k n (k + 1), od1, sg1) := by
                  rw [hGe.out, if_neg (fun h => absurd (hfb.out.2 h) (by decide))]
                clear hfb hGe
                go_wp2
                go_ret
                exact ⟨rfl, hbq, fun h => absurd (show (6 : Int) = 0 from h) (by decide)⟩
              · have hG6 : G = (0, midM M1 k n (k + 1), od1, sg1) := by
                  rw [hGe.out, if_pos (hfb.out.1 rfl)]
                clear hfb hGe
                go_wp2
                go_ret
                exact ⟨rfl, hbq, fun _ => ⟨_, _, _, _, _, HQ, hEq⟩⟩
      · have he2 : ¬ (r.2 : Int) = 0 := he
        have hGe : G = (r.2, M, od, sg) := by
          rw [hG.out]
          unfold stepF
          simp only [← hr]
          rw [if_pos he]
        clear hr hcol hsl
        go_wp2_with (first | (go_at_call 96; (with_reducible refine HCh.mono ?_); rintro E2 w2 ⟨rfl, ⟨n2, rfl⟩⟩))
        go_ret
        rw [hGe]
        exact ⟨rfl, below_drewN' hb n2, fun h => absurd h he⟩
end Go.Proofs.Ytgcakhmdmajplaa

