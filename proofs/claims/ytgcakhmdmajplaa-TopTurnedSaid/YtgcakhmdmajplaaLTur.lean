/- TopTurned is true. Conditions: kinds are bytes, Values have 64 bits. -/
import Derived.Test.YtgcakhmdmajplaaTuDM
import Derived.Test.YtgcakhmdmajplaaLMir
namespace Go.Proofs.Ytgcakhmdmajplaa
open Go.RowKit

def TurLoop (W : World) (L : List El) (vt vq i : Value) (w : World) : Prop := ∃ k : Nat, i = .int .i64 k ∧ k ≤ L.length ∧ TQ W L k vt vq w
set_option maxRecDepth 100000 in
set_option maxHeartbeats 8000000 in
theorem turned_walk (L : List El) (o : Nat) (hL : ∀ e ∈ L, e.kind < 256 ∧ IsW e.v) (a : Option Addr) (cap : Nat) (hcap : L.length ≤ cap) (W : World) (hK : KsAt W (.slice a L.length cap) L) :
    Calls Try.prog 4 #[.slice a L.length cap, .int .u64 o] W fun e w' => e = .returned (.bool true) ∧ Below W.heap.size W w' := by
  obtain ⟨E, hE⟩ : ∃ E, E = L.take 60 := ⟨_, rfl⟩
  have hE60 : E.length ≤ 60 := by rw [hE, List.length_take]; omega
  have hEL : ∀ e ∈ E, e.kind < 256 ∧ IsW e.v := fun e he => hL e (by rw [hE] at he; exact List.mem_of_mem_take he)
  have HFew := hid fun w' (hb : Below W.heap.size W w') => few_any L a cap w' hcap (hK.below hb)
  rw [← hE] at HFew
  clear hE
  have HAl := hid fun w => alive_any w
  have HRd := hid fun w => read_any o w
  have HSv := hid fun v w (h : ElsN w v E) => solved_any E hEL (by omega) v o w h
  clear hK hL
  go_enter Try.func4, Try.ntmps4
  go_upto_region 3 with (go_at_call 7; (with_reducible refine (HAl.out _).mono ?_); rintro E1 w1 ⟨rfl, hb1⟩)
  obtain ⟨R, hR⟩ : ∃ R, R = svdF E (val o) := ⟨_, rfl⟩
  rw [← hR] at HSv
  cases R with
  | none =>
    clear hR
    go_wp2_with (first
      | (go_at_call 5; (with_reducible refine (HFew.out _ hb1).mono ?_); rintro E2 w2 ⟨v2, rfl, own2, hb2⟩; have n2 := ElsN.of_owns own2; have b2 := bl2 hb1 hb2)
      | (go_at_call 9; (with_reducible refine (HRd.out _).mono ?_); rintro E3 w3 ⟨rfl, rfl⟩)
      | (go_at_call 14; (with_reducible refine (HSv.out _ _ n2).mono ?_); rintro E4 w4 ⟨p4, rfl, hb4⟩; have b4 := bla (.cells #[.float .f64 0, .slice none 0 0, .slice none 0 0] 47) (bl2 b2 hb4); have S4 : SolB (w4.alloc (.cells #[.float .f64 0, .slice none 0 0, .slice none 0 0] 47)) w4.heap.size 0 (.slice none 0 0) (.slice none 0 0) := blk_new _ _; have c1 := S4.c1; have c2 := S4.c2))
    go_ret
    exact ⟨rfl, b4⟩
  | some r =>
    obtain ⟨s, g⟩ := r
    obtain ⟨hfin, ⟨gt, hgt, hopt⟩, ⟨gq, hgq, hopq⟩⟩ := svd_laws hR.symm
    obtain ⟨hnet, hsl, -⟩ := svdF_ok hR.symm
    obtain ⟨-, hn32, hn64, -⟩ := netF_good hnet
    clear hR hnet
    go_upto_region 4 with (first
      | (go_at_call 5; (with_reducible refine (HFew.out _ hb1).mono ?_); rintro E2 w2 ⟨v2, rfl, own2, hb2⟩; have n2 := ElsN.of_owns own2; have b2 := bl2 hb1 hb2)
      | (go_at_call 9; (with_reducible refine (HRd.out _).mono ?_); rintro E3 w3 ⟨rfl, rfl⟩)
      | (go_at_call 14; (with_reducible refine (HSv.out _ _ n2).mono ?_); rintro E4 w4 ⟨N, V, B, aa, ac, ba, bc, l, rfl, K4, hl, sa, sb, hb4⟩))
    have hb5 := bl_a w4 (.cells #[.float .f64 o, .slice aa s.nodes.length ac, .slice ba s.br.length bc] 47)
    have S5 : SolB (w4.alloc (.cells #[.float .f64 o, .slice aa s.nodes.length ac, .slice ba s.br.length bc] 47)) w4.heap.size o (.slice aa s.nodes.length ac) (.slice ba s.br.length bc) := blk_new _ _
    obtain ⟨w5, hw5⟩ : ∃ w5, w5 = w4.alloc (.cells #[.float .f64 o, .slice aa s.nodes.length ac, .slice ba s.br.length bc] 47) := ⟨_, rfl⟩
    rw [← hw5] at hb5 S5 ⊢
    clear hw5
    have b5 := bl2 (bl2 b2 hb4) hb5
    have K5 := K4.below hb5
    replace sa := sa.below hb5
    replace sb := sb.below hb5
    clear K4 own2 n2 hb1 hb2 hb4 hb5 b2 HFew HAl HSv
    have hll : l.length = s.nodes.length + s.br.length := by
      have := congrArg List.length hl
      rw [List.length_map, List.length_map, List.length_range] at this
      exact this
    have hlt : (l.take s.nodes.length).length = s.nodes.length := by rw [List.length_take]; omega
    have hld : (l.drop s.nodes.length).length = s.br.length := by rw [List.length_drop]; omega
    obtain ⟨xs, hxs⟩ : ∃ xs, xs = l.take s.nodes.length := ⟨_, rfl⟩
    obtain ⟨ys, hys⟩ : ∃ ys, ys = l.drop s.nodes.length := ⟨_, rfl⟩
    rw [← hxs] at sa hlt
    rw [← hys] at sb hld
    have hcx : (xs.map zv).all cfin = true ∧ (ys.map zv).all cfin = true := by
      have key : ∀ z ∈ l, cfin (zv z) = true := fun z hz => by
        have h1 : zv z ∈ (List.range (s.nodes.length + s.br.length)).map g := by rw [← hl]; exact List.mem_map.2 ⟨z, hz, rfl⟩
        obtain ⟨j, hj, e⟩ := List.mem_map.1 h1
        rw [← e]
        exact hfin j (List.mem_range.1 hj)
      constructor
      · rw [List.all_eq_true]
        intro z hz
        obtain ⟨y, hy, rfl⟩ := List.mem_map.1 hz
        rw [hxs] at hy
        exact key y (List.mem_of_mem_take hy)
      · rw [List.all_eq_true]
        intro z hz
        obtain ⟨y, hy, rfl⟩ := List.mem_map.1 hz
        rw [hys] at hy
        exact key y (List.mem_of_mem_drop hy)
    have HFi := hid fun w' (h1 : Sl w' (.slice aa s.nodes.length ac) (xs.map C)) (h2 : Sl w' (.slice ba s.br.length bc) (ys.map C)) => finite_any xs ys o aa ba s.nodes.length s.br.length ac bc w' h1 h2 (by omega) (by omega)
    rw [hcx.1, hcx.2] at HFi
    have KD := K5.below (Below.refl _ w5).drew
    have HNo := hid fun w' (hb : Below w5.drew.heap.size w5.drew w') => nNodes_any (KD.below hb) (by omega)
    have HBr := hid fun w' (hb : Below w5.drew.heap.size w5.drew w') => nBranches_any (KD.below hb) (by omega)
    have HEl := hid fun w' (hb : Below w5.drew.heap.size w5.drew w') => nElements_any (KD.below hb) (by rw [hsl]; omega)
    have hSl := hid (And.intro (sl_d sa) (sl_d sb))
    have hFa := hid (And.intro hl (And.intro hfin (And.intro hgt (And.intro hopt (And.intro hgq hopq)))))
    have hLe := hid (And.intro hlt (And.intro hld (And.intro hxs (And.intro hys hll))))
    clear sa sb hl hfin hgt hopt hgq hopq hlt hld hxs hys hll hcx
    go_upto_region 6 with (fail)
    have s0 := S5.c0
    have s1 := S5.c1
    have s2 := S5.c2
    have hs4 := S5.lt
    go_region_held3 (fun w' => w'.cell? ⟨w4.heap.size, 0, none⟩ = some (.float .f64 o) ∧ w'.cell? ⟨w4.heap.size, 1, none⟩ = some (.slice aa s.nodes.length ac) ∧ w'.cell? ⟨w4.heap.size, 2, none⟩ = some (.slice ba s.br.length bc)) (first | exact ⟨s0, s1, s2⟩ | exact ⟨t0, t1, t2⟩ | exact ⟨u0, u1, u2⟩ | exact ⟨z0, z1, z2⟩ | fail) (first
      | (go_at_call 15; (with_reducible refine (HFi.out _ hSl.out.1 hSl.out.2).mono ?_); rintro E6 w6 ⟨rfl, hb6⟩; have t0 := (hb6.cell (p := ⟨w4.heap.size, 0, none⟩) hs4).trans s0; have t1 := (hb6.cell (p := ⟨w4.heap.size, 1, none⟩) hs4).trans s1; have t2 := (hb6.cell (p := ⟨w4.heap.size, 2, none⟩) hs4).trans s2)
      | (go_at_call 10; (with_reducible refine (HNo.out _ hb6).mono ?_); rintro E7 w7 ⟨v7, rfl, own7, hb7⟩; obtain ⟨a7, c7, rfl, -⟩ := own_cap own7; have hb67 := bl2 hb6 hb7; have u0 := (hb67.cell (p := ⟨w4.heap.size, 0, none⟩) hs4).trans s0; have u1 := (hb67.cell (p := ⟨w4.heap.size, 1, none⟩) hs4).trans s1; have u2 := (hb67.cell (p := ⟨w4.heap.size, 2, none⟩) hs4).trans s2)
      | (go_at_call 11; (with_reducible refine (HBr.out _ hb67).mono ?_); rintro E8 w8 ⟨v8, rfl, own8, hb8⟩; obtain ⟨a8, c8, rfl, -⟩ := own_cap own8; have hb68 := bl2 hb67 hb8; have z0 := (hb68.cell (p := ⟨w4.heap.size, 0, none⟩) hs4).trans s0; have z1 := (hb68.cell (p := ⟨w4.heap.size, 1, none⟩) hs4).trans s1; have z2 := (hb68.cell (p := ⟨w4.heap.size, 2, none⟩) hs4).trans s2)
      | fail)
    have b8 := bl2 b5.drew hb68
    have K8 := KD.below hb68
    have S8 := SolB.below (show SolB w5.drew w4.heap.size o _ _ from S5) hb68
    have sl8 := hid (And.intro (hSl.out.1.below hb68) (hSl.out.2.below hb68))
    have HE1 := hid (nElements_any K8 (by rw [hsl]; omega))
    have HE2 := hid fun w' (hb : Below w8.heap.size w8 w') => nElements_any (K8.below hb) (by rw [hsl]; omega)
    rw [hsl] at HE1 HE2
    clear KD K5 S5 HNo HBr HEl hSl HFi b5 s0 s1 s2 hs4 hb6 t0 t1 t2 hb7 own7 hb67 u0 u1 u2 hb8 own8 hb68 z0 z1 z2
    go_upto_region 9 with (go_at_call 16; first
      | ((with_reducible refine HE1.out.mono ?_); rintro E9 w9 ⟨v9, rfl, own9, hb9⟩)
      | ((with_reducible refine (HE2.out _ hb9).mono ?_); rintro E10 w10 ⟨v10, rfl, own10, hb10⟩))
    have T10 := TQ.start own9 own10 hb9 hb10
    obtain ⟨ta, tc, rfl, -⟩ := own_cap own9
    obtain ⟨qa, qc, rfl, -⟩ := own_cap own10
    clear HE1 HE2 own9 own10 hb9 hb10 K8
    go_wp2
    go_loopw [10] (fun i w' => TurLoop w8 E (.slice ta E.length tc) (.slice qa E.length qc) i w') (fun i _ => E.length + 1 - (intOf i).toNat)
    case atStart => exact ⟨0, rfl, by omega, T10⟩
    case round =>
      clear T10
      obtain ⟨k, rfl, hk, T⟩ := hrel
      by_cases hkl : k < E.length
      · obtain ⟨e, he⟩ : ∃ z, E[k]? = some z := ⟨E[k]'hkl, List.getElem?_eq_getElem hkl⟩
        obtain ⟨g1, p1, g2, p2, e1, e2, hne, hg1, hg2, c0, c7, c6, f7, f6⟩ := T.form he
        cases e1
        cases e2
        have g3 : (k : Int) < (E.length : Int) := by omega
        cases hs : srcK e.kind with
        | true =>
          have T2 := hid (T.step he hs hne hg1 hg2)
          have h1 : -24 < e.ph.tmod 24 := Int.lt_tmod_of_pos _ (by decide)
          have h2 : e.ph.tmod 24 < 24 := Int.tmod_lt_of_pos _ (by decide)
          have hw1 : IntKind.i64.wrap (e.ph.tmod 24) = e.ph.tmod 24 := IntWalk.i64_in _ (by omega)
          have hw2 : IntKind.i64.wrap (e.ph.tmod 24 + 12) = e.ph.tmod 24 + 12 := IntWalk.i64_in _ (by omega)
          have hne2 := hne.symm
          rcases src_kind hs with h4 | h5
          · have g4 : (e.kind : Int) = 4 := by omega
            clear T hs he
            go_wp2
            go_roundw
            case rel => exact ⟨k + 1, by go_num, hkl, T2.out⟩
            case measure => simp [intOf] <;> omega
          · have g4 : ¬ (e.kind : Int) = 4 := by omega
            have g5 : (e.kind : Int) = 5 := by omega
            clear T hs he
            go_wp2
            go_roundw
            case rel => exact ⟨k + 1, by go_num, hkl, T2.out⟩
            case measure => simp [intOf] <;> omega
        | false =>
          have T2 := hid (T.same he hs)
          have g4 : ((e.kind : Int) == 4) = false := by
            unfold srcK at hs
            simp at hs ⊢
            omega
          have g5 : ((e.kind : Int) == 5) = false := by
            unfold srcK at hs
            simp at hs ⊢
            omega
          clear T hs he
          go_wp2
          go_roundw
          case rel => exact ⟨k + 1, by go_num, hkl, T2.out⟩
          case measure => simp [intOf] <;> omega
      · obtain rfl : k = E.length := by omega
        have Tt := T.t
        have Tq := T.q
        have hbr := T.b
        rw [mix_end] at Tt Tq
        have nt := ElsN.of_owns (by rw [List.length_map]; exact Tt : wr.ownsRow w8.heap.size 54 8 (.slice ta E.length tc) (E.map tE).length (cellsL (E.map tE)))
        have nq := ElsN.of_owns (by rw [List.length_map]; exact Tq : wr.ownsRow w8.heap.size 54 8 (.slice qa E.length qc) (E.map qE).length (cellsL (E.map qE)))
        clear T Tt Tq
        have HSt := hid fun v w (h : ElsN w v (E.map tE)) => solved_any (E.map tE) (fun e he => by
          obtain ⟨x, hx, rfl⟩ := List.mem_map.1 he
          obtain ⟨h1, h2⟩ := hEL x hx
          rw [src_t.k]
          refine ⟨h1, ?_⟩
          unfold tE
          split
          · exact h2
          · exact h2) (by rw [List.length_map]; omega) v o w h
        have HSq := hid fun v w (h : ElsN w v (E.map qE)) => solved_any (E.map qE) (fun e he => by
          obtain ⟨x, hx, rfl⟩ := List.mem_map.1 he
          obtain ⟨h1, h2⟩ := hEL x hx
          rw [src_q.k]
          refine ⟨h1, ?_⟩
          unfold qE
          split
          · exact isW_0
          · exact h2) (by rw [List.length_map]; omega) v o w h
        rw [hFa.out.2.2.1] at HSt
        rw [hFa.out.2.2.2.2.1] at HSq
        go_upto_region 16 with (first
          | (go_at_call 9; (with_reducible refine (HRd.out _).mono ?_); rintro E11 w11 ⟨rfl, rfl⟩)
          | (go_at_call 14; (with_reducible refine (HSt.out _ _ nt).mono ?_); rintro E12 w12 ⟨N1, V1, B1, aa1, ac1, ba1, bc1, l1, rfl, -, hl1, sa1, sb1, hb12⟩))
        have hb13 := bl_a w12 (.cells #[.float .f64 o, .slice aa1 s.nodes.length ac1, .slice ba1 s.br.length bc1] 47)
        have S13 : SolB (w12.alloc (.cells #[.float .f64 o, .slice aa1 s.nodes.length ac1, .slice ba1 s.br.length bc1] 47)) w12.heap.size o (.slice aa1 s.nodes.length ac1) (.slice ba1 s.br.length bc1) := blk_new _ _
        obtain ⟨w13, hw13⟩ : ∃ w13, w13 = w12.alloc (.cells #[.float .f64 o, .slice aa1 s.nodes.length ac1, .slice ba1 s.br.length bc1] 47) := ⟨_, rfl⟩
        rw [← hw13] at hb13 S13 ⊢
        clear hw13
        have hbb := bl2 hb12 hb13
        have nq13 := nq.below hbb
        have b813 := bl2 hbr hbb
        replace sa1 := sa1.below hb13
        replace sb1 := sb1.below hb13
        clear nt nq HSt hb12 hb13 hbb
        go_upto_region 17 with (first
          | (go_at_call 9; (with_reducible refine (HRd.out _).mono ?_); rintro E14 w14 ⟨rfl, rfl⟩)
          | (go_at_call 14; (with_reducible refine (HSq.out _ _ nq13).mono ?_); rintro E15 w15 ⟨N2, V2, B2, aa2, ac2, ba2, bc2, l2, rfl, -, hl2, sa2, sb2, hb15⟩))
        have hb16 := bl_a w15 (.cells #[.float .f64 o, .slice aa2 s.nodes.length ac2, .slice ba2 s.br.length bc2] 47)
        have S16 : SolB (w15.alloc (.cells #[.float .f64 o, .slice aa2 s.nodes.length ac2, .slice ba2 s.br.length bc2] 47)) w15.heap.size o (.slice aa2 s.nodes.length ac2) (.slice ba2 s.br.length bc2) := blk_new _ _
        obtain ⟨w16, hw16⟩ : ∃ w16, w16 = w15.alloc (.cells #[.float .f64 o, .slice aa2 s.nodes.length ac2, .slice ba2 s.br.length bc2] 47) := ⟨_, rfl⟩
        rw [← hw16] at hb16 S16 ⊢
        clear hw16
        have hbb := bl2 hb15 hb16
        have T16 := SolB.below S13 hbb
        have b816 := bl2 b813 hbb
        have U16 := SolB.below S8 b816
        have b16 := bl2 b8 b816
        have x0 := sl_d (sl8.out.1.below b816)
        have y0 := sl_d (sl8.out.2.below b816)
        have x1 := sl_d (sa1.below hbb)
        have y1 := sl_d (sb1.below hbb)
        have x2 := hid (And.intro (sa2.below hb16) (sb2.below hb16))
        obtain ⟨hl, hfin, -, hopt, -, hopq⟩ := hFa.out
        obtain ⟨hlt, hld, hxs, hys, hll⟩ := hLe.out
        have e1 := opp_lists hl hl1 hfin hopt s.nodes.length
        rw [← hxs, ← hys] at e1
        have hl2l : l2.length = s.nodes.length + s.br.length := by
          have := congrArg List.length hl2
          rw [List.length_map, List.length_map, List.length_range] at this
          exact this
        have e2 := hid (zero_lists hl2 hopq s.nodes.length s.br.length (by rw [List.length_take]; omega) (by rw [List.length_drop]; omega))
        replace hl2l := hid hl2l
        have hl1l : l1.length = s.nodes.length + s.br.length := by
          have := congrArg List.length hl1
          rw [List.length_map, List.length_map, List.length_range] at this
          exact this
        have HOa := hid fun w' (hb : Below w16.drew.heap.size w16.drew w') => opposites_any xs (.slice aa s.nodes.length ac) w' (x0.below hb) (by omega)
        have HOb := hid fun w' (hb : Below w16.drew.heap.size w16.drew w') => opposites_any ys (.slice ba s.br.length bc) w' (y0.below hb) (by omega)
        have HEa : Hid (∀ v w', Below w16.drew.heap.size w16.drew w' → Sl w' v ((xs.map ngZ).map C) → Calls Try.prog 17 #[.slice aa1 s.nodes.length ac1, v] w' (RetB w' true)) := hid fun v w' hb h => by
          have := EqualNumbers_any (l1.take s.nodes.length) (xs.map ngZ) (.slice aa1 s.nodes.length ac1) v w' (x1.below hb) h (by rw [List.length_take]; omega)
          rw [e1.1] at this
          exact this
        have HEb : Hid (∀ v w', Below w16.drew.heap.size w16.drew w' → Sl w' v ((ys.map ngZ).map C) → Calls Try.prog 17 #[.slice ba1 s.br.length bc1, v] w' (RetB w' true)) := hid fun v w' hb h => by
          have := EqualNumbers_any (l1.drop s.nodes.length) (ys.map ngZ) (.slice ba1 s.br.length bc1) v w' (y1.below hb) h (by rw [List.length_drop]; omega)
          rw [e1.2] at this
          exact this
        have r1 := U16.c1
        have r2 := U16.c2
        have q1 := T16.c1
        have q2 := T16.c2
        have hlU := U16.lt
        have hlT := T16.lt
        have hh := hid (And.intro U16 (And.intro S16 hll))
        clear hl hfin hopt hopq hlt hld hxs hys hl1 hl2 e1 hl1l x0 y0 x1 y1 sa1 sb1 sa2 sb2 hFa hLe sl8 S13 S8 hb15 hb16 hbb T16 U16 S16 nq13 HSq HRd b813 b816 hbr b8 hll hsl
        go_region_held3 (fun w' => w'.cell? ⟨w4.heap.size, 1, none⟩ = some (.slice aa s.nodes.length ac) ∧ w'.cell? ⟨w4.heap.size, 2, none⟩ = some (.slice ba s.br.length bc) ∧ w'.cell? ⟨w12.heap.size, 1, none⟩ = some (.slice aa1 s.nodes.length ac1) ∧ w'.cell? ⟨w12.heap.size, 2, none⟩ = some (.slice ba1 s.br.length bc1)) (first | exact ⟨r1, r2, q1, q2⟩ | exact ⟨r3, r4, q3, q4⟩ | exact ⟨r5, r6, q5, q6⟩ | fail) (first
          | (go_at_call 18; first
            | ((with_reducible refine (HOa.out _ (Below.refl _ _)).mono ?_); rintro E17 w17 ⟨v17, rfl, own17, c17⟩; have r3 := (c17.cell (p := ⟨w4.heap.size, 1, none⟩) hlU).trans r1; have r4 := (c17.cell (p := ⟨w4.heap.size, 2, none⟩) hlU).trans r2; have q3 := (c17.cell (p := ⟨w12.heap.size, 1, none⟩) hlT).trans q1; have q4 := (c17.cell (p := ⟨w12.heap.size, 2, none⟩) hlT).trans q2)
            | ((with_reducible refine (HOb.out _ c18).mono ?_); rintro E19 w19 ⟨v19, rfl, own19, hb19⟩; have c19 := bl2 c18 hb19; have r5 := (c19.cell (p := ⟨w4.heap.size, 1, none⟩) hlU).trans r1; have r6 := (c19.cell (p := ⟨w4.heap.size, 2, none⟩) hlU).trans r2; have q5 := (c19.cell (p := ⟨w12.heap.size, 1, none⟩) hlT).trans q1; have q6 := (c19.cell (p := ⟨w12.heap.size, 2, none⟩) hlT).trans q2)
            | fail)
          | (go_at_call 17; first
            | ((with_reducible refine (HEa.out _ _ c17 (Sl.of_owns own17)).mono ?_); rintro E18 w18 ⟨rfl, n18, rfl⟩; have c18 := below_drewN' c17 n18)
            | ((with_reducible refine (HEb.out _ _ c19 (Sl.of_owns own19)).mono ?_); rintro E20 w20 ⟨rfl, n20, rfl⟩; have c20 := below_drewN' c19 n20)
            | fail)
          | fail)
        clear HOa HOb HEa HEb own17 own19 hb19 c18
        obtain ⟨w21, hw21⟩ : ∃ w21, w21 = w19.drewN n20 := ⟨_, rfl⟩
        have c21 : Below w16.heap.size w16 w21 := by rw [hw21]; exact (Below.refl _ w16).drew.trans c20
        have b21 := bl2 b16 c21
        have U21 := hh.out.1.below c21
        have S21 := hh.out.2.1.below c21
        have hh2 := hid (And.intro U21 S21)
        obtain ⟨oA, hmA, hsA⟩ := make_z s.nodes.length _ rfl (by omega)
        obtain ⟨oB, hmB, hsB⟩ := make_z s.br.length _ rfl (by omega)
        replace hsA := hid hsA
        replace hsB := hid hsB
        have HQa : Hid (∀ v w', Below w21.heap.size w21 w' → Sl w' v ((z0L s.nodes.length).map C) → Calls Try.prog 17 #[.slice aa2 s.nodes.length ac2, v] w' (RetB w' true)) := hid fun v w' hb h => by
          have := EqualNumbers_any (l2.take s.nodes.length) (z0L s.nodes.length) (.slice aa2 s.nodes.length ac2) v w' (x2.out.1.below (bl2 c21 hb)) h (by rw [List.length_take]; omega)
          rw [e2.out.1] at this
          exact this
        have HQb : Hid (∀ v w', Below w21.heap.size w21 w' → Sl w' v ((z0L s.br.length).map C) → Calls Try.prog 17 #[.slice ba2 s.br.length bc2, v] w' (RetB w' true)) := hid fun v w' hb h => by
          have := EqualNumbers_any (l2.drop s.nodes.length) (z0L s.br.length) (.slice ba2 s.br.length bc2) v w' (x2.out.2.below (bl2 c21 hb)) h (by rw [List.length_drop]; have := hl2l.out; omega)
          rw [e2.out.2] at this
          exact this
        rw [← hw21]
        clear c17 c19 c20 r1 r2 q1 q2 r3 r4 q3 q4 r5 r6 q5 q6 x2 e2 hh U21 S21 hw21 hlU hlT b16 c21
        have hk4 : ∀ w', Below w21.heap.size w21 w' → w'.cell? ⟨w4.heap.size, 1, none⟩ = some (.slice aa s.nodes.length ac) ∧ w'.cell? ⟨w4.heap.size, 2, none⟩ = some (.slice ba s.br.length bc) ∧ w'.cell? ⟨w15.heap.size, 1, none⟩ = some (.slice aa2 s.nodes.length ac2) ∧ w'.cell? ⟨w15.heap.size, 2, none⟩ = some (.slice ba2 s.br.length bc2) := fun w' hb => by
          have u := hh2.out.1.below hb
          have v := hh2.out.2.below hb
          exact ⟨u.c1, u.c2, v.c1, v.c2⟩
        replace hk4 := hid hk4
        have X1 := (bl_a w21 oA).drew
        have hz21 : (w21.alloc oA).heap.size = w21.heap.size + 1 := by simp
        have X2 := sl_d (hsA.out w21)
        clear hh2
        go_upto_region 19 with (fail)
        go_region_held3 (fun w' => w'.cell? ⟨w4.heap.size, 1, none⟩ = some (.slice aa s.nodes.length ac) ∧ w'.cell? ⟨w4.heap.size, 2, none⟩ = some (.slice ba s.br.length bc) ∧ w'.cell? ⟨w15.heap.size, 1, none⟩ = some (.slice aa2 s.nodes.length ac2) ∧ w'.cell? ⟨w15.heap.size, 2, none⟩ = some (.slice ba2 s.br.length bc2)) (first | exact hk4.out _ (Below.refl _ _).drew | exact hk4.out _ X1 | exact hk4.out _ X3 | exact hk4.out _ X4 | exact hk4.out _ X5 | exact hk4.out _ X6 | fail) (first
          | (go_at_call 17; first
            | ((with_reducible refine (HQa.out _ _ ?_ ?_).mono ?_); (· exact X1); (· exact X2); rintro E22 w22 ⟨rfl, n22, rfl⟩; have X3 := below_drewN' (bl_a w21 oA) (1 + n22); have X4 := bla oB X3; have X5 := below_drewN' (bla oB (bl_a w21 oA)) (1 + n22); have X7 := hsB.out ((w21.alloc oA).drewN (1 + n22)); rw [show ((w21.alloc oA).drewN (1 + n22)).heap.size = w21.heap.size + 1 from hz21] at X7)
            | ((with_reducible refine (HQb.out _ _ ?_ ?_).mono ?_); (· exact X4); (· exact X7); rintro E23 w23 ⟨rfl, n23, rfl⟩; have X6 := below_drewN' X4 n23)
            | fail)
          | fail)
        go_wp2
        go_ret
        exact ⟨rfl, bl2 b21 X6⟩
theorem turned_call (L : List El) (o : Nat) (hL : ∀ e ∈ L, e.kind < 256 ∧ IsW e.v) (a : Option Addr) (n cap : Nat) (hcap : n ≤ cap) (W : World) (hK : KsAt W (.slice a n cap) L) :
    Calls Try.prog 4 #[.slice a n cap, .int .u64 o] W fun e w' => e = .returned (.bool true) ∧ Below W.heap.size W w' := by
  have h := hK
  obtain ⟨_, _, e, -⟩ := h
  cases e
  exact turned_walk L o hL a cap hcap W hK
end Go.Proofs.Ytgcakhmdmajplaa

