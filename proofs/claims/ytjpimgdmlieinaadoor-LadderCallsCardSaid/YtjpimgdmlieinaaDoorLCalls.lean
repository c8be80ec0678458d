/- LadderCalls is true. Conditions: kinds are bytes, Values have 64 bits. -/
import Derived.Test.YtjpimgdmlieinaaDoorKitE3
import Derived.Test.YtjpimgdmlieinaaDoorR29I
import Derived.Test.YtjpimgdmlieinaaDoorLv29
namespace Go.Proofs.YtjpimgdmlieinaaDoor
open Go.RowKit

theorem els_lead {w : World} {a : Option Addr} {n cap : Nat} {L : List El} (h : ElsAt w (.slice a n cap) (lentE L)) (cap' : Nat) : ElsAt w (.slice a L.length cap') L := by
  obtain ⟨a', c', e, hr⟩ := h
  cases e
  refine ⟨a, cap', rfl, fun k e he => hr k e ?_⟩
  unfold lentE
  have hk := (List.getElem?_eq_some_iff.1 he).1
  rw [List.getElem?_append_left hk]
  exact he
structure Kc (W : World) (s t p q : Value) (S T : List El) (w : World) : Prop where
  b : Below W.heap.size W w
  s : ElsN w s S
  t : ElsN w t T
  p : ElsAt w p (lentE S)
  q : ElsAt w q (lentE T)
theorem Kc.below {W : World} {s t p q : Value} {S T : List El} {w w' : World} (h : Kc W s t p q S T w) (hb : Below w.heap.size w w') : Kc W s t p q S T w' :=
  ⟨bl2 h.b hb, h.s.below hb, h.t.below hb, h.p.below hb, h.q.below hb⟩
theorem owns_cap {w : World} {B e size : Nat} {v : Value} {n : Nat} {xs : List Value} (h : w.ownsRow B e size v n xs) : ∃ a c, v = .slice a n c ∧ n ≤ c := by
  rcases h.2 with ⟨rfl, rfl⟩ | ⟨g, cap, cur, rfl, _, _, h, _⟩
  · exact ⟨_, _, rfl, Nat.le_refl _⟩
  · exact ⟨_, _, rfl, h⟩
theorem csame_z2 {x y u v : Nat} {z : CV} (h1 : cv x y = z) (h2 : cv u v = z) : csame (cv x y) (cv u v) = true := by rw [h1, h2]; simp [csame, same]
/-- The net's pointer. -/
def NetV (w : World) (B : Nat) (n : Value) (L : List El) (o : Option NetS) : Prop := match o with
  | none => n = .pointer none
  | some _ => ∃ N V nodes br ks ps bs, n = .pointer (some ⟨NB.n N, 0, none⟩) ∧ NetR w B N V L nodes br ks ps bs
def RfV (w : World) (n : Value) (L : List El) (o : Option NetS) : Prop := match o with
  | none => n = .pointer none
  | some _ => ∃ k, n = .pointer (some ⟨k, 0, none⟩) ∧ RfN w k L
theorem NetV.below {w w' : World} {B : Nat} {n : Value} {L : List El} {o : Option NetS} (h : NetV w B n L o) (hb : Below w.heap.size w w') : NetV w' B n L o := by
  cases o with
  | none => exact h
  | some s =>
    obtain ⟨N, V, nodes, br, ks, ps, bs, h1, h2⟩ := h
    exact ⟨N, V, nodes, br, ks, ps, bs, h1, h2.below hb⟩
theorem NetV.set2 {w : World} {B b : Nat} {n : Value} {L : List El} {o : Option NetS} (h : NetV w B n L o) (hb : b < B) (x y : Value) : NetV ((w.setCell ⟨b, 0, none⟩ x).setCell ⟨b, 1, none⟩ y) B n L o := by
  cases o with
  | none => exact h
  | some s =>
    obtain ⟨N, V, nodes, br, ks, ps, bs, h1, h2⟩ := h
    exact ⟨N, V, nodes, br, ks, ps, bs, h1, (h2.setBelow (a := ⟨b, 0, none⟩) hb x).setBelow (a := ⟨b, 1, none⟩) hb y⟩
theorem RfV.below {w w' : World} {n : Value} {L : List El} {o : Option NetS} (h : RfV w n L o) (hb : Below w.heap.size w w') : RfV w' n L o := by
  cases o with
  | none => exact h
  | some s =>
    obtain ⟨k, h1, h2⟩ := h
    exact ⟨k, h1, h2.below hb⟩
def RetN2 (w : World) (r : (Int × Int) × Option NetS) (L : List El) (E : Ending) (w' : World) : Prop := ∃ n, E = .returned (.tuple #[n, .agg #[.int .i64 r.1.1, .int .i64 r.1.2]]) ∧ NetV w' (w.heap.size + 1) n L r.2 ∧ Below w.heap.size w w'
def RetM2 (w : World) (r : (Int × Int) × Option NetS) (L : List El) (E : Ending) (w' : World) : Prop := ∃ n, E = .returned (.tuple #[n, .agg #[.int .i64 r.1.1, .int .i64 r.1.2]]) ∧ RfV w' n L r.2 ∧ Below w.heap.size w w'
theorem lNet2 (S T : List El) (hs : ∀ e ∈ S, e.kind < 256) (ht : ∀ e ∈ T, e.kind < 256) (vs vt : Value) (w : World) (hS : ElsAt w vs S) (hT : ElsAt w vt T) : Calls Tryd.prog 16 #[vs, vt] w (RetN2 w (ladNetF S T) (ladN S T S.length)) := by
  refine (LNet_any S T hs ht vs vt w hS hT).mono fun E w' h => ?_
  obtain ⟨r, hr⟩ : ∃ r, r = ladNetF S T := ⟨_, rfl⟩
  rw [← hr] at h ⊢
  obtain ⟨f, o⟩ := r
  cases o with
  | none => exact ⟨_, h.1, rfl, h.2⟩
  | some s =>
    obtain ⟨N, V, h1, h2, h3⟩ := h
    rw [← (ladNetF_some hr.symm).2.1]
    exact ⟨_, h1, ⟨N, V, _, _, _, _, _, rfl, h2⟩, h3⟩
theorem rNet2 (S T : List El) (hs : ∀ e ∈ S, e.kind < 256 ∧ IsW e.v) (ht : ∀ e ∈ T, e.kind < 256 ∧ IsW e.v) (vs vt : Value) (w : World) (hS : ElsAt w vs S) (hT : ElsAt w vt T) : Calls Tryd.prog 17 #[vs, vt] w (RetM2 w (ladNetF S T) (ladN S T S.length)) := by
  refine (rLNet_any S T hs ht vs vt w hS hT).mono fun E w' h => ?_
  obtain ⟨r, hr⟩ : ∃ r, r = ladNetF S T := ⟨_, rfl⟩
  rw [← hr] at h ⊢
  obtain ⟨f, o⟩ := r
  cases o with
  | none => exact ⟨_, h.1, rfl, h.2⟩
  | some s =>
    obtain ⟨k, h1, h2, h3⟩ := h
    exact ⟨_, h1, ⟨k, rfl, h2⟩, h3⟩

set_option maxRecDepth 100000 in
set_option maxHeartbeats 8000000 in
theorem calls_walk (S T : List El) (o : Nat) (hs : ∀ e ∈ S, e.kind < 256 ∧ IsW e.v) (ht : ∀ e ∈ T, e.kind < 256 ∧ IsW e.v) (vs vt : Value) (W : World) (hS : KsAt W vs S) (hT : KsAt W vt T) :
    Calls Tryd.prog 4 #[vs, vt, .int .u64 o] W fun e w' => e = .returned (.bool true) ∧ Below W.heap.size W w' := by
  have hS0 := hS
  have hT0 := hT
  obtain ⟨sa, sc, rfl, -⟩ := hS0
  obtain ⟨ta, tc, rfl, -⟩ := hT0
  go_enter Tryd.func4, Tryd.ntmps4
  by_cases hlong : 40 < S.length ∨ 40 < T.length
  · rcases (by omega : 40 < S.length ∨ (¬ 40 < S.length ∧ 40 < T.length)) with g1 | ⟨g1, g2⟩
    · have g3 : (40 : Int) < (S.length : Int) := by omega
      clear hlong
      go_wp2_with (go_at_call 10; (with_reducible refine (lives_any _).mono ?_); rintro e w1 ⟨rfl, hb1⟩)
      go_ret
      exact ⟨rfl, hb1⟩
    · have g3 : ¬ (40 : Int) < (S.length : Int) := by omega
      have g4 : (40 : Int) < (T.length : Int) := by omega
      clear hlong
      go_wp2_with (go_at_call 10; (with_reducible refine (lives_any _).mono ?_); rintro e w1 ⟨rfl, hb1⟩)
      go_ret
      exact ⟨rfl, hb1⟩
  · have g3 : ¬ (40 : Int) < (S.length : Int) := by omega
    have g4 : ¬ (40 : Int) < (T.length : Int) := by omega
    have hlS : S.length ≤ 40 := by omega
    have hlT : T.length ≤ 40 := by omega
    clear hlong
    go_upto_region 5 with (go_at_call 10; (with_reducible refine (lives_any _).mono ?_); rintro e w1 ⟨rfl, hb1⟩)
    have HES := hid (ElementsOf_any S _ w1 (by omega) (hS.below hb1))
    have HET := hid fun w (h : Below W.heap.size W w) => ElementsOf_any T _ w (by omega) (hT.below h)
    go_cut [7, 8, 9] from 31 to 36 (fun s t z wx => z = .float .f64 o ∧ ElsN wx s S ∧ ElsN wx t T ∧ Below W.heap.size W wx)
    case first =>
      go_wp2_with (first | (go_at_call 14; first | ((with_reducible refine HES.out.mono ?_); rintro E2 w2 ⟨v2, rfl, own2, hb2⟩; have b2 := bl2 hb1 hb2) | ((with_reducible refine (HET.out _ b2).mono ?_); rintro E3 w3 ⟨v3, rfl, own3, hb3⟩; have b3 := bl2 b2 hb3; have s2 := (ElsN.of_owns own2).below hb3; have s3 := ElsN.of_owns own3)))
      go_meet
      exact ⟨rfl, s2, s3, b3⟩
    obtain ⟨rfl, n1, n2, bw⟩ := hcut
    clear hb1 HES HET hS hT
    obtain ⟨ssa, ssc, rfl⟩ := n1.1.form
    obtain ⟨tta, ttc, rfl⟩ := n2.1.form
    have HL1 := hid (LentElements_any S _ _ (by omega) n1)
    have HL2 := hid fun w (h : ElsN w (.slice tta T.length ttc) T) => LentElements_any T _ w (by omega) h
    go_upto_region 6 with (fail)
    go_cut [10, 11] from 37 to 40 (fun p q wx => Kc W (.slice ssa S.length ssc) (.slice tta T.length ttc) p q S T wx ∧ (∃ a c, p = .slice a (S.length + 6) c ∧ S.length + 6 ≤ c) ∧ (∃ a c, q = .slice a (T.length + 6) c ∧ T.length + 6 ≤ c))
    case first =>
      go_wp2_with (first | (go_at_call 15; first | ((with_reducible refine HL1.out.mono ?_); rintro E2 w2 ⟨v2, rfl, own2, hb2⟩) | ((with_reducible refine (HL2.out _ (n2.below hb2)).mono ?_); rintro E3 w3 ⟨v3, rfl, own3, hb3⟩)))
      go_meet
      rw [lentE_length] at own2 own3
      exact ⟨⟨bl2 (bl2 bw hb2) hb3, (n1.below hb2).below hb3, (n2.below hb2).below hb3, (ElsAt.of_owns (by rw [lentE_length]; exact own2)).below hb3, ElsAt.of_owns (by rw [lentE_length]; exact own3)⟩, owns_cap own2, owns_cap own3⟩
    obtain ⟨K, ⟨pa, pc, rfl, hpc⟩, ⟨qa, qc, rfl, hqc⟩⟩ := hcut
    have hpc1 : S.length ≤ pc := by omega
    have hqc1 : T.length ≤ qc := by omega
    clear n1 n2 bw HL1 HL2
    go_upto_region 7 with (fail)
    obtain ⟨⟨⟨f1, f2⟩, on⟩, hr⟩ : ∃ r, r = ladNetF S T := ⟨_, rfl⟩
    have HN := hid fun v u w (h : ElsAt w v S) (h2 : ElsAt w u T) => lNet2 S T (fun e he => (hs e he).1) (fun e he => (ht e he).1) v u w h h2
    rw [← hr] at HN
    have P := (els_lead K.p pc).below (Below.refl _ wc).drew
    have Q := (els_lead K.q qc).below (Below.refl _ wc).drew
    have b9 : Below wc.heap.size wc (World.drew (wc.alloc (.cells #[.int .i64 0, .int .i64 0] 36))) := ((Below.refl _ wc).alloc (Nat.le_refl _) _).drew
    have P2 := (els_lead K.p pc).below b9
    have Q2 := (els_lead K.q qc).below b9
    have F2 : FltAt (World.drew (wc.alloc (.cells #[.int .i64 0, .int .i64 0] 36))) wc.heap.size 0 0 := FltAt.new wc 0 0
    go_cut [12, 13] from 41 to 52 (fun n f wx => ∃ b, f = .pointer (some ⟨b, 0, none⟩) ∧ FltAt wx b f1 f2 ∧ (∃ B, NetV wx B n (ladN S T S.length) on) ∧ Below wc.heap.size wc wx)
    case first =>
      go_region_held3 (fun w' => True) (first | exact trivial) (first | (go_at_call 16; (with_reducible refine (HN.out _ _ _ P Q).mono ?_); rintro E5 w5 ⟨n5, rfl, nv5, hb5⟩; replace hb5 : Below wc.heap.size wc w5 := (Below.refl _ wc).drew.trans hb5) | (go_at_call 16; (with_reducible refine (HN.out _ _ _ P2 Q2).mono ?_); rintro E5 w5 ⟨n5, rfl, nv5, hb5⟩; have F5 := F2.below hb5 F2.lt; have c0 := F5.c0; have c1 := F5.c1; have c2 := F5.fr 0; have c3 := F5.fr 1; replace hb5 : Below wc.heap.size wc w5 := bl2 b9 hb5))
      all_goals
        go_wp2
        go_meet
      · exact ⟨_, rfl, FltAt.new _ _ _, ⟨_, nv5.below ((Below.refl _ w5).alloc (Nat.le_refl _) _)⟩, bla _ hb5⟩
      · exact ⟨_, rfl, F5.set2 _ _, ⟨_, nv5.set2 (by simp; omega) _ _⟩, below_set2 hb5 _ _ (Nat.le_refl _)⟩
    obtain ⟨b13, rfl, F13, ⟨B12, N12⟩, hb⟩ := hcut
    have k13 := F13.lt
    replace K := K.below hb
    clear hb P Q P2 Q2 F2 b9 HN
    go_upto_region 8 with (fail)
    obtain ⟨⟨zz, e1, e2⟩, hri⟩ : ∃ r, r = inF S T (val o) := ⟨_, rfl⟩
    have HI := hid fun v u w (h : ElsAt w v S) (h2 : ElsAt w u T) => Input_any S T hs ht o v u w h h2
    have HJ := hid fun v u w (h : ElsAt w v S) (h2 : ElsAt w u T) => rInput29_any S T hs ht o v u w h h2
    rw [← hri] at HI HJ
    clear hri
    have b9 : Below wc.heap.size wc (World.drew (wc.alloc (.cells #[.int .i64 0, .int .i64 0] 36))) := ((Below.refl _ wc).alloc (Nat.le_refl _) _).drew
    have P := (els_lead K.p pc).below (Below.refl _ wc).drew
    have Q := (els_lead K.q qc).below (Below.refl _ wc).drew
    have P2 := (els_lead K.p pc).below b9
    have Q2 := (els_lead K.q qc).below b9
    have F2 : FltAt (World.drew (wc.alloc (.cells #[.int .i64 0, .int .i64 0] 36))) wc.heap.size 0 0 := FltAt.new wc 0 0
    go_cut [14, 15] from 53 to 65 (fun n f wx => ∃ b x y, f = .pointer (some ⟨b, 0, none⟩) ∧ n = .complex .f64 x y ∧ cv x y = zz ∧ FltAt wx b e1 e2 ∧ Below wc.heap.size wc wx)
    case first =>
      go_region_held3 (fun w' => True) (first | exact trivial) (first | (go_at_call 13; (with_reducible refine (HI.out _ _ _ P Q).mono ?_); rintro E5 w5 ⟨x5, y5, rfl, hb5, hv5, -, -⟩; replace hb5 : Below wc.heap.size wc w5 := (Below.refl _ wc).drew.trans hb5) | (go_at_call 13; (with_reducible refine (HI.out _ _ _ P2 Q2).mono ?_); rintro E5 w5 ⟨x5, y5, rfl, hb5, hv5, -, -⟩; have F5 := F2.below hb5 F2.lt; have c0 := F5.c0; have c1 := F5.c1; have c2 := F5.fr 0; have c3 := F5.fr 1; replace hb5 : Below wc.heap.size wc w5 := bl2 b9 hb5))
      all_goals
        go_wp2
        go_meet
      · exact ⟨_, _, _, rfl, rfl, hv5, FltAt.new _ _ _, bla _ hb5⟩
      · exact ⟨_, _, _, rfl, rfl, hv5, F5.set2 _ _, below_set2 hb5 _ _ (Nat.le_refl _)⟩
    obtain ⟨b15, x1, y1, rfl, rfl, hz1, F15, hb⟩ := hcut
    replace F13 := F13.below hb k13
    replace k13 := F13.lt
    have k15 := F15.lt
    replace N12 := N12.below hb
    replace K := K.below hb
    clear hb P Q P2 Q2 F2 b9 HI
    go_upto_region 9 with (fail)
    have HN := hid fun w (h : ElsAt w (.slice ssa S.length ssc) S) (h2 : ElsAt w (.slice tta T.length ttc) T) => rNet2 S T hs ht _ _ w h h2
    rw [← hr] at HN
    have KS := K.s.1
    have KT := K.t.1
    go_cut [16, 17] from 66 to 71 (fun n f wx => ∃ b, f = .pointer (some ⟨b, 0, none⟩) ∧ FltAt wx b f1 f2 ∧ RfV wx n (ladN S T S.length) on ∧ Below wc.heap.size wc wx)
    case first =>
      go_wp2_with (go_at_call 17; (with_reducible refine (HN.out _ KS KT).mono ?_); rintro E5 w5 ⟨n5, rfl, nv5, hb5⟩)
      go_meet
      exact ⟨_, rfl, FltAt.new _ _ _, nv5.below ((Below.refl _ w5).alloc (Nat.le_refl _) _), bla _ hb5⟩
    obtain ⟨b17, rfl, F17, M16, hb⟩ := hcut
    replace F13 := F13.below hb k13
    replace F15 := F15.below hb k15
    replace k13 := F13.lt
    replace k15 := F15.lt
    have k17 := F17.lt
    replace N12 := N12.below hb
    replace K := K.below hb
    clear hb HN KS KT
    go_upto_region 10 with (fail)
    have KS := K.s.1
    have KT := K.t.1
    go_cut [18, 19] from 72 to 78 (fun n f wx => ∃ b x y, f = .pointer (some ⟨b, 0, none⟩) ∧ n = .complex .f64 x y ∧ cv x y = zz ∧ FltAt wx b e1 e2 ∧ Below wc.heap.size wc wx)
    case first =>
      go_wp2_with (go_at_call 18; (with_reducible refine (HJ.out _ _ _ KS KT).mono ?_); rintro E5 w5 ⟨x5, y5, rfl, hb5, hv5, -, -⟩)
      go_meet
      exact ⟨_, _, _, rfl, rfl, hv5, FltAt.new _ _ _, bla _ hb5⟩
    obtain ⟨b19, x2, y2, rfl, rfl, hz2, F19, hb⟩ := hcut
    replace F13 := F13.below hb k13
    replace F15 := F15.below hb k15
    replace F17 := F17.below hb k17
    replace N12 := N12.below hb
    replace M16 := M16.below hb
    replace K := K.below hb
    clear hb HJ KS KT k13 k15 k17
    go_upto_region 11 with (fail)
    have p0 := F13.c0
    have p1 := F13.c1
    have p2 := F15.c0
    have p3 := F15.c1
    have p4 := F17.c0
    have p5 := F17.c1
    have p6 := F19.c0
    have p7 := F19.c1
    clear F13 F15 F17 F19
    cases on with
    | none =>
      obtain rfl : u12 = .pointer none := N12
      obtain rfl : u16 = .pointer none := M16
      have hf : f1 ≠ 0 := ladNetF_none hr.symm
      have hf0 : (f1 == 0) = false := by simpa using hf
      clear hr hf
      go_wp2_with (first | (go_at_call 21; (with_reducible refine (lawEl_none _).mono ?_); rintro E6 w6 ⟨v6, rfl, own6, hb6⟩; replace K := K.below hb6; have SE6 := ElsAt.of_owns own6) | (go_at_call 20; (with_reducible refine (SameElements_self [] _ _ _ (by simp) SE6 (ElsAt.none _)).mono ?_); rintro E7 w7 ⟨rfl, hb7⟩; replace K := K.below hb7; have KP1 := K.p; have KP2 := K.s) | (go_at_call 22; (with_reducible refine (kSame_any _ _ _ _ _).mono ?_); rintro E8 w8 ⟨rfl, rfl⟩; rw [csame_z2 hz1 hz2]) | (go_at_call 23; first | ((with_reducible refine (KeptElements_any S _ _ _ (by omega) KP1 KP2).mono ?_); rintro E9 w9 ⟨rfl, hb9⟩; replace K := K.below hb9; have KP3 := K.q; have KP4 := K.t; clear KP1 KP2) | ((with_reducible refine (KeptElements_any T _ _ _ (by omega) KP3 KP4).mono ?_); rintro E10 w10 ⟨rfl, hb10⟩; replace K := K.below hb10)))
      go_ret
      exact ⟨rfl, K.b⟩
    | some s =>
      obtain ⟨NN, VV, nodes, br, ks, ps, bs, rfl, NR⟩ := N12
      obtain ⟨kk, rfl, RR⟩ := M16
      obtain ⟨e0, -, hl16⟩ := ladNetF_some hr.symm
      have hll : (ladN S T S.length).length ≤ 1000 := by rw [ladN_len]; omega
      obtain ⟨L, hL⟩ : ∃ L, L = ladN S T S.length := ⟨_, rfl⟩
      rw [← hL] at NR RR hll
      clear hr hL hl16
      cases e0
      have HRE := hid (rElements_any kk L wc RR hll)
      go_wp2_with (first | (go_at_call 19; go_loud ((with_reducible refine HRE.out.mono ?_); rintro E5 w5 ⟨v5, rfl, own5, hb5⟩; replace K := K.below hb5; have SE5 := ElsAt.of_owns own5; have NR5 := NR.below hb5; replace p0 := (hb5.cell (World.block_lt_of_cell? _ _ p0)).trans p0; replace p1 := (hb5.cell (World.block_lt_of_cell? _ _ p1)).trans p1; replace p2 := (hb5.cell (World.block_lt_of_cell? _ _ p2)).trans p2; replace p3 := (hb5.cell (World.block_lt_of_cell? _ _ p3)).trans p3; replace p4 := (hb5.cell (World.block_lt_of_cell? _ _ p4)).trans p4; replace p5 := (hb5.cell (World.block_lt_of_cell? _ _ p5)).trans p5; replace p6 := (hb5.cell (World.block_lt_of_cell? _ _ p6)).trans p6; replace p7 := (hb5.cell (World.block_lt_of_cell? _ _ p7)).trans p7)) | (go_at_call 21; (with_reducible refine (lawEl_some NR5 hll).mono ?_); rintro E6 w6 ⟨v6, rfl, own6, hb6⟩; replace K := K.below hb6; have SE6 := ElsAt.of_owns own6; replace SE5 := SE5.below hb6) | (go_at_call 20; (with_reducible refine (SameElements_self L _ _ _ (by omega) SE6 SE5).mono ?_); rintro E7 w7 ⟨rfl, hb7⟩; replace K := K.below hb7; have KP1 := K.p; have KP2 := K.s) | (go_at_call 22; (with_reducible refine (kSame_any _ _ _ _ _).mono ?_); rintro E8 w8 ⟨rfl, rfl⟩; rw [csame_z2 hz1 hz2]) | (go_at_call 23; first | ((with_reducible refine (KeptElements_any S _ _ _ (by omega) KP1 KP2).mono ?_); rintro E9 w9 ⟨rfl, hb9⟩; replace K := K.below hb9; have KP3 := K.q; have KP4 := K.t; clear KP1 KP2) | ((with_reducible refine (KeptElements_any T _ _ _ (by omega) KP3 KP4).mono ?_); rintro E10 w10 ⟨rfl, hb10⟩; replace K := K.below hb10)))
      go_ret
      exact ⟨rfl, K.b⟩
end Go.Proofs.YtjpimgdmlieinaaDoor
