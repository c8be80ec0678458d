/- GainCurves: the walk: the statement's function returns true. Conditions: words have 64 bits, lists as long as the form allows. -/
import Derived.Test.YtfnbohpfcdddgaaLCrvA
import Derived.Test.YtfnbohpfcdddgaaKitE0M
import Derived.Deep.RegionLaw
namespace Go.Proofs.Ytfnbohpfcdddgaa
open Go.RowKit Go.Maps

theorem cell_al {w : World} {o : Obj} {a : Addr} {x : Value} (h : w.cell? a = some x) : (w.alloc o).cell? a = some x := (World.cell?_alloc_lt _ _ _ (World.block_lt_of_cell? w a h)).trans h
theorem c8_alloc {w : World} {o : Obj} {a0 a1 a2 a3 a4 a5 a6 a7 : Addr} {x0 x1 x2 x3 x4 x5 x6 x7 : Value} (h : w.cell? a0 = some x0 ∧ w.cell? a1 = some x1 ∧ w.cell? a2 = some x2 ∧ w.cell? a3 = some x3 ∧ w.cell? a4 = some x4 ∧ w.cell? a5 = some x5 ∧ w.cell? a6 = some x6 ∧ w.cell? a7 = some x7) : (w.alloc o).cell? a0 = some x0 ∧ (w.alloc o).cell? a1 = some x1 ∧ (w.alloc o).cell? a2 = some x2 ∧ (w.alloc o).cell? a3 = some x3 ∧ (w.alloc o).cell? a4 = some x4 ∧ (w.alloc o).cell? a5 = some x5 ∧ (w.alloc o).cell? a6 = some x6 ∧ (w.alloc o).cell? a7 = some x7 := ⟨cell_al h.1, cell_al h.2.1, cell_al h.2.2.1, cell_al h.2.2.2.1, cell_al h.2.2.2.2.1, cell_al h.2.2.2.2.2.1, cell_al h.2.2.2.2.2.2.1, cell_al h.2.2.2.2.2.2.2⟩
theorem c8_drew {w : World} {a0 a1 a2 a3 a4 a5 a6 a7 : Addr} {x0 x1 x2 x3 x4 x5 x6 x7 : Value} (h : w.cell? a0 = some x0 ∧ w.cell? a1 = some x1 ∧ w.cell? a2 = some x2 ∧ w.cell? a3 = some x3 ∧ w.cell? a4 = some x4 ∧ w.cell? a5 = some x5 ∧ w.cell? a6 = some x6 ∧ w.cell? a7 = some x7) : w.drew.cell? a0 = some x0 ∧ w.drew.cell? a1 = some x1 ∧ w.drew.cell? a2 = some x2 ∧ w.drew.cell? a3 = some x3 ∧ w.drew.cell? a4 = some x4 ∧ w.drew.cell? a5 = some x5 ∧ w.drew.cell? a6 = some x6 ∧ w.drew.cell? a7 = some x7 := h
set_option maxRecDepth 100000 in
set_option maxHeartbeats 8000000 in
theorem curves_walk (l : List El) (ss : List Sol) (out inn : ByteArray) (g : List Z) (hl : ∀ e ∈ l, e.kind < 256 ∧ IsW e.v) (hss : ∀ s ∈ ss, s.1.length * 16 ≤ 140737488351232 ∧ s.2.length * 16 ≤ 140737488351232) (hgn : g.length * 16 ≤ 140737488351232) (ho : out.size ≤ maxLen) (hi : inn.size ≤ maxLen) (vl vs vg : Value) (W : World) (hL : KsAt W vl l) (hS : SeensAt W vs ss) (hG : NsAt W vg g) :
    Calls Try.prog 3 #[vl, vs, .string out, .string inn, vg] W fun e w' => e = .returned (.bool true) ∧ Below W.heap.size W w' := by
  have hL0 := hL
  have hS0 := hS
  obtain ⟨la, lc, rfl, -⟩ := hL0
  obtain ⟨sa, sc, rfl, -⟩ := hS0
  go_enter Try.func3, Try.ntmps3
  by_cases hlong : 40 < l.length ∨ 200 < ss.length
  · rcases (by omega : 40 < l.length ∨ (¬ 40 < l.length ∧ 200 < ss.length)) with g1 | ⟨g1, g2⟩
    · have g3 : (40 : Int) < (l.length : Int) := by omega
      clear hlong
      go_wp2_with (go_at_call 4; (with_reducible refine (gLives_any _).mono ?_); rintro e w1 ⟨rfl, hb1⟩)
      go_ret
      exact ⟨rfl, hb1⟩
    · have g3 : ¬ (40 : Int) < (l.length : Int) := by omega
      have g4 : (200 : Int) < (ss.length : Int) := by omega
      clear hlong
      go_wp2_with (go_at_call 4; (with_reducible refine (gLives_any _).mono ?_); rintro e w1 ⟨rfl, hb1⟩)
      go_ret
      exact ⟨rfl, hb1⟩
  · have g3 : ¬ (40 : Int) < (l.length : Int) := by omega
    have g4 : ¬ (200 : Int) < (ss.length : Int) := by omega
    have hll : l.length ≤ 40 := by omega
    have hsl : ss.length ≤ 200 := by omega
    clear hlong
    go_upto_region 5 with (go_at_call 4; (with_reducible refine (gLives_any _).mono ?_); rintro e w1 ⟨rfl, hb1⟩)
    have HES := hid (ElementsOf_any l _ w1 (by omega) (hL.below hb1))
    go_upto_region 6 with (go_at_call 5; (with_reducible refine HES.out.mono ?_); rintro E2 w2 ⟨v2, rfl, own2, hb2⟩)
    have b2 := bl2 hb1 hb2
    have n2 := ElsN.of_owns own2
    obtain ⟨ea, ec, rfl⟩ := n2.1.form
    clear HES hL own2 hb1 hb2
    have HC := hid (CopyElements_any l _ w2 (by omega) n2)
    obtain ⟨⟨⟨f1, f2⟩, on⟩, hr⟩ : ∃ r, r = netF l := ⟨_, rfl⟩
    cases on with
    | none =>
      have hf : f1 ≠ 0 := netF_none hr.symm
      have hf0 : (f1 == 0) = false := by simpa using hf
      have HN : Hid (∀ v w, ElsAt w v l → Calls Try.prog 6 #[v] w fun E w' => E = .returned (.tuple #[.pointer none, .agg #[.int .i64 f1, .int .i64 f2]]) ∧ Below w.heap.size w w') := fun v w h => by
        have := Of_any l (fun e he => (hl e he).1) v w h (by omega)
        rw [← hr] at this
        exact this
      have HM : Hid (∀ v w, ElsN w v l → Calls Try.prog 8 #[v] w fun E w' => E = .returned (.tuple #[.pointer none, .agg #[.int .i64 f1, .int .i64 f2]]) ∧ Below w.heap.size w w') := fun v w h => by
        have := rOf15_any l hl v w h (by omega)
        rw [← hr] at this
        exact this
      clear hr hf
      go_wp2_with (first
        | (go_at_call 7; (with_reducible refine HC.out.mono ?_); rintro E3 w3 ⟨v3, rfl, own3, hb3⟩; have n3 := (ElsN.of_owns own3).1; have m3 := n2.below hb3; have b3 := bl2 b2 hb3)
        | (go_at_call 6; (with_reducible refine (HN.out _ _ n3).mono ?_); rintro E4 w4 ⟨rfl, hb4⟩; have m4 := (m3.below hb4).below (bl_a w4 (.cells #[.int .i64 f1, .int .i64 f2] 31)); have b4 := bla (.cells #[.int .i64 f1, .int .i64 f2] 31) (bl2 b3 hb4); have F4 := FltAt.new w4 f1 f2)
        | (go_at_call 8; (with_reducible refine (HM.out _ _ m4).mono ?_); rintro E5 w5 ⟨rfl, hb5⟩; have b5 := bla (.cells #[.int .i64 f1, .int .i64 f2] 31) (bl2 b4 hb5); have F5 := flt_a (.cells #[.int .i64 f1, .int .i64 f2] 31) (flt_b F4 hb5); have c0 := F5.c0; have c1 := F5.c1))
      go_ret
      exact ⟨rfl, b5⟩
    | some s =>
      obtain ⟨he0, hsl0⟩ := netF_some hr.symm
      obtain ⟨GN, hn32, hn64, -⟩ := netF_good hr.symm
      obtain ⟨rfl, rfl⟩ := Prod.mk.inj he0
      have HN : Hid (∀ v w, ElsAt w v l → Calls Try.prog 6 #[v] w fun E w' => ∃ N V, E = .returned (.tuple #[.pointer (some ⟨NB.n N, 0, none⟩), .agg #[.int .i64 0, .int .i64 0]]) ∧ NetR w' (w.heap.size + 1) N V l s.nodes s.br (nmL s.l) s.nodes s.br ∧ Below w.heap.size w w') := fun v w h => by
        have := Of_any l (fun e he => (hl e he).1) v w h (by omega)
        rw [← hr] at this
        refine this.mono fun E w' h => ?_
        obtain ⟨N, V, h1, h2, h3⟩ := h
        rw [hsl0] at h2 ⊢
        exact ⟨N, V, h1, h2, h3⟩
      have HM : Hid (∀ v w, ElsN w v l → Calls Try.prog 8 #[v] w fun E w' => ∃ n, E = .returned (.tuple #[.pointer (some ⟨n, 0, none⟩), .agg #[.int .i64 0, .int .i64 0]]) ∧ RfN w' n l ∧ Below w.heap.size w w') := fun v w h => by
        have := rOf15_any l hl v w h (by omega)
        rw [← hr] at this
        exact this
      clear hr he0
      go_wp2_with (first
        | (go_at_call 7; (with_reducible refine HC.out.mono ?_); rintro E3 w3 ⟨v3, rfl, own3, hb3⟩; have n3 := (ElsN.of_owns own3).1; have m3 := n2.below hb3; have b3 := bl2 b2 hb3)
        | (go_at_call 6; (with_reducible refine (HN.out _ _ n3).mono ?_); rintro E4 w4 ⟨N, V, rfl, K4, hb4⟩; have m4 := (m3.below hb4).below (bl_a w4 (.cells #[.int .i64 0, .int .i64 0] 31)); have b4 := bla (.cells #[.int .i64 0, .int .i64 0] 31) (bl2 b3 hb4); have F4 := FltAt.new w4 0 0; have K5 := K4.alloc (.cells #[.int .i64 0, .int .i64 0] 31))
        | (go_at_call 8; (with_reducible refine (HM.out _ _ m4).mono ?_); rintro E5 w5 ⟨n5, rfl, M5, hb5⟩; have b5 := bla (.cells #[.int .i64 0, .int .i64 0] 31) (bl2 b4 hb5); have F5 := flt_a (.cells #[.int .i64 0, .int .i64 0] 31) (flt_b F4 hb5); have c0 := F5.c0; have c1 := F5.c1; have K6 := (K5.below hb5).alloc (.cells #[.int .i64 0, .int .i64 0] 31); have M6 := M5.below (bl_a w5 (.cells #[.int .i64 0, .int .i64 0] 31))))
      obtain ⟨w0, hw0⟩ : ∃ w0, w0 = w5.alloc (.cells #[.int .i64 0, .int .i64 0] 31) := ⟨_, rfl⟩
      rw [← hw0] at b5 K6 M6 ⊢
      clear hw0 F5 c0 c1 K5 M5 K4 F4 b4 m4 b3 m3 n3 hb5 hb4 hb3 own3 HN HM HC n2 b2
      have S0 := hS.below b5
      clear hS
      go_loopw [19, 16, 17, 18] (fun i so ow fu w' => SvLoop w0 ss i so ow fu w') (fun i _ _ _ _ => ss.length + 1 - (intOf i).toNat)
      case atStart => exact ⟨0, fun _ => (.slice none 0 0, .slice none 0 0), fun _ => (.slice none 0 0, .slice none 0 0), fun _ => (.slice none 0 0, .slice none 0 0), _, rfl, Nat.zero_le _, ⟨RS.start w0.heap.size (fun i => if i = 0 then (46, 3) else if i = 1 then (46, 3) else if i = 2 then (47, 2) else (63, 1)) w0, rfl, rfl, rfl, fun j s hj => absurd hj (Nat.not_lt_zero _)⟩, Below.refl _ _⟩
      case round =>
        obtain ⟨k, sv, ov, fv, ρ, rfl, hk, R, hb⟩ := hrel
        by_cases hkn : k < ss.length
        · obtain ⟨sl, hs⟩ : ∃ z, ss[k]? = some z := ⟨ss[k]'hkn, List.getElem?_eq_getElem hkn⟩
          obtain ⟨ea, ec, e1, hx⟩ := S0.below hb
          cases e1
          obtain ⟨b, off, a1, c1, a2, c2, rfl, h1, h2, N1, N2⟩ := hx k sl hs
          obtain ⟨q1, q2⟩ := hss sl (List.mem_of_getElem? hs)
          have hbl : b < wr.heap.size := World.block_lt_of_cell? _ _ h1
          have hB := hb.size
          have g5 : (k : Int) < (ss.length : Int) := by omega
          have HS := hid hs
          have HK := hid (And.intro K6 M6)
          have HG := hid (And.intro S0 hx)
          have HX := hid fun w' (h : Below wr.heap.size wr w') => Numbers_any sl.1 _ w' q1 (N1.below h)
          have HY := hid fun w' (h : Below wr.heap.size wr w') => Numbers_any sl.2 _ w' q2 (N2.below h)
          clear hs K6 M6 S0 hx N1 N2
          go_upto_region 15 with (fail)
          have d0 : Below wr.heap.size wr wr.drew := bld (Below.refl _ _)
          have d1 : Below wr.heap.size wr (wr.alloc (.cells #[.float .f64 0, .slice none 0 0, .slice none 0 0] 46)).drew := bld (bla _ (Below.refl _ _))
          have R0 : RS w0.heap.size ρ wr.drew := R.rs.drew
          have R1 : RS w0.heap.size (upd ρ 6 ⟨46, 3, .slice (some ⟨wr.heap.size, 0, none⟩) 1 1, 1, [.float .f64 0, .slice none 0 0, .slice none 0 0]⟩) (wr.alloc (.cells #[.float .f64 0, .slice none 0 0, .slice none 0 0] 46)).drew := (R.rs.one hB 6 46 [.float .f64 0, .slice none 0 0, .slice none 0 0]).drew
          have n6 : 6 ≠ 10 + 4 * k := by omega
          have n7 : 6 ≠ 11 + 4 * k := by omega
          have n8 : 10 + 4 * k ≠ 11 + 4 * k := by omega
          have z0 : b ≠ wr.heap.size := by omega
          have z1 := z0.symm
          go_cut [20] from 81 to 93 (fun x wx => ∃ p ρ' v1 v2, x = .pointer (some ⟨p, 0, none⟩) ∧ RS w0.heap.size ρ' wx ∧ ρ' 6 = ⟨46, 3, .slice (some ⟨p, 0, none⟩) 1 1, 1, [.float .f64 4607182418800017408, v1, v2]⟩ ∧ ρ' (10 + 4 * k) = ⟨63, 1, v1, sl.1.length, sl.1.map C⟩ ∧ ρ' (11 + 4 * k) = ⟨63, 1, v2, sl.2.length, sl.2.map C⟩ ∧ (∀ j, j ≠ 6 → j ≠ 10 + 4 * k → j ≠ 11 + 4 * k → ρ' j = ρ j) ∧ Below wr.heap.size wr wx)
          case first =>
            go_region_held3 (fun w' => w'.cell? ⟨b, off + k * 2, none⟩ = some (.slice a1 sl.1.length c1) ∧ w'.cell? ⟨b, off + k * 2 + 1, none⟩ = some (.slice a2 sl.2.length c2)) (first | exact ⟨h1, h2⟩ | exact ⟨k2, k3⟩ | exact ⟨k4, k5⟩ | go_keep) (first
              | (go_at_call 9; (with_reducible refine (HX.out _ d0).mono ?_); rintro E2 w2 ⟨v2, rfl, own2, hb2⟩; rw [List.length_map] at own2; obtain ⟨a5, c5, rfl, -⟩ := own_cap own2; have e2 := bl2 d0 hb2; have R2 := R0.push hB hb2 (10 + 4 * k) (Nat.le_refl _) own2; have hB2 := Nat.le_trans hB e2.size; have z2 : b ≠ w2.heap.size := (by have := e2.size; omega); have z3 := z2.symm; have k2 := (e2.cell (p := ⟨b, off + k * 2, none⟩) hbl).trans h1; have k3 := (e2.cell (p := ⟨b, off + k * 2 + 1, none⟩) hbl).trans h2; have R3 := R2.one hB2 6 46 [.float .f64 0, .slice none 0 0, .slice none 0 0]; have d2 : Below wr.heap.size wr (w2.alloc (.cells #[.float .f64 0, .slice none 0 0, .slice none 0 0] 46)) := bla _ e2)
              | (go_at_call 9; (with_reducible refine (HX.out _ d1).mono ?_); rintro E2 w2 ⟨v2, rfl, own2, hb2⟩; rw [List.length_map] at own2; obtain ⟨a5, c5, rfl, -⟩ := own_cap own2; have e2 := bl2 d1 hb2; have R5 := R1.push (Nat.le_trans hB d1.size) hb2 (10 + 4 * k) (Nat.le_refl _) own2; have z2 : b ≠ w2.heap.size := (by have := e2.size; omega); have z3 := z2.symm; have k2 := (e2.cell (p := ⟨b, off + k * 2, none⟩) hbl).trans h1; have k3 := (e2.cell (p := ⟨b, off + k * 2 + 1, none⟩) hbl).trans h2)
              | (go_at_call 9; (with_reducible refine (HY.out _ d2).mono ?_); rintro E3 w4 ⟨v3, rfl, own3, hb3⟩; rw [List.length_map] at own3; obtain ⟨a6, c6, rfl, -⟩ := own_cap own3; have e3 := bl2 d2 hb3; have R4 := R3.push (Nat.le_trans hB d2.size) hb3 (11 + 4 * k) (Nat.le_refl _) own3; have x0 : w4.cell? ⟨w2.heap.size, 0, none⟩ = some (.float .f64 0) := R4.cell (upd_b _ _ _ _ n7) rfl; have x1 : w4.cell? ⟨w2.heap.size, 1, none⟩ = some (.slice none 0 0) := R4.cell (upd_b _ _ _ _ n7) rfl; have x2 : w4.cell? ⟨w2.heap.size, 2, none⟩ = some (.slice none 0 0) := R4.cell (upd_b _ _ _ _ n7) rfl; have x3 : w4.frozen? ⟨w2.heap.size, 0, none⟩ = false := R4.fr (upd_b _ _ _ _ n7) 0; have x4 : w4.frozen? ⟨w2.heap.size, 1, none⟩ = false := R4.fr (upd_b _ _ _ _ n7) 1; have x5 : w4.frozen? ⟨w2.heap.size, 2, none⟩ = false := R4.fr (upd_b _ _ _ _ n7) 2; have z4 : b ≠ w4.heap.size := (by have := e3.size; omega); have z5 := z4.symm; have k4 := (e3.cell (p := ⟨b, off + k * 2, none⟩) hbl).trans h1; have k5 := (e3.cell (p := ⟨b, off + k * 2 + 1, none⟩) hbl).trans h2)
              | (go_at_call 9; (with_reducible refine (HY.out _ e2).mono ?_); rintro E3 w4 ⟨v3, rfl, own3, hb3⟩; rw [List.length_map] at own3; obtain ⟨a6, c6, rfl, -⟩ := own_cap own3; have e3 := bl2 e2 hb3; (first | (have R4 := R5.push (Nat.le_trans hB e2.size) hb3 (11 + 4 * k) (Nat.le_refl _) own3; have x0 : w4.cell? ⟨wr.heap.size, 0, none⟩ = some (.float .f64 0) := R4.cell (upd_c _ _ _ _ n6 n7) rfl; have x1 : w4.cell? ⟨wr.heap.size, 1, none⟩ = some (.slice none 0 0) := R4.cell (upd_c _ _ _ _ n6 n7) rfl; have x2 : w4.cell? ⟨wr.heap.size, 2, none⟩ = some (.slice none 0 0) := R4.cell (upd_c _ _ _ _ n6 n7) rfl; have x3 : w4.frozen? ⟨wr.heap.size, 0, none⟩ = false := R4.fr (upd_c _ _ _ _ n6 n7) 0; have x4 : w4.frozen? ⟨wr.heap.size, 1, none⟩ = false := R4.fr (upd_c _ _ _ _ n6 n7) 1; have x5 : w4.frozen? ⟨wr.heap.size, 2, none⟩ = false := R4.fr (upd_c _ _ _ _ n6 n7) 2) | (have R4 := R2.push (Nat.le_trans hB e2.size) hb3 (11 + 4 * k) (Nat.le_refl _) own3)); have z4 : b ≠ w4.heap.size := (by have := e3.size; omega); have z5 := z4.symm; have k4 := (e3.cell (p := ⟨b, off + k * 2, none⟩) hbl).trans h1; have k5 := (e3.cell (p := ⟨b, off + k * 2 + 1, none⟩) hbl).trans h2))
            all_goals
              go_wp2
              go_meet
            · exact ⟨_, _, _, _, rfl, R4.one (Nat.le_trans hB e3.size) 6 46 [.float .f64 4607182418800017408, .slice a5 sl.1.length c5, .slice a6 sl.2.length c6], upd_same _ _ _, (by (repeat (first | with_reducible exact rfl | exact upd_same _ _ _ | refine (upd_ne _ _ (by omega)).trans ?_ | fail))), (by (repeat (first | with_reducible exact rfl | exact upd_same _ _ _ | refine (upd_ne _ _ (by omega)).trans ?_ | fail))), fun j j1 j2 j3 => by (repeat (first | with_reducible exact rfl | exact upd_same _ _ _ | refine (upd_ne _ _ (by omega)).trans ?_ | fail)), bla _ e3⟩
            · have T1 := R4.store (upd_b _ _ _ _ n7) 0 (.float .f64 4607182418800017408)
              have T2 := T1.store (upd_same _ _ _) 1 (.slice a5 sl.1.length c5)
              have T3 := T2.store (upd_same _ _ _) 2 (.slice a6 sl.2.length c6)
              exact ⟨_, _, _, _, rfl, T3, upd_same _ _ _, (by (repeat (first | with_reducible exact rfl | exact upd_same _ _ _ | refine (upd_ne _ _ (by omega)).trans ?_ | fail))), (by (repeat (first | with_reducible exact rfl | exact upd_same _ _ _ | refine (upd_ne _ _ (by omega)).trans ?_ | fail))), fun j j1 j2 j3 => by (repeat (first | with_reducible exact rfl | exact upd_same _ _ _ | refine (upd_ne _ _ (by omega)).trans ?_ | fail)), bls (bls (bls e3 e2.size) e2.size) e2.size⟩
            · have T1 := R4.store (upd_c _ _ _ _ n6 n7) 0 (.float .f64 4607182418800017408)
              have T2 := T1.store (upd_same _ _ _) 1 (.slice a5 sl.1.length c5)
              have T3 := T2.store (upd_same _ _ _) 2 (.slice a6 sl.2.length c6)
              exact ⟨_, _, _, _, rfl, T3, upd_same _ _ _, (by (repeat (first | with_reducible exact rfl | exact upd_same _ _ _ | refine (upd_ne _ _ (by omega)).trans ?_ | fail))), (by (repeat (first | with_reducible exact rfl | exact upd_same _ _ _ | refine (upd_ne _ _ (by omega)).trans ?_ | fail))), fun j j1 j2 j3 => by (repeat (first | with_reducible exact rfl | exact upd_same _ _ _ | refine (upd_ne _ _ (by omega)).trans ?_ | fail)), bls (bls (bls e3 (Nat.le_refl _)) (Nat.le_refl _)) (Nat.le_refl _)⟩
          obtain ⟨p, ρ1, v1, v2, rfl, T, t6, tA, tC, tr, bw⟩ := hcut
          clear d0 d1 R0 R1 HX HY h1 h2 z0 z1
          have hBc := Nat.le_trans hB bw.size
          obtain ⟨va, vca, rfl, -⟩ := own_cap (T.at tA)
          obtain ⟨vb, vcb, rfl, -⟩ := own_cap (T.at tC)
          have HLS := hid (LentSolution_any 4607182418800017408 sl.1 sl.2 (.slice va sl.1.length vca) (.slice vb sl.2.length vcb) wc (by have h := T.at tA; exact Sl.of_owns (by simpa using h)) (by have h := T.at tC; exact Sl.of_owns (by simpa using h)) (by omega) (by omega))
          have y0 : wc.cell? ⟨p, 0, none⟩ = some (.float .f64 4607182418800017408) := T.cell t6 rfl
          have y1 : wc.cell? ⟨p, 1, none⟩ = some (.slice va sl.1.length vca) := T.cell t6 rfl
          have y2 : wc.cell? ⟨p, 2, none⟩ = some (.slice vb sl.2.length vcb) := T.cell t6 rfl
          go_upto_region 17 with (go_at_call 10; (with_reducible refine HLS.out.mono ?_); rintro E5 w6 ⟨fa, fc, fb, fd, hap, rfl, O1, O2, hb6⟩)
          rw [lent_length] at O1 O2
          have T8 := T.push2 hBc hb6 (i := 12 + 4 * k) (j := 13 + 4 * k) (by omega) O1 O2 hap
          have hBd := Nat.le_trans hBc hb6.size
          have T9 := T8.one hBd 7 46 [.float .f64 4607182418800017408, .slice fa sl.1.length fc, .slice fb sl.2.length fd]
          have hsz1 : (w6.alloc (.cells #[.float .f64 4607182418800017408, .slice fa sl.1.length fc, .slice fb sl.2.length fd] 46)).heap.size = w6.heap.size + 1 := by simp
          have T10 := T9.one (by rw [hsz1]; omega) 8 47 [.slice fa (sl.1.length + 6) fc, .slice fb (sl.2.length + 6) fd]
          rw [hsz1] at T10
          have bw7 : Below w0.heap.size w0 ((w6.alloc (.cells #[.float .f64 4607182418800017408, .slice fa sl.1.length fc, .slice fb sl.2.length fd] 46)).alloc (.cells #[.slice fa (sl.1.length + 6) fc, .slice fb (sl.2.length + 6) fd] 47)) := bla _ (bla _ (bl2 (bl2 hb bw) hb6))
          obtain ⟨w7, hw7⟩ : ∃ w7, w7 = (w6.alloc (.cells #[.float .f64 4607182418800017408, .slice fa sl.1.length fc, .slice fb sl.2.length fd] 46)).alloc (.cells #[.slice fa (sl.1.length + 6) fc, .slice fb (sl.2.length + 6) fd] 47) := ⟨_, rfl⟩
          rw [← hw7] at T10 bw7 ⊢
          obtain ⟨ρ3, RW, u0, u1, u2, u6, u7, u8, uA, uC, uF, uG, ur⟩ : ∃ ρ3, RSW w0 ρ3 w7 ∧ ρ3 0 = ρ 0 ∧ ρ3 1 = ρ 1 ∧ ρ3 2 = ρ 2 ∧ ρ3 6 = ⟨46, 3, .slice (some ⟨p, 0, none⟩) 1 1, 1, [.float .f64 4607182418800017408, .slice va sl.1.length vca, .slice vb sl.2.length vcb]⟩ ∧ ρ3 7 = ⟨46, 3, .slice (some ⟨w6.heap.size, 0, none⟩) 1 1, 1, [.float .f64 4607182418800017408, .slice fa sl.1.length fc, .slice fb sl.2.length fd]⟩ ∧ ρ3 8 = ⟨47, 2, .slice (some ⟨w6.heap.size + 1, 0, none⟩) 1 1, 1, [.slice fa (sl.1.length + 6) fc, .slice fb (sl.2.length + 6) fd]⟩ ∧ ρ3 (10 + 4 * k) = ⟨63, 1, .slice va sl.1.length vca, sl.1.length, sl.1.map C⟩ ∧ ρ3 (11 + 4 * k) = ⟨63, 1, .slice vb sl.2.length vcb, sl.2.length, sl.2.map C⟩ ∧ ρ3 (12 + 4 * k) = ⟨63, 1, .slice fa (sl.1.length + 6) fc, sl.1.length + 6, (lent sl.1).map C⟩ ∧ ρ3 (13 + 4 * k) = ⟨63, 1, .slice fb (sl.2.length + 6) fd, sl.2.length + 6, (lent sl.2).map C⟩ ∧ ∀ j, 10 ≤ j → j < 10 + 4 * k → ρ3 j = ρ j := by
            refine ⟨_, ⟨T10, bw7⟩, ?_, ?_, ?_, ?_, ?_, ?_, ?_, ?_, ?_, ?_, ?_⟩
            · (repeat (first | with_reducible exact tr 0 (by omega) (by omega) (by omega) | exact upd_same _ _ _ | refine (upd_ne _ _ (by omega)).trans ?_ | fail))
            · (repeat (first | with_reducible exact tr 1 (by omega) (by omega) (by omega) | exact upd_same _ _ _ | refine (upd_ne _ _ (by omega)).trans ?_ | fail))
            · (repeat (first | with_reducible exact tr 2 (by omega) (by omega) (by omega) | exact upd_same _ _ _ | refine (upd_ne _ _ (by omega)).trans ?_ | fail))
            · (repeat (first | with_reducible exact t6 | exact upd_same _ _ _ | refine (upd_ne _ _ (by omega)).trans ?_ | fail))
            · (repeat (first | with_reducible exact t6 | exact upd_same _ _ _ | refine (upd_ne _ _ (by omega)).trans ?_ | fail))
            · (repeat (first | with_reducible exact t6 | exact upd_same _ _ _ | refine (upd_ne _ _ (by omega)).trans ?_ | fail))
            · (repeat (first | with_reducible exact tA | exact upd_same _ _ _ | refine (upd_ne _ _ (by omega)).trans ?_ | fail))
            · (repeat (first | with_reducible exact tC | exact upd_same _ _ _ | refine (upd_ne _ _ (by omega)).trans ?_ | fail))
            · (repeat (first | with_reducible exact t6 | exact upd_same _ _ _ | refine (upd_ne _ _ (by omega)).trans ?_ | fail))
            · (repeat (first | with_reducible exact t6 | exact upd_same _ _ _ | refine (upd_ne _ _ (by omega)).trans ?_ | fail))
            · intro j j1 j2
              (repeat (first | with_reducible exact tr j (by omega) (by omega) (by omega) | exact upd_same _ _ _ | refine (upd_ne _ _ (by omega)).trans ?_ | fail))
          rw [R.r0] at u0
          rw [R.r1] at u1
          rw [R.r2] at u2
          have RN := hid R.rn
          have hk1 : k + 1 ≤ maxLen := by simp only [maxLen]; omega
          have hk2 : (k + 1) * 56 ≤ 140737488355328 := by omega
          have hk3 : (k + 1) * 48 ≤ 140737488355328 := by omega
          have j0 : w7.cell? ⟨p, 0, none⟩ = some (.float .f64 4607182418800017408) := RW.1.cell u6 rfl
          have j1 : w7.cell? ⟨p, 1, none⟩ = some (.slice va sl.1.length vca) := RW.1.cell u6 rfl
          have j2 : w7.cell? ⟨p, 2, none⟩ = some (.slice vb sl.2.length vcb) := RW.1.cell u6 rfl
          have j3 : w7.cell? ⟨w6.heap.size, 0, none⟩ = some (.float .f64 4607182418800017408) := RW.1.cell u7 rfl
          have j4 : w7.cell? ⟨w6.heap.size, 1, none⟩ = some (.slice fa sl.1.length fc) := RW.1.cell u7 rfl
          have j5 : w7.cell? ⟨w6.heap.size, 2, none⟩ = some (.slice fb sl.2.length fd) := RW.1.cell u7 rfl
          have j6 : w7.cell? ⟨w6.heap.size + 1, 0, none⟩ = some (.slice fa (sl.1.length + 6) fc) := RW.1.cell u8 rfl
          have j7 : w7.cell? ⟨w6.heap.size + 1, 1, none⟩ = some (.slice fb (sl.2.length + 6) fd) := RW.1.cell u8 rfl
          have J := And.intro j0 (And.intro j1 (And.intro j2 (And.intro j3 (And.intro j4 (And.intro j5 (And.intro j6 j7))))))
          clear j0 j1 j2 j3 j4 j5 j6 j7 hw7 hsz1 T10 T9 T8 T O1 O2 hap hb6 HLS y0 y1 y2 t6 tA tC tr bw hBc hBd bw7 R hB hb hbl n6 n7 n8
          go_region_held3 (fun w' => w'.cell? ⟨p, 0, none⟩ = some (.float .f64 4607182418800017408) ∧ w'.cell? ⟨p, 1, none⟩ = some (.slice va sl.1.length vca) ∧ w'.cell? ⟨p, 2, none⟩ = some (.slice vb sl.2.length vcb) ∧ w'.cell? ⟨w6.heap.size, 0, none⟩ = some (.float .f64 4607182418800017408) ∧ w'.cell? ⟨w6.heap.size, 1, none⟩ = some (.slice fa sl.1.length fc) ∧ w'.cell? ⟨w6.heap.size, 2, none⟩ = some (.slice fb sl.2.length fd) ∧ w'.cell? ⟨w6.heap.size + 1, 0, none⟩ = some (.slice fa (sl.1.length + 6) fc) ∧ w'.cell? ⟨w6.heap.size + 1, 1, none⟩ = some (.slice fb (sl.2.length + 6) fd)) (repeat (first | with_reducible assumption | with_reducible apply c8_drew | with_reducible apply c8_alloc | fail)) (first
            | (apply step_app_rsw rfl _ _ 38 rfl w0 46 (.agg #[.float .f64 0, .slice none 0 0, .slice none 0 0]) 3 56 Try.underlying38 info_sol sol_z (by decide) 0 3; (· (repeat (first | with_reducible assumption | with_reducible apply RSW.drew | apply RSW.one (i := 3) (e := 46) (cs := [.float .f64 4607182418800017408, .slice va sl.1.length vca, .slice vb sl.2.length vcb]) | apply RSW.one (i := 4) (e := 46) (cs := [.float .f64 4607182418800017408, .slice fa sl.1.length fc, .slice fb sl.2.length fd]) | apply RSW.one (i := 5) (e := 47) (cs := [.slice fa (sl.1.length + 6) fc, .slice fb (sl.2.length + 6) fd]) | fail))); (· (repeat (first | with_reducible exact u0 | exact upd_same _ _ _ | refine (upd_ne _ _ (by omega)).trans ?_ | fail))); (· (repeat (first | with_reducible exact u6 | exact upd_same _ _ _ | refine (upd_ne _ _ (by omega)).trans ?_ | fail))); (· rfl); (· first | rfl | (refine Eq.trans (b := Value.slice (some ⟨_, 0, none⟩) 1 1) rfl ?_; simp)); (· simp [Value.oneCell']); (· exact hk1); (· first | exact hk2 | exact hk3); intro g8 cap8 w8 RW8; have J := And.intro (RW8.1.cell' u6 (j := 0) rfl (by (repeat (first | with_reducible exact rfl | refine (upd_ne _ _ (by omega)).trans ?_ | fail)))) (And.intro (RW8.1.cell' u6 (j := 1) rfl (by (repeat (first | with_reducible exact rfl | refine (upd_ne _ _ (by omega)).trans ?_ | fail)))) (And.intro (RW8.1.cell' u6 (j := 2) rfl (by (repeat (first | with_reducible exact rfl | refine (upd_ne _ _ (by omega)).trans ?_ | fail)))) (And.intro (RW8.1.cell' u7 (j := 0) rfl (by (repeat (first | with_reducible exact rfl | refine (upd_ne _ _ (by omega)).trans ?_ | fail)))) (And.intro (RW8.1.cell' u7 (j := 1) rfl (by (repeat (first | with_reducible exact rfl | refine (upd_ne _ _ (by omega)).trans ?_ | fail)))) (And.intro (RW8.1.cell' u7 (j := 2) rfl (by (repeat (first | with_reducible exact rfl | refine (upd_ne _ _ (by omega)).trans ?_ | fail)))) (And.intro (RW8.1.cell' u8 (j := 0) rfl (by (repeat (first | with_reducible exact rfl | refine (upd_ne _ _ (by omega)).trans ?_ | fail)))) (RW8.1.cell' u8 (j := 1) rfl (by (repeat (first | with_reducible exact rfl | refine (upd_ne _ _ (by omega)).trans ?_ | fail)))))))))))
            | (apply step_app_rsw rfl _ _ 38 rfl w0 46 (.agg #[.float .f64 0, .slice none 0 0, .slice none 0 0]) 3 56 Try.underlying38 info_sol sol_z (by decide) 1 4; (· (repeat (first | with_reducible assumption | with_reducible apply RSW.drew | apply RSW.one (i := 3) (e := 46) (cs := [.float .f64 4607182418800017408, .slice va sl.1.length vca, .slice vb sl.2.length vcb]) | apply RSW.one (i := 4) (e := 46) (cs := [.float .f64 4607182418800017408, .slice fa sl.1.length fc, .slice fb sl.2.length fd]) | apply RSW.one (i := 5) (e := 47) (cs := [.slice fa (sl.1.length + 6) fc, .slice fb (sl.2.length + 6) fd]) | fail))); (· (repeat (first | with_reducible exact u1 | exact upd_same _ _ _ | refine (upd_ne _ _ (by omega)).trans ?_ | fail))); (· (repeat (first | with_reducible exact u6 | exact upd_same _ _ _ | refine (upd_ne _ _ (by omega)).trans ?_ | fail))); (· rfl); (· first | rfl | (refine Eq.trans (b := Value.slice (some ⟨_, 0, none⟩) 1 1) rfl ?_; simp)); (· simp [Value.oneCell']); (· exact hk1); (· first | exact hk2 | exact hk3); intro g8 cap8 w8 RW8; have J := And.intro (RW8.1.cell' u6 (j := 0) rfl (by (repeat (first | with_reducible exact rfl | refine (upd_ne _ _ (by omega)).trans ?_ | fail)))) (And.intro (RW8.1.cell' u6 (j := 1) rfl (by (repeat (first | with_reducible exact rfl | refine (upd_ne _ _ (by omega)).trans ?_ | fail)))) (And.intro (RW8.1.cell' u6 (j := 2) rfl (by (repeat (first | with_reducible exact rfl | refine (upd_ne _ _ (by omega)).trans ?_ | fail)))) (And.intro (RW8.1.cell' u7 (j := 0) rfl (by (repeat (first | with_reducible exact rfl | refine (upd_ne _ _ (by omega)).trans ?_ | fail)))) (And.intro (RW8.1.cell' u7 (j := 1) rfl (by (repeat (first | with_reducible exact rfl | refine (upd_ne _ _ (by omega)).trans ?_ | fail)))) (And.intro (RW8.1.cell' u7 (j := 2) rfl (by (repeat (first | with_reducible exact rfl | refine (upd_ne _ _ (by omega)).trans ?_ | fail)))) (And.intro (RW8.1.cell' u8 (j := 0) rfl (by (repeat (first | with_reducible exact rfl | refine (upd_ne _ _ (by omega)).trans ?_ | fail)))) (RW8.1.cell' u8 (j := 1) rfl (by (repeat (first | with_reducible exact rfl | refine (upd_ne _ _ (by omega)).trans ?_ | fail)))))))))))
            | (apply step_app_rsw rfl _ _ 39 rfl w0 47 (.agg #[.slice none 0 0, .slice none 0 0]) 2 48 Try.underlying39 info_arr arr_z (by decide) 2 5; (· (repeat (first | with_reducible assumption | with_reducible apply RSW.drew | apply RSW.one (i := 3) (e := 46) (cs := [.float .f64 4607182418800017408, .slice va sl.1.length vca, .slice vb sl.2.length vcb]) | apply RSW.one (i := 4) (e := 46) (cs := [.float .f64 4607182418800017408, .slice fa sl.1.length fc, .slice fb sl.2.length fd]) | apply RSW.one (i := 5) (e := 47) (cs := [.slice fa (sl.1.length + 6) fc, .slice fb (sl.2.length + 6) fd]) | fail))); (· (repeat (first | with_reducible exact u2 | exact upd_same _ _ _ | refine (upd_ne _ _ (by omega)).trans ?_ | fail))); (· (repeat (first | with_reducible exact u6 | exact upd_same _ _ _ | refine (upd_ne _ _ (by omega)).trans ?_ | fail))); (· rfl); (· first | rfl | (refine Eq.trans (b := Value.slice (some ⟨_, 0, none⟩) 1 1) rfl ?_; simp)); (· simp [Value.oneCell']); (· exact hk1); (· first | exact hk2 | exact hk3); intro g8 cap8 w8 RW8; have J := And.intro (RW8.1.cell' u6 (j := 0) rfl (by (repeat (first | with_reducible exact rfl | refine (upd_ne _ _ (by omega)).trans ?_ | fail)))) (And.intro (RW8.1.cell' u6 (j := 1) rfl (by (repeat (first | with_reducible exact rfl | refine (upd_ne _ _ (by omega)).trans ?_ | fail)))) (And.intro (RW8.1.cell' u6 (j := 2) rfl (by (repeat (first | with_reducible exact rfl | refine (upd_ne _ _ (by omega)).trans ?_ | fail)))) (And.intro (RW8.1.cell' u7 (j := 0) rfl (by (repeat (first | with_reducible exact rfl | refine (upd_ne _ _ (by omega)).trans ?_ | fail)))) (And.intro (RW8.1.cell' u7 (j := 1) rfl (by (repeat (first | with_reducible exact rfl | refine (upd_ne _ _ (by omega)).trans ?_ | fail)))) (And.intro (RW8.1.cell' u7 (j := 2) rfl (by (repeat (first | with_reducible exact rfl | refine (upd_ne _ _ (by omega)).trans ?_ | fail)))) (And.intro (RW8.1.cell' u8 (j := 0) rfl (by (repeat (first | with_reducible exact rfl | refine (upd_ne _ _ (by omega)).trans ?_ | fail)))) (RW8.1.cell' u8 (j := 1) rfl (by (repeat (first | with_reducible exact rfl | refine (upd_ne _ _ (by omega)).trans ?_ | fail)))))))))))
            | fail)
          all_goals
            go_wp2
            go_roundw
            case rel =>
              refine ⟨k + 1, fun j => if j = k then (.slice va sl.1.length vca, .slice vb sl.2.length vcb) else sv j, fun j => if j = k then (.slice fa sl.1.length fc, .slice fb sl.2.length fd) else ov j, fun j => if j = k then (.slice fa (sl.1.length + 6) fc, .slice fb (sl.2.length + 6) fd) else fv j, _, by go_num, by omega, ⟨RW8.1, ?_, ?_, ?_, ?_⟩, RW8.2⟩
              · rw [flat_upd solC sv _ k]
                (repeat (first | with_reducible exact upd_same _ _ _ | exact upd_same _ _ _ | refine (upd_ne _ _ (by omega)).trans ?_ | fail))
              · rw [flat_upd solC ov _ k]
                (repeat (first | with_reducible exact upd_same _ _ _ | exact upd_same _ _ _ | refine (upd_ne _ _ (by omega)).trans ?_ | fail))
              · rw [flat_upd arrC fv _ k]
                (repeat (first | with_reducible exact upd_same _ _ _ | exact upd_same _ _ _ | refine (upd_ne _ _ (by omega)).trans ?_ | fail))
              · intro j s' hj hs'
                by_cases hjk : j = k
                · subst hjk
                  obtain rfl : sl = s' := Option.some.inj (HS.out.symm.trans hs')
                  simp only [if_true]
                  refine ⟨?_, ?_, ?_, ?_, fa, fc, fb, fd, rfl, rfl⟩
                  · (repeat (first | with_reducible exact uA | exact upd_same _ _ _ | refine (upd_ne _ _ (by omega)).trans ?_ | fail))
                  · (repeat (first | with_reducible exact uC | exact upd_same _ _ _ | refine (upd_ne _ _ (by omega)).trans ?_ | fail))
                  · (repeat (first | with_reducible exact uF | exact upd_same _ _ _ | refine (upd_ne _ _ (by omega)).trans ?_ | fail))
                  · (repeat (first | with_reducible exact uG | exact upd_same _ _ _ | refine (upd_ne _ _ (by omega)).trans ?_ | fail))
                · simp only [if_neg hjk]
                  obtain ⟨a1, a2, a3, a4, a5⟩ := RN.out j s' (by omega) hs'
                  refine ⟨?_, ?_, ?_, ?_, a5⟩
                  · (repeat (first | with_reducible exact (ur _ (by omega) (by omega)).trans a1 | exact upd_same _ _ _ | refine (upd_ne _ _ (by omega)).trans ?_ | fail))
                  · (repeat (first | with_reducible exact (ur _ (by omega) (by omega)).trans a2 | exact upd_same _ _ _ | refine (upd_ne _ _ (by omega)).trans ?_ | fail))
                  · (repeat (first | with_reducible exact (ur _ (by omega) (by omega)).trans a3 | exact upd_same _ _ _ | refine (upd_ne _ _ (by omega)).trans ?_ | fail))
                  · (repeat (first | with_reducible exact (ur _ (by omega) (by omega)).trans a4 | exact upd_same _ _ _ | refine (upd_ne _ _ (by omega)).trans ?_ | fail))
            case measure => simp [intOf] <;> omega
        · obtain rfl : k = ss.length := by omega
          have g5 : ¬ (ss.length : Int) < (ss.length : Int) := by omega
          have bA := bl2 b5 hb
          have hnd := GN.nd
          have hbr := GN.br
          rw [hsl0] at hnd hbr
          obtain ⟨R0, e0, k0, hR⟩ : ∃ a b c, cuF s.nodes s.br out inn ss = (a, (b, c)) := ⟨_, _, _, rfl⟩
          obtain ⟨P0, e1, k1, hP⟩ : ∃ a b c, powF g = (a, (b, c)) := ⟨_, _, _, rfl⟩
          have hR0 : R0.length ≤ 200 := by
            have := cuF_len s.nodes s.br out inn ss
            rw [hR] at this
            simp only at this
            omega
          have hP0 : P0.length ≤ g.length := by
            have := powF_len g
            rw [hP] at this
            exact this
          have hq : ∀ s ∈ ss, s.1.length ≤ 140737488355328 ∧ s.2.length ≤ 140737488355328 := fun s h => by have := hss s h; omega
          have SO := R.sols
          have OW := R.owns
          have HCV := fun w' (h : Below wr.heap.size wr w') => Curve_any ((K6.below hb).below h) GN.e (by omega) (by omega) ss hq (by omega) u17 (OW.below h) out inn ho hi
          have HRC := fun w' (h : Below wr.heap.size wr w') => rCurve_any ((M6.below hb).below h) (by omega) hnd.symm GN.z ss hq (by omega) u16 (SO.below h) out inn
          rw [← hbr, hR] at HRC
          rw [hR] at HCV
          have HC1 : Hid (∀ w', Below wr.heap.size wr w' → Calls Try.prog 11 #[.pointer (some ⟨N.n, 0, none⟩), u17, .string out, .string inn] w' fun E w'' => ∃ (v : Value) (l : List Z), E = .returned (.tuple #[v, .agg #[.int .i64 e0, .int .i64 k0]]) ∧ w''.ownsRow w'.heap.size 63 1 v l.length (l.map C) ∧ l.map zv = R0 ∧ Below w'.heap.size w' w'') := hid HCV
          have HC2 : Hid (∀ w', Below wr.heap.size wr w' → Calls Try.prog 12 #[.pointer (some ⟨n5, 0, none⟩), u16, .string out, .string inn] w' fun E w'' => ∃ (v : Value) (l : List Z), E = .returned (.tuple #[v, .agg #[.int .i64 e0, .int .i64 k0]]) ∧ w''.ownsRow w'.heap.size 63 1 v l.length (l.map C) ∧ l.map zv = R0 ∧ Below w'.heap.size w' w'') := hid HRC
          have HNU := hid fun w' (h : Below wr.heap.size wr w') => Numbers_any g vg w' hgn (hG.below (bl2 bA h))
          obtain ⟨fa, fcc, efu, -⟩ := own_cap (R.rs.at R.r2)
          subst efu
          have HR := hid R
          have HL := hid (And.intro hR0 hP0)
          clear HCV HRC SO OW hR hnd hbr hq K6 M6 hG GN hb b5 R hR0 hP0 hn32 hn64 hsl0
          go_upto_region 19 with (go_at_call 11; (with_reducible refine (HC1.out _ (Below.refl _ _)).mono ?_); rintro E8 w8 ⟨v8, l8, rfl, o8, m8, hb8⟩)
          obtain ⟨a8, c8, rfl, -⟩ := own_cap o8
          have F9 := FltAt.new w8 e0 k0
          have b9 := bla (.cells #[.int .i64 e0, .int .i64 k0] 31) hb8
          have o9 := o8.alloc (.cells #[.int .i64 e0, .int .i64 k0] 31)
          obtain ⟨w9, hw9⟩ : ∃ w9, w9 = w8.alloc (.cells #[.int .i64 e0, .int .i64 k0] 31) := ⟨_, rfl⟩
          rw [← hw9] at F9 b9 o9 ⊢
          clear hw9 hb8 o8
          go_upto_region 20 with (go_at_call 11; (with_reducible refine (HC1.out _ b9).mono ?_); rintro E10 w10 ⟨v10, l10, rfl, o10, m10, hb10⟩)
          obtain ⟨a10, c10, rfl, -⟩ := own_cap o10
          have ap : ApV (.slice a8 l8.length c8) (.slice a10 l10.length c10) := fun g h1 h2 => Nat.lt_irrefl _ (Nat.lt_of_lt_of_le (o9.lt g h1).2 (o10.lt g h2).1)
          have F11 := flt_a (.cells #[.int .i64 e0, .int .i64 k0] 31) (flt_b F9 hb10)
          have G11 := FltAt.new w10 e0 k0
          have b11 := bla (.cells #[.int .i64 e0, .int .i64 k0] 31) (bl2 b9 hb10)
          have o11 := (owns_below o9 hb10).alloc (.cells #[.int .i64 e0, .int .i64 k0] 31)
          have p11 := (own_mono o10 b9.size).alloc (.cells #[.int .i64 e0, .int .i64 k0] 31)
          obtain ⟨w11, hw11⟩ : ∃ w11, w11 = w10.alloc (.cells #[.int .i64 e0, .int .i64 k0] 31) := ⟨_, rfl⟩
          rw [← hw11] at F11 G11 b11 o11 p11 ⊢
          clear hw11 hb10 o9 o10 F9 b9
          go_upto_region 21 with (go_at_call 12; (with_reducible refine (HC2.out _ b11).mono ?_); rintro E12 w12 ⟨v12, l12, rfl, o12, m12, hb12⟩)
          have F13 := flt_a (.cells #[.int .i64 e0, .int .i64 k0] 31) (flt_b F11 hb12)
          have G13 := flt_a (.cells #[.int .i64 e0, .int .i64 k0] 31) (flt_b G11 hb12)
          have H13 := FltAt.new w12 e0 k0
          have b13 := bla (.cells #[.int .i64 e0, .int .i64 k0] 31) (bl2 b11 hb12)
          have o13 := (owns_below o11 hb12).alloc (.cells #[.int .i64 e0, .int .i64 k0] 31)
          have p13 := (owns_below p11 hb12).alloc (.cells #[.int .i64 e0, .int .i64 k0] 31)
          have q13 := (own_mono o12 b11.size).alloc (.cells #[.int .i64 e0, .int .i64 k0] 31)
          obtain ⟨w13, hw13⟩ : ∃ w13, w13 = w12.alloc (.cells #[.int .i64 e0, .int .i64 k0] 31) := ⟨_, rfl⟩
          rw [← hw13] at F13 G13 H13 b13 o13 p13 q13 ⊢
          clear hw13 hb12 o11 p11 o12 F11 G11 b11
          go_upto_region 22 with (go_at_call 9; (with_reducible refine (HNU.out _ b13).mono ?_); rintro E14 w14 ⟨v14, rfl, o14, hb14⟩)
          rw [List.length_map] at o14
          obtain ⟨na, nc, rfl, -⟩ := own_cap o14
          have HLN := hid (LentNumbers_any g _ w14 (by omega) (Sl.of_owns o14))
          go_upto_region 23 with (go_at_call 13; (with_reducible refine HLN.out.mono ?_); rintro E15 w15 ⟨v15, rfl, o15, hb15⟩)
          rw [List.length_map, lent_length] at o15
          obtain ⟨la2, lc2, rfl, hlc⟩ := own_cap o15
          have b15 := bl2 (bl2 b13 hb14) hb15
          have s15 := Sl.of_owns (owns_below o14 hb15)
          have t15 := Sl.of_owns o15
          have u15 := t15.take (k := g.length) (by omega)
          rw [← List.map_take, lent_take] at u15
          have F15 := flt_b (flt_b F13 hb14) hb15
          have G15 := flt_b (flt_b G13 hb14) hb15
          have H15 := flt_b (flt_b H13 hb14) hb15
          have o15' := owns_below (owns_below o13 hb14) hb15
          have p15' := owns_below (owns_below p13 hb14) hb15
          have q15' := owns_below (owns_below q13 hb14) hb15
          clear o13 p13 q13 F13 G13 H13 HLN hb14 hb15 o14 o15 b13
          have hgl : g.length ≤ 140737488355328 := by omega
          have HP1 := Powers_any g _ w15 u15 hgl
          rw [hP] at HP1
          have HP2 := fun w' (h : Below w15.heap.size w15 w') => rPowers_any g _ w' (s15.below h) hgl
          rw [hP] at HP2
          have HQ1 : Hid (Calls Try.prog 14 #[.slice la2 g.length lc2] w15 fun E w'' => ∃ (v : Value) (l : List Nat), E = .returned (.tuple #[v, .agg #[.int .i64 e1, .int .i64 k1]]) ∧ w''.ownsRow w15.heap.size 40 1 v l.length (l.map F) ∧ l.map val = P0 ∧ (∀ x ∈ l, IsW x) ∧ Below w15.heap.size w15 w'') := hid HP1
          have HQ2 : Hid (∀ w', Below w15.heap.size w15 w' → Calls Try.prog 15 #[.slice na g.length nc] w' fun E w'' => ∃ (v : Value) (l : List Nat), E = .returned (.tuple #[v, .agg #[.int .i64 e1, .int .i64 k1]]) ∧ w''.ownsRow w'.heap.size 40 1 v l.length (l.map F) ∧ l.map val = P0 ∧ (∀ x ∈ l, IsW x) ∧ Below w'.heap.size w' w'') := hid HP2
          clear HP1 HP2 hP
          go_upto_region 24 with (go_at_call 14; (with_reducible refine HQ1.out.mono ?_); rintro E16 w16 ⟨v16, l16, rfl, o16, m16, -, hb16⟩)
          have F17 := flt_a (.cells #[.int .i64 e1, .int .i64 k1] 31) (flt_b F15 hb16)
          have G17 := flt_a (.cells #[.int .i64 e1, .int .i64 k1] 31) (flt_b G15 hb16)
          have H17 := flt_a (.cells #[.int .i64 e1, .int .i64 k1] 31) (flt_b H15 hb16)
          have I17 := FltAt.new w16 e1 k1
          have b17 := bla (.cells #[.int .i64 e1, .int .i64 k1] 31) hb16
          have r17 := o16.alloc (.cells #[.int .i64 e1, .int .i64 k1] 31)
          obtain ⟨w17, hw17⟩ : ∃ w17, w17 = w16.alloc (.cells #[.int .i64 e1, .int .i64 k1] 31) := ⟨_, rfl⟩
          rw [← hw17] at F17 G17 H17 I17 b17 r17 ⊢
          clear hw17 hb16 o16 F15 G15 H15
          go_upto_region 25 with (go_at_call 15; (with_reducible refine (HQ2.out _ b17).mono ?_); rintro E18 w18 ⟨v18, l18, rfl, o18, m18, -, hb18⟩)
          have F19 := flt_a (.cells #[.int .i64 e1, .int .i64 k1] 31) (flt_b F17 hb18)
          have G19 := flt_a (.cells #[.int .i64 e1, .int .i64 k1] 31) (flt_b G17 hb18)
          have H19 := flt_a (.cells #[.int .i64 e1, .int .i64 k1] 31) (flt_b H17 hb18)
          have I19 := flt_a (.cells #[.int .i64 e1, .int .i64 k1] 31) (flt_b I17 hb18)
          have J19 := FltAt.new w18 e1 k1
          have b19 := bla (.cells #[.int .i64 e1, .int .i64 k1] 31) (bl2 b17 hb18)
          have r19 := Sl.of_owns ((owns_below r17 hb18).alloc (.cells #[.int .i64 e1, .int .i64 k1] 31))
          have s19 := Sl.of_owns (o18.alloc (.cells #[.int .i64 e1, .int .i64 k1] 31))
          obtain ⟨w19, hw19⟩ : ∃ w19, w19 = w18.alloc (.cells #[.int .i64 e1, .int .i64 k1] 31) := ⟨_, rfl⟩
          rw [← hw19] at F19 G19 H19 I19 J19 b19 r19 s19 ⊢
          clear hw19 hb18 o18 r17 F17 G17 H17 I17 b17
          have o19 := owns_below o15' b19
          have p19 := owns_below p15' b19
          have q19 := owns_below q15' b19
          have x19 := s15.below b19
          have y19 := t15.below b19
          obtain ⟨hR0, hP0⟩ := HL.out
          have n8 : l8.length ≤ 200 := by rw [← m8, List.length_map] at hR0; exact hR0
          have n10 : l10.length ≤ 200 := by rw [← m10, List.length_map] at hR0; exact hR0
          have n16 : l16.length ≤ g.length := by rw [← m16, List.length_map] at hP0; exact hP0
          have n18 : l18.length ≤ g.length := by rw [← m18, List.length_map] at hP0; exact hP0
          have HS1 := SameNumbers_any l8 l12 _ v12 w19 (by omega) (Sl.of_owns o19) (Sl.of_owns q19)
          have HS2 := fun a => SameNumbers_any l10 l12 _ v12 (w19.drewN a) (by omega) (Sl.of_owns p19) (Sl.of_owns q19)
          have HS3 := fun a => SameReals_any l16 l18 v16 v18 (w19.drewN a) (by omega) (by omega) r19 s19
          have HS4 := fun a => KeptNumbers_any (lent g) g _ _ (w19.drewN a) (by rw [lent_length]; omega) (by omega) y19 x19
          rw [show sameC l8 l12 = true by simp [sameC, m8, m12]] at HS1
          rw [show sameC l10 l12 = true by simp [sameC, m10, m12]] at HS2
          rw [show sameL l16 l18 = true by simp [sameL, m16, m18]] at HS3
          rw [sameC_self] at HS4
          replace HS1 := hid HS1
          replace HS2 := hid HS2
          replace HS3 := hid HS3
          replace HS4 := hid HS4
          have f0 := F19.c0
          have f1 := F19.c1
          have f2 := G19.c0
          have f3 := G19.c1
          have f4 := H19.c0
          have f5 := H19.c1
          have f6 := I19.c0
          have f7 := I19.c1
          have f8 := J19.c0
          have f9 := J19.c1
          clear F19 G19 H19 I19 J19 m8 m10 m12 m16 m18 hR0 hP0
          go_wp2_with (first
            | (go_at_call 16; (with_reducible refine HS1.out.mono ?_); rintro E20 w20 ⟨rfl, ⟨d1, rfl⟩⟩)
            | (go_at_call 16; (with_reducible refine (HS2.out _).mono ?_); rintro E21 w21 ⟨rfl, ⟨d2, rfl⟩⟩)
            | (go_at_call 17; (with_reducible refine (HS3.out _).mono ?_); rintro E22 w22 ⟨rfl, ⟨d3, rfl⟩⟩)
            | (go_at_call 18; (with_reducible refine (HS4.out _).mono ?_); rintro E23 w23 ⟨rfl, hb23⟩))
          have b24 : Below w19.heap.size w19 w23 := (below_drewN' (Below.refl _ _) _).trans hb23
          have bW := bl2 (bl2 b15 b19) b24
          have R23 := HR.out.below bW
          have bT := bl2 bA bW
          have bAz := bA.size
          have bWz := bW.size
          have O1 := owns_below o19 b24
          have O2 := owns_below p19 b24
          clear HS1 HS2 HS3 HS4 HQ1 HQ2 HNU HC1 HC2 HR b24 bA bW o19 p19 q19 x19 y19 b19 r19 s19 s15 t15 u15 b15 o15' p15' q15' hb23 f0 f1 f2 f3 f4 f5 f6 f7 f8 f9
          go_loopw [35] (fun i w' => ∃ x : Nat, i = .int .i64 x ∧ x ≤ ss.length ∧ Below w23.heap.size w23 w') (fun i _ => ss.length + 1 - (intOf i).toNat)
          case atStart => exact ⟨0, rfl, Nat.zero_le _, Below.refl _ _⟩
          case round =>
            obtain ⟨x, rfl, hx, hbx⟩ := hrel
            by_cases hxn : x < ss.length
            · have g6 : (x : Int) < (ss.length : Int) := by omega
              obtain ⟨s', hs'⟩ : ∃ z, ss[x]? = some z := ⟨ss[x]'hxn, List.getElem?_eq_getElem hxn⟩
              obtain ⟨fb, fc, sb, sc, q1, q2, q3, q4, e1, rfl, i1, i2, i3, i4, i5, s1, s2, s3, s4⟩ := (R23.below hbx).full hs'
              cases e1
              obtain ⟨m1, m2⟩ := hss s' (List.mem_of_getElem? hs')
              obtain ⟨z1, y1, rfl, -⟩ := s1.cz
              obtain ⟨z2, y2, rfl, -⟩ := s2.cz
              obtain ⟨z3, y3, rfl, -⟩ := s3.cz
              obtain ⟨z4, y4, rfl, -⟩ := s4.cz
              have HK := hid fun w' (h : Below wr.heap.size wr w') => KeptSolution_any 4607182418800017408 s'.1 s'.2 _ _ _ _ w' (s1.below h) (s2.below h) (s3.below h) (s4.below h) (by omega) (by omega)
              clear s1 s2 s3 s4
              go_upto_region 30 with (fail)
              go_region_with (first | (go_at_call 19; (with_reducible refine (HK.out _ (bld (Below.refl _ _))).mono ?_); rintro E30 w30 ⟨rfl, hb30⟩) | fail)
              all_goals
                go_wp2
                go_roundw
                case rel => exact ⟨x + 1, by go_num, by omega, bl2 (bld hbx) hb30⟩
                case measure => simp [intOf] <;> omega
            · obtain rfl : x = ss.length := by omega
              have g6 : ¬ (ss.length : Int) < (ss.length : Int) := by omega
              have HAP := hid (two_calls (owns_below O1 hbx) (owns_below O2 hbx) ap (Nat.le_trans bWz hbx.size) (by omega) (by omega))
              go_wp2_with (first | (go_at_call 20; (with_reducible refine HAP.out.mono ?_); rintro E32 w32 ⟨rfl, hb32⟩))
              go_ret
              exact ⟨rfl, (bl2 bT hbx).trans (hb32.mono bAz)⟩
end Go.Proofs.Ytfnbohpfcdddgaa

