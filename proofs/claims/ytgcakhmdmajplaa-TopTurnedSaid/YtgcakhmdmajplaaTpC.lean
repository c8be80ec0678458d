/- What stamp stamps of an amplifier; what is stamped by kind. Conditions: names are short, the net is made. -/
import Derived.Test.YtgcakhmdmajplaaTpB
namespace Go.Proofs.Ytgcakhmdmajplaa
open Go.RowKit Go.Maps

section
variable {w0 w w' : World} {B b : Nat} {N : NB} {V : NV} {L : List El} {nodes br ks : List ByteArray} {S S' : Bd}
set_option maxRecDepth 100000 in
set_option maxHeartbeats 4000000 in
theorem amplifier_any (e : El) (he : ElS e) (hm : hasS br e.name = true) (x y : Nat) (H : StK w0 B N V L nodes br ks w b S) : Calls Try.prog 49 #[.pointer (some ⟨b, 0, none⟩), elV e, .complex .f64 x y] w (RetSt w0 B N V L nodes br ks w b (ampP (nodes.length + br.length) S (rowP nodes e.a) (rowP nodes e.b) (rowP nodes e.c) (rowP nodes e.d) ((nodes.length : Int) + plc br e.name) (cv e.v 0))) := by
  show Calls Try.prog 49 #[.pointer (some ⟨b, 0, none⟩), .agg #[.int .u8 e.kind, .string e.name, .string e.a, .string e.b, .string e.c, .string e.d, .float .f64 e.v, .int .i64 e.ph], .complex .f64 x y] w _
  obtain ⟨w1, hw1, bw, e0, e1, e2, e3, e4, e5, e6, e7⟩ := el_open w e
  have H1 := H.below bw
  have b1 : w.grownBy w1 (some b) := gr_of _ bw
  have hne : w.heap.size ≠ b := by have := H.lt; omega
  have HB : Hid (Calls Try.prog 47 #[.pointer (some ⟨b, 0, none⟩), .agg #[.int .u8 e.kind, .string e.name, .string e.a, .string e.b, .string e.c, .string e.d, .float .f64 e.v, .int .i64 e.ph], .complex .f64 x y] w1 (RetSt w0 B N V L nodes br ks w1 b (branP (nodes.length + br.length) S (rowP nodes e.a) (rowP nodes e.b) ((nodes.length : Int) + plc br e.name)))) := hid (branch_any e he hm x y H1)
  unfold ampP
  generalize branP (nodes.length + br.length) S (rowP nodes e.a) (rowP nodes e.b) ((nodes.length : Int) + plc br e.name) = S2 at *
  go_enter Try.func49, Try.ntmps49
  go_upto_region 1 with (fail)
  rw [← hw1]
  clear hw1 bw
  go_upto_region 2 with (go_at_call 47; (with_reducible refine HB.out.mono ?_); rintro E2 w2 ⟨rfl, H2, b2⟩)
  have d1 := gr_cell b2 (p := ⟨w.heap.size, 1, none⟩) hne e1
  have d4 := gr_cell b2 (p := ⟨w.heap.size, 4, none⟩) hne e4
  have d5 := gr_cell b2 (p := ⟨w.heap.size, 5, none⟩) hne e5
  have d6 := gr_cell b2 (p := ⟨w.heap.size, 6, none⟩) hne e6
  have b2' := gr_trans b1 b2
  clear e0 e1 e2 e3 e4 e5 e6 e7 HB H1 H b1 b2
  have rk := rowP_lt nodes e.c
  have rl := rowP_lt nodes e.d
  have rm := plc_lt hm
  have hpg := hid (plc_get hm)
  have hn64 := H2.hs
  have HN : Hid (∀ n, Calls Try.prog 60 #[.pointer (some ⟨N.n, 0, none⟩), .string e.name] (w2.drewN n) fun E w' => E = .returned (.tuple #[.int .i64 (plc br e.name), .bool true]) ∧ w' = w2.drewN n) := fun n => by
    refine (nBranch_any (H2.drewN n).net e.name (sz16 he.1)).mono ?_
    rintro E w' ⟨⟨c, rfl, hc⟩, rfl⟩
    rw [hm, hc _ hpg.out]
    exact ⟨rfl, rfl⟩
  obtain ⟨zs, hB, -⟩ := H2.P
  have z0 := hB.c0
  clear hB zs
  generalize plc br e.name = pm at *
  go_upto_region 3 with (fail)
  go_quiet (first | (go_at_call 60; with_reducible exact Calls.quiet_of_same (HN.out _)))
  obtain ⟨w3, hw3⟩ : ∃ w3, w3 = w2.drewN nq := ⟨_, rfl⟩
  have H3 := H2.drewN nq
  have bx := gr_drewN b2' nq
  have f1 : (w2.drewN nq).cell? ⟨w.heap.size, 4, none⟩ = some (.string e.c) := d4
  have f2 : (w2.drewN nq).cell? ⟨w.heap.size, 5, none⟩ = some (.string e.d) := d5
  rw [← hw3] at H3 bx f1 f2 ⊢
  clear hw3 H2 b2' d1 d4 d5 d6 HN z0
  have hwr : IntKind.i64.wrap ((nodes.length : Int) + (pm : Int)) = (nodes.length : Int) + (pm : Int) := IntWalk.i64_in _ (by omega)
  have hrm : (nodes.length : Int) + (pm : Int) < (nodes.length : Int) + br.length := by omega
  have hrc : rowP nodes e.c < (nodes.length : Int) + br.length := by omega
  have hrd : rowP nodes e.d < (nodes.length : Int) + br.length := by omega
  have H4 : StK w0 B N V L nodes br ks w3.drew b S2 := H3.drewN 1
  have HR := hid (row_any H4 e.c (sz16 he.2.2.2.1))
  have K4 := hid (sSub_any H4 ((nodes.length : Int) + (pm : Int)) (rowP nodes e.c) hrm hrc e.v 0)
  generalize rowP nodes e.c = rc at *
  obtain ⟨zs, hB, -⟩ := H3.P
  have z1 := hB.c1
  clear hB zs
  go_upto_region 4 with (fail)
  go_region_with (first
    | (go_at_call 68; (with_reducible refine HR.out.mono ?_); rintro E4 w4 ⟨rfl, rfl⟩)
    | (go_at_call 70; (with_reducible refine K4.out.mono ?_); rintro E5 w5 ⟨rfl, H5, b5⟩))
  all_goals
    have f3 := gr_cell b5 (p := ⟨w.heap.size, 5, none⟩) hne f2
    have b6 := gr_trans (gr_drewN bx 1) b5
    clear f1 f2 K4 HR H4 H3 bx b5 z1
    have H6 : StK w0 B N V L nodes br ks w5.drew b _ := H5.drewN 1
    have HR := hid (row_any H6 e.d (sz16 he.2.2.2.2))
    have K4 := hid (sAdd_any H6 ((nodes.length : Int) + (pm : Int)) (rowP nodes e.d) hrm hrd e.v 0)
    generalize rowP nodes e.d = rd at *
    obtain ⟨zs, hB, -⟩ := H5.P
    have z1 := hB.c1
    clear hB zs
    go_upto_region 5 with (fail)
    go_region_with (first
      | (go_at_call 68; (with_reducible refine HR.out.mono ?_); rintro E6 w6 ⟨rfl, rfl⟩)
      | (go_at_call 69; (with_reducible refine K4.out.mono ?_); rintro E7 w7 ⟨rfl, H7, b7⟩))
    all_goals
      go_wp2
      go_end0
      exact ⟨rfl, H7, gr_trans (gr_drewN b6 1) b7⟩
end
end Go.Proofs.Ytgcakhmdmajplaa

