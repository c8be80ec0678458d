/- gridworkwide.Ten, gridworkref05.Ten. Conditions: the power below 20000; the number does not stand behind a -. -/
import Derived.Test.YtfalbdlfopfgcaaGreatDoorWj
namespace Go.Proofs.YtfalbdlfopfgcaaGreatDoor
open Go.RowKit

theorem ten_len (k : Nat) : (wds (10 ^ k)).length ≤ k / 8 + 1 := by
  refine wds_len _ _ ?_
  have h2 : 10 ^ k ≤ 16 ^ k := Nat.pow_le_pow_left (by decide) k
  have h3 : (16 : Nat) ^ k = 2 ^ (4 * k) := by rw [Nat.pow_mul]
  have h4 : (2 : Nat) ^ (4 * k) < 2 ^ (32 * (k / 8 + 1)) := Nat.pow_lt_pow_right (by decide) (by omega)
  have h5 : (2 : Nat) ^ (32 * (k / 8 + 1)) = 4294967296 ^ (k / 8 + 1) := by rw [Nat.pow_mul]
  omega
theorem Of_1 (w : World) : Calls Tryz.prog 50 #[.int .u64 1] w (RetI w false 1) := wOf_any w 1 (by unfold IsW; decide)
theorem Of_10 (w : World) : Calls Tryz.prog 50 #[.int .u64 10] w (RetI w false 10) := wOf_any w 10 (by unfold IsW; decide)
theorem Wn.set2 {w : World} {v x y : Value} {n b : Nat} (h : Wn w v n) (hb : IntB w b x y) (hx : ∀ d, x ≠ wrd d) (hy : ∀ d, y ≠ wrd d) (s : Bool) (z : Value) : Wn ((w.setCell ⟨b, 0, none⟩ (.bool s)).setCell ⟨b, 1, none⟩ z) v n :=
  Sl.setI (Sl.setI h hb hx hy 0 (.bool s)) (show IntB (w.setCell ⟨b, 0, none⟩ (.bool s)) b (.bool s) y from heap_setCell_same w b 0 _ _ (.bool s) hb) (fun d e => by cases e) hy 1 z
theorem IntB.oth {w : World} {b b' : Nat} {x y : Value} (h : IntB w b x y) (hne : b ≠ b') (u v : Value) : IntB ((w.setCell ⟨b', 0, none⟩ u).setCell ⟨b', 1, none⟩ v) b x y := by
  unfold IntB at *
  rw [Below.heap_setCell _ _ _ _ hne, Below.heap_setCell _ _ _ _ hne]
  exact h
def TenLoop (w : World) (bx n : Nat) (i : Value) (w' : World) : Prop := ∃ (k : Nat) (v : Value), i = .int .i64 (k : Int) ∧ k ≤ n ∧ IntB w' w.heap.size (.bool false) (.slice none 0 0) ∧ IntB w' bx (.bool false) v ∧ Wn w' v (10 ^ k) ∧ Below w.heap.size w w'
set_option maxRecDepth 100000 in
set_option maxHeartbeats 4000000 in
theorem wTen_any (w : World) (n : Nat) (hn : n ≤ 20000) : Calls Tryz.prog 78 #[.int .i64 n] w (RetI w false (10 ^ n)) := by
  have i0 := IntB.new w (.bool false) (.slice none 0 0)
  have b0 : Below w.heap.size w (w.alloc (.cells #[.bool false, .slice none 0 0] 85)) := bla _ (Below.refl _ _)
  have HOf1 := hid (Of_1 (w.alloc (.cells #[.bool false, .slice none 0 0] 85)))
  have HOf := hid Of_10
  go_enter Tryz.func78, Tryz.ntmps78
  go_wp2_with (go_at_call 50; (with_reducible refine HOf1.out.mono ?_); rintro E1 w2 ⟨v1, rfl, hv1, hb1⟩; obtain ⟨va, vc, rfl⟩ := hv1.sl)
  have j0 := hid ((i0.below hb1).alloc (.cells #[.bool false, .slice va (wds 1).length vc] 85))
  have j1 := hid (IntB.new w2 (.bool false) (.slice va (wds 1).length vc))
  have b2 := hid (bla (.cells #[.bool false, .slice va (wds 1).length vc] 85) (bl2 b0 hb1))
  have v2 := hid (hv1.alloc (.cells #[.bool false, .slice va (wds 1).length vc] 85))
  have hbx := b0.size
  have hbx2 := hb1.size
  rw [World.size_alloc] at hbx hbx2
  clear i0 b0 hv1 hb1 HOf1
  obtain ⟨w3, hw3⟩ : ∃ w3, w3 = w2.alloc (.cells #[.bool false, .slice va (wds 1).length vc] 85) := ⟨_, rfl⟩
  rw [← hw3] at j0 j1 b2 v2 ⊢
  obtain ⟨bx, hbxd⟩ : ∃ bx, bx = w2.heap.size := ⟨_, rfl⟩
  rw [← hbxd] at j1 hbx2 ⊢
  clear hw3 hbxd
  go_loopw [4] (fun i w' => TenLoop w bx n i w') (fun i _ => n + 1 - (intOf i).toNat)
  case atStart => exact ⟨0, _, rfl, Nat.zero_le _, j0.out, j1.out, v2.out, b2.out⟩
  case round =>
    obtain ⟨k, v, rfl, hk, h0, h1, hv, hb⟩ := hrel
    obtain ⟨xa, xc, rfl⟩ := hv.sl
    by_cases hkn : k < n
    · have HMul := hid fun (w' : World) (u : Value) (hu : Wn w' u 10) (h : Below wr.heap.size wr w') => wMul_any w' (.slice xa (wds (10 ^ k)).length xc) u (10 ^ k) 10 (hv.below h) hu (by have := ten_len k; omega) (by have := ten_len 1; rw [Nat.pow_one] at this; omega)
      have hp : 10 ^ k * 10 = 10 ^ (k + 1) := (Nat.pow_succ ..).symm
      rw [hp] at HMul
      have H0 := hid h0
      have H1 := hid h1
      have a0 := h1.c0
      have a1 := h1.c1
      clear hp
      go_wp2
      go_region_law (go_simp; first
        | (go_at_call 50; (with_reducible refine (HOf.out _).mono ?_); rintro E4 w4 ⟨u4, rfl, hu4, hb4⟩; have k1 := H1.out.below (w' := w4) (by (repeat (first | with_reducible exact Below.refl _ _ | with_reducible refine bla _ ?_ | with_reducible refine bld ?_ | with_reducible refine bldn ?_ _ | (with_reducible refine bl2 ?_ (by assumption))))); have a2 := k1.c0; have a3 := k1.c1)
        | (go_at_call 79; (with_reducible refine (HMul.out _ _ (hu4.below (by (repeat (first | with_reducible exact Below.refl _ _ | with_reducible refine bla _ ?_ | with_reducible refine bld ?_ | with_reducible refine bldn ?_ _ | (with_reducible refine bl2 ?_ (by assumption)))))) (by (repeat (first | with_reducible exact Below.refl _ _ | with_reducible refine bla _ ?_ | with_reducible refine bld ?_ | with_reducible refine bldn ?_ _ | (with_reducible refine bl2 ?_ (by assumption)))))).mono ?_); rintro E5 w5 ⟨u5, rfl, hu5, hb5⟩; obtain ⟨ya, yc, rfl⟩ := hu5.sl; have k2 := H1.out.below (w' := w5) (by (repeat (first | with_reducible exact Below.refl _ _ | with_reducible refine bla _ ?_ | with_reducible refine bld ?_ | with_reducible refine bldn ?_ _ | (with_reducible refine bl2 ?_ (by assumption))))); have a4 := k2.c0; have a5 := k2.c1; have a6 := k2.fr 0; have a7 := k2.fr 1))
      all_goals
        have z0 := (H0.out.below (w' := w5) (by (repeat (first | with_reducible exact Below.refl _ _ | with_reducible refine bla _ ?_ | with_reducible refine bld ?_ | with_reducible refine bldn ?_ _ | (with_reducible refine bl2 ?_ (by assumption)))))).oth (show w.heap.size ≠ bx by omega) (.bool false) (.slice ya (wds (10 ^ (k + 1))).length yc)
        have z1 := k2.set (.bool false) (.slice ya (wds (10 ^ (k + 1))).length yc)
        have z2 := Wn.set2 hu5 k2 (fun d e => by cases e) (fun d e => by cases e) false (.slice ya (wds (10 ^ (k + 1))).length yc)
        have z3 : Below w.heap.size w ((w5.setCell ⟨bx, 0, none⟩ (.bool false)).setCell ⟨bx, 1, none⟩ (.slice ya (wds (10 ^ (k + 1))).length yc)) := below_set2i (bl2 hb (by (repeat (first | with_reducible exact Below.refl _ _ | with_reducible refine bla _ ?_ | with_reducible refine bld ?_ | with_reducible refine bldn ?_ _ | (with_reducible refine bl2 ?_ (by assumption)))))) (by omega) _ _
        clear a0 a1 a2 a3 a4 a5 a6 a7
        go_wp2
        go_roundw
        case rel => exact ⟨k + 1, _, by go_num, hkn, z0, z1, z2, z3⟩
        case measure => simp [intOf]; omega
    · obtain rfl : k = n := by omega
      have a0 := h1.c0
      have a1 := h1.c1
      have d0 := h0.c0
      have d1 := h0.c1
      have d2 := h0.fr 0
      have d3 := h0.fr 1
      have z1 := h0.set (.bool false) (.slice xa (wds (10 ^ k)).length xc)
      have z2 := Wn.set2 hv h0 (fun d e => by cases e) (fun d e => by cases e) false (.slice xa (wds (10 ^ k)).length xc)
      have z3 : Below w.heap.size w ((wr.setCell ⟨w.heap.size, 0, none⟩ (.bool false)).setCell ⟨w.heap.size, 1, none⟩ (.slice xa (wds (10 ^ k)).length xc)) := below_set2i hb (by omega) _ _
      go_wp2
      refine bodyPost_ret (results_int rfl _ _ w.heap.size (.bool false) (.slice xa (wds (10 ^ k)).length xc) rfl z1.c0 z1.c1) rfl ?_
      exact ⟨_, rfl, z2, z3⟩
/-- A box of a fraction. -/
def RatB (w : World) (b : Nat) (x0 y0 x1 y1 : Value) : Prop := w.heap[b]? = some (.cells #[x0, y0, x1, y1] 104 (0, 0))
section
variable {w : World} {b : Nat} {x0 y0 x1 y1 : Value}
theorem RatB.c0 (h : RatB w b x0 y0 x1 y1) : w.cell? ⟨b, 0, none⟩ = some x0 := by unfold RatB at h; simp [World.cell?, h]
theorem RatB.c1 (h : RatB w b x0 y0 x1 y1) : w.cell? ⟨b, 1, none⟩ = some y0 := by unfold RatB at h; simp [World.cell?, h]
theorem RatB.c2 (h : RatB w b x0 y0 x1 y1) : w.cell? ⟨b, 2, none⟩ = some x1 := by unfold RatB at h; simp [World.cell?, h]
theorem RatB.c3 (h : RatB w b x0 y0 x1 y1) : w.cell? ⟨b, 3, none⟩ = some y1 := by unfold RatB at h; simp [World.cell?, h]
theorem RatB.fr (h : RatB w b x0 y0 x1 y1) (o : Nat) : w.frozen? ⟨b, o, none⟩ = false := by unfold RatB at h; simp [World.frozen?, h]
theorem RatB.lt (h : RatB w b x0 y0 x1 y1) : b < w.heap.size := (Array.getElem?_eq_some_iff.1 h).1
theorem RatB.below {w' : World} (h : RatB w b x0 y0 x1 y1) (hb : Below w.heap.size w w') : RatB w' b x0 y0 x1 y1 := by
  have hl := h.lt
  unfold RatB at *
  rw [hb.block b hl]
  exact h
theorem RatB.new (w : World) (x0 y0 x1 y1 : Value) : RatB (w.alloc (.cells #[x0, y0, x1, y1] 104)) w.heap.size x0 y0 x1 y1 := by
  show (w.heap.push _)[w.heap.size]? = _
  simp
theorem RatB.alloc (h : RatB w b x0 y0 x1 y1) (o : Obj) : RatB (w.alloc o) b x0 y0 x1 y1 := h.below ((Below.refl _ w).alloc (Nat.le_refl _) o)
end
theorem RatB.set4 {w : World} {b : Nat} {x0 y0 x1 y1 : Value} (h : RatB w b x0 y0 x1 y1) (u0 v0 u1 v1 : Value) : RatB ((((w.setCell ⟨b, 0, none⟩ u0).setCell ⟨b, 1, none⟩ v0).setCell ⟨b, 2, none⟩ u1).setCell ⟨b, 3, none⟩ v1) b u0 v0 u1 v1 := by
  have h1 := heap_setCell_same w b 0 _ _ u0 h
  have h2 := heap_setCell_same _ b 1 _ _ v0 h1
  have h3 := heap_setCell_same _ b 2 _ _ u1 h2
  exact heap_setCell_same _ b 3 _ _ v1 h3
theorem Sl.setR {w : World} {v : Value} {l : List Nat} (h : Sl w v (l.map wrd)) {b : Nat} {x0 y0 x1 y1 : Value} (hb : RatB w b x0 y0 x1 y1) (g0 : ∀ d, x0 ≠ wrd d) (g1 : ∀ d, y0 ≠ wrd d) (g2 : ∀ d, x1 ≠ wrd d) (g3 : ∀ d, y1 ≠ wrd d) (o : Nat) (u : Value) : Sl (w.setCell ⟨b, o, none⟩ u) v (l.map wrd) := by
  obtain ⟨a, cap, rfl, hr, hc, hl⟩ := h
  refine ⟨a, cap, rfl, fun hne => ?_, hc, hl⟩
  obtain ⟨b', off, rfl, hcell⟩ := hr hne
  refine ⟨b', off, rfl, fun i z hz => ?_⟩
  have h1 := hcell i z hz
  obtain ⟨d, -, rfl⟩ := List.mem_map.1 (List.mem_of_getElem? hz)
  rw [World.cell?_setCell_other _ _ _ _ (fun e => ?_)]
  · exact h1
  · have e2 := congrArg Addr.block e
    simp only at e2
    unfold RatB at hb
    subst e2
    simp only [World.cell?, hb] at h1
    match off + i, h1 with
    | 0, h1 => simp at h1; exact g0 d h1
    | 1, h1 => simp at h1; exact g1 d h1
    | 2, h1 => simp at h1; exact g2 d h1
    | 3, h1 => simp at h1; exact g3 d h1
    | j + 4, h1 => simp at h1
theorem Wn.set4 {w : World} {v : Value} {n b : Nat} {x0 y0 x1 y1 : Value} (h : Wn w v n) (hb : RatB w b x0 y0 x1 y1) (g0 : ∀ d, x0 ≠ wrd d) (g1 : ∀ d, y0 ≠ wrd d) (g2 : ∀ d, x1 ≠ wrd d) (g3 : ∀ d, y1 ≠ wrd d) (s0 s1 : Bool) {v0 v1 : Value} (k0 : ∀ d, v0 ≠ wrd d) : Wn ((((w.setCell ⟨b, 0, none⟩ (.bool s0)).setCell ⟨b, 1, none⟩ v0).setCell ⟨b, 2, none⟩ (.bool s1)).setCell ⟨b, 3, none⟩ v1) v n := by
  have q1 : RatB (w.setCell ⟨b, 0, none⟩ (.bool s0)) b (.bool s0) y0 x1 y1 := heap_setCell_same w b 0 _ _ (.bool s0) hb
  have q2 : RatB ((w.setCell ⟨b, 0, none⟩ (.bool s0)).setCell ⟨b, 1, none⟩ v0) b (.bool s0) v0 x1 y1 := heap_setCell_same _ b 1 _ _ v0 q1
  have q3 : RatB (((w.setCell ⟨b, 0, none⟩ (.bool s0)).setCell ⟨b, 1, none⟩ v0).setCell ⟨b, 2, none⟩ (.bool s1)) b (.bool s0) v0 (.bool s1) y1 := heap_setCell_same _ b 2 _ _ (.bool s1) q2
  exact Sl.setR (Sl.setR (Sl.setR (Sl.setR h hb g0 g1 g2 g3 0 (.bool s0)) q1 (fun d e => by cases e) g1 g2 g3 1 v0) q2 (fun d e => by cases e) k0 g2 g3 2 (.bool s1)) q3 (fun d e => by cases e) k0 (fun d e => by cases e) g3 3 v1
theorem below_set4 {B g : Nat} {w w' : World} (h : Below B w w') (hg : B ≤ g) (u0 v0 u1 v1 : Value) : Below B w ((((w'.setCell ⟨g, 0, none⟩ u0).setCell ⟨g, 1, none⟩ v0).setCell ⟨g, 2, none⟩ u1).setCell ⟨g, 3, none⟩ v1) := below_st (below_st (below_st (below_st h hg _ _) hg _ _) hg _ _) hg _ _
theorem results_rat {fn : Func} {p : Tmp} (h : fn.results = #[.cell p 104]) (tmps : Array Value) (w : World) (b : Nat) (x0 y0 x1 y1 : Value) (hp : tmps.getD p undef = .pointer (some ⟨b, 0, none⟩)) (hb : RatB w b x0 y0 x1 y1) : (results fn tmps).run Tryz.prog w = .ok (.agg #[x0, y0, x1, y1]) w := by
  have c0 := hb.c0
  have c1 := hb.c1
  have c2 := hb.c2
  have c3 := hb.c3
  simp only [Array.getD_eq_getD_getElem?] at hp ⊢
  simp [results, h, hp, go_sem, c0, c1, c2, c3, Sem.run_bind, Result.andThen]
/-- A fraction told. -/
def RetRat (w : World) (p q : Nat) (E : Ending) (w' : World) : Prop := ∃ v u, E = .returned (.agg #[.bool false, v, .bool false, u]) ∧ Wn w' v p ∧ Wn w' u q ∧ Below w.heap.size w w'
set_option maxRecDepth 100000 in
set_option maxHeartbeats 4000000 in
theorem rTen_neg (w : World) (va : Value) (a n : Nat) (ha : Wn w va a) (hn : n ≤ 20000) (hn0 : 0 < n) : Calls Tryz.prog 49 #[.agg #[.bool false, va], .int .i64 (-(n : Int))] w (RetRat w a (10 ^ n)) := by
  obtain ⟨aa, ca, rfl⟩ := ha.sl
  have b1 : Below w.heap.size w ((w.alloc (.cells #[.bool false, .slice aa (wds a).length ca] 85)).alloc (.cells #[.bool false, .slice none 0 0, .bool false, .slice none 0 0] 104)) := bla _ (bla _ (Below.refl _ _))
  have i0 := (IntB.new w (.bool false) (.slice aa (wds a).length ca)).alloc (.cells #[.bool false, .slice none 0 0, .bool false, .slice none 0 0] 104)
  have i1 := RatB.new (w.alloc (.cells #[.bool false, .slice aa (wds a).length ca] 85)) (.bool false) (.slice none 0 0) (.bool false) (.slice none 0 0)
  rw [World.size_alloc] at i1
  have g1 : (-(n : Int)) < 0 := by omega
  have g2 : IntKind.i64.wrap (n : Int) = (n : Int) := IntWalk.i64_in _ (by omega)
  have HT := hid fun w' => wTen_any w' n hn
  go_enter Tryz.func49, Tryz.ntmps49
  go_upto_region 2 with (fail)
  obtain ⟨w1, hw1⟩ : ∃ w1, w1 = ((w.alloc (.cells #[.bool false, .slice aa (wds a).length ca] 85)).alloc (.cells #[.bool false, .slice none 0 0, .bool false, .slice none 0 0] 104)) := ⟨_, rfl⟩
  rw [← hw1] at b1 i0 i1 ⊢
  have a0 := i0.c0
  have a1 := i0.c1
  clear hw1
  go_region_law (go_simp; go_at_call 78; (with_reducible refine (HT.out _).mono ?_); rintro E4 w4 ⟨u4, rfl, hu4, hb4⟩; obtain ⟨ya, yc, rfl⟩ := hu4.sl; have k1 := i0.below (w' := w4) (by (repeat (first | with_reducible exact Below.refl _ _ | with_reducible refine bla _ ?_ | with_reducible refine bld ?_ | with_reducible refine bldn ?_ _ | (with_reducible refine bl2 ?_ (by assumption))))); have a2 := k1.c0; have a3 := k1.c1; have k2 := i1.below (w' := w4) (by (repeat (first | with_reducible exact Below.refl _ _ | with_reducible refine bla _ ?_ | with_reducible refine bld ?_ | with_reducible refine bldn ?_ _ | (with_reducible refine bl2 ?_ (by assumption))))); have a4 := k2.c0; have a5 := k2.c1; have a6 := k2.c2; have a7 := k2.c3; have d0 := k2.fr 0; have d1 := k2.fr 1; have d2 := k2.fr 2; have d3 := k2.fr 3)
  all_goals
    have z1 := k2.set4 (.bool false) (.slice aa (wds a).length ca) (.bool false) (.slice ya (wds (10 ^ n)).length yc)
    have z2 := Wn.set4 (v1 := .slice ya (wds (10 ^ n)).length yc) hu4 k2 (fun d e => by cases e) (fun d e => by cases e) (fun d e => by cases e) (fun d e => by cases e) false false (v0 := .slice aa (wds a).length ca) (fun d e => by cases e)
    have z3 : Below w.heap.size w ((((w4.setCell ⟨w.heap.size + 1, 0, none⟩ (.bool false)).setCell ⟨w.heap.size + 1, 1, none⟩ (.slice aa (wds a).length ca)).setCell ⟨w.heap.size + 1, 2, none⟩ (.bool false)).setCell ⟨w.heap.size + 1, 3, none⟩ (.slice ya (wds (10 ^ n)).length yc)) := below_set4 (bl2 b1 (by (repeat (first | with_reducible exact Below.refl _ _ | with_reducible refine bla _ ?_ | with_reducible refine bld ?_ | with_reducible refine bldn ?_ _ | (with_reducible refine bl2 ?_ (by assumption)))))) (by omega) _ _ _ _
    clear a0 a1 a2 a3 a4 a5 a6 a7 d0 d1 d2 d3
    go_wp2
    refine bodyPost_ret (results_rat rfl _ _ (w.heap.size + 1) (.bool false) (.slice aa (wds a).length ca) (.bool false) (.slice ya (wds (10 ^ n)).length yc) rfl z1) rfl ?_
    exact ⟨_, _, rfl, ha.below z3, z2, z3⟩
set_option maxRecDepth 100000 in
set_option maxHeartbeats 4000000 in
theorem rTen_pos (w : World) (va : Value) (a n : Nat) (ha : Wn w va a) (hal : (wds a).length ≤ 1000) (hn : n ≤ 20000) : Calls Tryz.prog 49 #[.agg #[.bool false, va], .int .i64 (n : Int)] w (RetRat w (a * 10 ^ n) 1) := by
  obtain ⟨aa, ca, rfl⟩ := ha.sl
  have b1 : Below w.heap.size w ((w.alloc (.cells #[.bool false, .slice aa (wds a).length ca] 85)).alloc (.cells #[.bool false, .slice none 0 0, .bool false, .slice none 0 0] 104)) := bla _ (bla _ (Below.refl _ _))
  have i0 := (IntB.new w (.bool false) (.slice aa (wds a).length ca)).alloc (.cells #[.bool false, .slice none 0 0, .bool false, .slice none 0 0] 104)
  have i1 := RatB.new (w.alloc (.cells #[.bool false, .slice aa (wds a).length ca] 85)) (.bool false) (.slice none 0 0) (.bool false) (.slice none 0 0)
  rw [World.size_alloc] at i1
  have g1 : ¬ (n : Int) < 0 := by omega
  have HT := hid fun w' => wTen_any w' n hn
  have HO := hid Of_1
  go_enter Tryz.func49, Tryz.ntmps49
  go_upto_region 3 with (fail)
  obtain ⟨w1, hw1⟩ : ∃ w1, w1 = ((w.alloc (.cells #[.bool false, .slice aa (wds a).length ca] 85)).alloc (.cells #[.bool false, .slice none 0 0, .bool false, .slice none 0 0] 104)) := ⟨_, rfl⟩
  rw [← hw1] at b1 i0 i1 ⊢
  have a0 := i0.c0
  have a1 := i0.c1
  have HM := hid fun (w' : World) (u : Value) (hu : Wn w' u (10 ^ n)) (h : Below w1.heap.size w1 w') => wMul_any w' (.slice aa (wds a).length ca) u a (10 ^ n) (ha.below (bl2 b1 h)) hu (by omega) (by have := ten_len n; omega)
  clear hw1
  go_region_law (go_simp; first
    | (go_at_call 78; (with_reducible refine (HT.out _).mono ?_); rintro E4 w4 ⟨u4, rfl, hu4, hb4⟩; have k1 := i0.below (w' := w4) (by (repeat (first | with_reducible exact Below.refl _ _ | with_reducible refine bla _ ?_ | with_reducible refine bld ?_ | with_reducible refine bldn ?_ _ | (with_reducible refine bl2 ?_ (by assumption))))); have a2 := k1.c0; have a3 := k1.c1; have k2 := i1.below (w' := w4) (by (repeat (first | with_reducible exact Below.refl _ _ | with_reducible refine bla _ ?_ | with_reducible refine bld ?_ | with_reducible refine bldn ?_ _ | (with_reducible refine bl2 ?_ (by assumption))))); have a4 := k2.c0; have a5 := k2.c1; have a6 := k2.c2; have a7 := k2.c3; have d0 := k2.fr 0; have d1 := k2.fr 1; have d2 := k2.fr 2; have d3 := k2.fr 3)
    | (go_at_call 50; (with_reducible refine (HO.out _).mono ?_); rintro E5 w5 ⟨u5, rfl, hu5, hb5⟩; obtain ⟨ya, yc, rfl⟩ := hu5.sl; have k3 := i0.below (w' := w5) (by (repeat (first | with_reducible exact Below.refl _ _ | with_reducible refine bla _ ?_ | with_reducible refine bld ?_ | with_reducible refine bldn ?_ _ | (with_reducible refine bl2 ?_ (by assumption))))); have e2 := k3.c0; have e3 := k3.c1; have k4 := i1.below (w' := w5) (by (repeat (first | with_reducible exact Below.refl _ _ | with_reducible refine bla _ ?_ | with_reducible refine bld ?_ | with_reducible refine bldn ?_ _ | (with_reducible refine bl2 ?_ (by assumption))))); have e4 := k4.c0; have e5 := k4.c1; have e6 := k4.c2; have e7 := k4.c3; have f0 := k4.fr 0; have f1 := k4.fr 1; have f2 := k4.fr 2; have f3 := k4.fr 3)
    | (go_at_call 79; (with_reducible refine (HM.out _ _ (hu4.below (by (repeat (first | with_reducible exact Below.refl _ _ | with_reducible refine bla _ ?_ | with_reducible refine bld ?_ | with_reducible refine bldn ?_ _ | (with_reducible refine bl2 ?_ (by assumption)))))) (by (repeat (first | with_reducible exact Below.refl _ _ | with_reducible refine bla _ ?_ | with_reducible refine bld ?_ | with_reducible refine bldn ?_ _ | (with_reducible refine bl2 ?_ (by assumption)))))).mono ?_); rintro E6 w6 ⟨u6, rfl, hu6, hb6⟩; obtain ⟨za, zc, rfl⟩ := hu6.sl; have k5 := i0.below (w' := w6) (by (repeat (first | with_reducible exact Below.refl _ _ | with_reducible refine bla _ ?_ | with_reducible refine bld ?_ | with_reducible refine bldn ?_ _ | (with_reducible refine bl2 ?_ (by assumption))))); have r2 := k5.c0; have r3 := k5.c1; have k6 := i1.below (w' := w6) (by (repeat (first | with_reducible exact Below.refl _ _ | with_reducible refine bla _ ?_ | with_reducible refine bld ?_ | with_reducible refine bldn ?_ _ | (with_reducible refine bl2 ?_ (by assumption))))); have r4 := k6.c0; have r5 := k6.c1; have r6 := k6.c2; have r7 := k6.c3; have s0 := k6.fr 0; have s1 := k6.fr 1; have s2 := k6.fr 2; have s3 := k6.fr 3))
  all_goals
    clear a0 a1 a2 a3 a4 a5 a6 a7 d0 d1 d2 d3 e2 e3 e4 e5 e6 e7 f0 f1 f2 f3 r2 r3 r4 r5 r6 r7 s0 s1 s2 s3
    go_wp2
    refine bodyPost_ret (results_rat rfl _ _ (w.heap.size + 1) _ _ _ _ rfl (RatB.set4 (by first | exact k4 | exact k6) _ _ _ _)) rfl ?_
    exact ⟨_, _, rfl, Wn.set4 (hu6.below (by (repeat (first | with_reducible exact Below.refl _ _ | with_reducible refine bla _ ?_ | with_reducible refine bld ?_ | with_reducible refine bldn ?_ _ | (with_reducible refine bl2 ?_ (by assumption)))))) (by first | exact k4 | exact k6) (fun d e => by cases e) (fun d e => by cases e) (fun d e => by cases e) (fun d e => by cases e) false false (fun d e => by cases e), Wn.set4 (hu5.below (by (repeat (first | with_reducible exact Below.refl _ _ | with_reducible refine bla _ ?_ | with_reducible refine bld ?_ | with_reducible refine bldn ?_ _ | (with_reducible refine bl2 ?_ (by assumption)))))) (by first | exact k4 | exact k6) (fun d e => by cases e) (fun d e => by cases e) (fun d e => by cases e) (fun d e => by cases e) false false (fun d e => by cases e), below_set4 (bl2 b1 (by (repeat (first | with_reducible exact Below.refl _ _ | with_reducible refine bla _ ?_ | with_reducible refine bld ?_ | with_reducible refine bldn ?_ _ | (with_reducible refine bl2 ?_ (by assumption)))))) (by omega) _ _ _ _⟩
/-- The fraction of a whole number times a power of ten. -/
def tenP (a : Nat) (k : Int) : Nat := if k < 0 then a else a * 10 ^ k.toNat
def tenQ (k : Int) : Nat := if k < 0 then 10 ^ (-k).toNat else 1
theorem rTen_any (w : World) (va : Value) (a : Nat) (k : Int) (ha : Wn w va a) (hal : (wds a).length ≤ 1000) (h1 : -20000 ≤ k) (h2 : k ≤ 20000) : Calls Tryz.prog 49 #[.agg #[.bool false, va], .int .i64 k] w (RetRat w (tenP a k) (tenQ k)) := by
  unfold tenP tenQ
  by_cases hk : k < 0
  · rw [if_pos hk, if_pos hk]
    obtain ⟨n, rfl⟩ : ∃ n : Nat, k = -(n : Int) := ⟨(-k).toNat, by omega⟩
    rw [show (-(-(n : Int))).toNat = n by omega]
    exact rTen_neg w va a n ha (by omega) (by omega)
  · rw [if_neg hk, if_neg hk]
    obtain ⟨n, rfl⟩ : ∃ n : Nat, k = (n : Int) := ⟨k.toNat, by omega⟩
    rw [Int.toNat_natCast]
    exact rTen_pos w va a n ha hal (by omega)
end Go.Proofs.YtfalbdlfopfgcaaGreatDoor

