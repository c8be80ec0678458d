/- The kit's functions on solutions: lent with marks behind; kept? Conditions: lengths as the reach has them. -/
import Derived.Test.YtfnbohpfcdddgaaNmAM
import Derived.Test.YtfnbohpfcdddgaaTagM
import Derived.Test.YtfnbohpfcdddgaaRs
import Derived.Deep.RegionHeld3
import Derived.Deep.CutRange
namespace Go.Proofs.Ytfnbohpfcdddgaa
open Go.RowKit

theorem results_sol {fn : Func} {p q : Tmp} (h : fn.results = #[.cell p 46, .cell q 47]) (tmps : Array Value) (w : World) (b d : Nat) (x y z u v : Value) (hp : tmps.getD p undef = .pointer (some ⟨b, 0, none⟩)) (hq : tmps.getD q undef = .pointer (some ⟨d, 0, none⟩))
    (c0 : w.cell? ⟨b, 0, none⟩ = some x) (c1 : w.cell? ⟨b, 1, none⟩ = some y) (c2 : w.cell? ⟨b, 2, none⟩ = some z) (d0 : w.cell? ⟨d, 0, none⟩ = some u) (d1 : w.cell? ⟨d, 1, none⟩ = some v) :
    (results fn tmps).run Try.prog w = .ok (.tuple #[.agg #[x, y, z], .agg #[u, v]]) w := by
  simp only [Array.getD_eq_getD_getElem?] at hp hq ⊢
  simp [results, h, hp, hq, go_sem, c0, c1, c2, d0, d1, Sem.run_bind, Result.andThen]
theorem blk_keep {w : World} (o : Obj) {k : Nat} {c : Obj} (h : w.heap[k]? = some c) : (w.alloc o).heap[k]? = some c := by
  rw [((Below.refl w.heap.size w).alloc (Nat.le_refl _) o).block k (Array.getElem?_eq_some_iff.1 h).1]
  exact h
theorem blk_at2 (w : World) (o : Obj) (cs : Array Value) (e : Nat) : ((w.alloc o).alloc (.cells cs e)).heap[w.heap.size + 1]? = some (.cells cs e (0, 0)) := by
  have h := blk_new (w.alloc o) (.cells cs e)
  rw [show (w.alloc o).heap.size = w.heap.size + 1 by simp] at h
  exact h
theorem blk_at3 (w : World) (o o' : Obj) (cs : Array Value) (e : Nat) : (((w.alloc o).alloc o').alloc (.cells cs e)).heap[w.heap.size + 1 + 1]? = some (.cells cs e (0, 0)) := by
  have h := blk_at2 (w.alloc o) o' cs e
  rw [show (w.alloc o).heap.size = w.heap.size + 1 by simp] at h
  exact h
/-- A row of numbers stays where a block of another type is stored into. -/
theorem owns_set2 {w : World} {B b e e' : Nat} {cs : Array Value} {v x y : Value} {n : Nat} {xs : List Value} (h : w.ownsRow B e 1 v n xs) (hA : w.heap[b]? = some (.cells cs e' (0, 0))) (hne : e ≠ e') : ((w.setCell ⟨b, 0, none⟩ x).setCell ⟨b, 1, none⟩ y).ownsRow B e 1 v n xs := by
  have hg : w.grownBy ((w.setCell ⟨b, 0, none⟩ x).setCell ⟨b, 1, none⟩ y) (some b) := ⟨rfl, rfl, rfl, by simp [World.setCell], fun k _ hi => by
    have hkb : b ≠ k := fun e => hi (by rw [e])
    simp [World.setCell, Array.getElem?_modify, hkb]⟩
  refine h.kept hg ?_
  rcases h.2 with ⟨rfl, _⟩ | ⟨g, cap, cur, rfl, _, hgg, _⟩
  · exact .inl rfl
  · refine .inr fun e2 => ?_
    cases e2
    rw [hA] at hgg
    cases hgg
    exact hne rfl
theorem owns_setN {w : World} {B b j e : Nat} {v x : Value} {n : Nat} {xs : List Value} (h : w.ownsRow B e 1 v n xs) (hb : b < B) : (w.setCell ⟨b, j, none⟩ x).ownsRow B e 1 v n xs := by
  have hg : w.grownBy (w.setCell ⟨b, j, none⟩ x) (some b) := ⟨rfl, rfl, rfl, by simp [World.setCell], fun k _ hi => by
    have hkb : b ≠ k := fun e => hi (by rw [e])
    simp [World.setCell, Array.getElem?_modify, hkb]⟩
  refine h.kept hg (.inr fun e2 => ?_)
  have := (h.lt _ e2).1
  omega
theorem sol_set {w : World} {W t t' : Nat} {x0 x1 x2 y0 y1 : Value} (h1 : w.heap[W + 1]? = some (.cells #[x0, x1, x2] t (0, 0))) (h2 : w.heap[W + 1 + 1]? = some (.cells #[y0, y1] t' (0, 0))) (a b c d e : Value) :
    (((((w.setCell ⟨W + 1, 0, none⟩ a).setCell ⟨W + 1, 1, none⟩ b).setCell ⟨W + 1, 2, none⟩ c).setCell ⟨W + 1 + 1, 0, none⟩ d).setCell ⟨W + 1 + 1, 1, none⟩ e).heap[W + 1]? = some (.cells #[a, b, c] t (0, 0)) ∧ (((((w.setCell ⟨W + 1, 0, none⟩ a).setCell ⟨W + 1, 1, none⟩ b).setCell ⟨W + 1, 2, none⟩ c).setCell ⟨W + 1 + 1, 0, none⟩ d).setCell ⟨W + 1 + 1, 1, none⟩ e).heap[W + 1 + 1]? = some (.cells #[d, e] t' (0, 0)) := by
  constructor
  · simp [World.setCell, Array.getElem?_modify, h1]
  · simp [World.setCell, Array.getElem?_modify, h2]
/-- The array of two lists. -/
def A2At (w : World) (b : Nat) (u v : Value) : Prop := w.heap[b]? = some (.cells #[u, v] 47 (0, 0))
theorem A2At.c0 {w : World} {b : Nat} {u v : Value} (h : A2At w b u v) : w.cell? ⟨b, 0, none⟩ = some u := by unfold A2At at h; simp [World.cell?, h]
theorem A2At.c1 {w : World} {b : Nat} {u v : Value} (h : A2At w b u v) : w.cell? ⟨b, 1, none⟩ = some v := by unfold A2At at h; simp [World.cell?, h]
theorem A2At.fr {w : World} {b : Nat} {u v : Value} (h : A2At w b u v) (j : Nat) : w.frozen? ⟨b, j, none⟩ = false := by unfold A2At at h; simp [World.frozen?, h]
theorem A2At.lt {w : World} {b : Nat} {u v : Value} (h : A2At w b u v) : b < w.heap.size := (Array.getElem?_eq_some_iff.1 h).1
theorem A2At.below {w w' : World} {b : Nat} {u v : Value} (h : A2At w b u v) (hb : Below w.heap.size w w') : A2At w' b u v := (hb.block b h.lt).trans h
theorem A2At.new (w : World) (u v : Value) : A2At (w.alloc (.cells #[u, v] 47)) w.heap.size u v := blk_new _ _
theorem A2At.set2 {w : World} {b : Nat} {u v : Value} (h : A2At w b u v) (u' v' : Value) : A2At ((w.setCell ⟨b, 0, none⟩ u').setCell ⟨b, 1, none⟩ v') b u' v' := by
  unfold A2At at *
  simp [World.setCell, Array.getElem?_modify, h]
theorem cell_at {w : World} {b e : Nat} {cs : Array Value} {j : Nat} {x : Value} (h : w.heap[b]? = some (.cells cs e (0, 0))) (hj : cs[j]? = some x) : w.cell? ⟨b, j, none⟩ = some x := by simp [World.cell?, h, hj]
theorem len6 {w : World} {B e : Nat} {v : Value} {l : List Z} {xs : List Value} (h : w.ownsRow B e 1 v (l.length + 6) xs) : w.ownsRow B e 1 v (lent l).length xs := by rw [lent_length]; exact h
/-- The blocks of two slices differ. -/
def ApV (u v : Value) : Prop := ∀ g, u.ownBlock = some g → v.ownBlock = some g → False
def RetLs (w : World) (o : Nat) (xs ys : List Z) (E : Ending) (w' : World) : Prop := ∃ a c b d, ApV (.slice a (xs.length + 6) c) (.slice b (ys.length + 6) d) ∧ E = .returned (.tuple #[.agg #[.float .f64 o, .slice a xs.length c, .slice b ys.length d], .agg #[.slice a (xs.length + 6) c, .slice b (ys.length + 6) d]]) ∧ w'.ownsRow w.heap.size 63 1 (.slice a (xs.length + 6) c) (lent xs).length ((lent xs).map C) ∧ w'.ownsRow w.heap.size 63 1 (.slice b (ys.length + 6) d) (lent ys).length ((lent ys).map C) ∧ Below w.heap.size w w'
set_option maxRecDepth 100000 in
set_option maxHeartbeats 4000000 in
theorem LentSolution_any (o : Nat) (xs ys : List Z) (u v : Value) (w : World) (hu : Sl w u (xs.map C)) (hv : Sl w v (ys.map C)) (hn : (xs.length + 6) * 16 ≤ 140737488355328) (hm : (ys.length + 6) * 16 ≤ 140737488355328) :
    Calls Try.prog 10 #[.agg #[.float .f64 o, u, v]] w (RetLs w o xs ys) := by
  obtain ⟨ua, uc, rfl, -⟩ := hu.cz
  obtain ⟨va, vc, rfl, -⟩ := hv.cz
  go_enter Try.func10, Try.ntmps10
  have hB := hid (And.intro (Below.refl w.heap.size w) trivial)
  go_upto_region 1 with (fail)
  obtain ⟨w3, hw3⟩ : ∃ w3, w3 = (((w.alloc (.cells #[.float .f64 o, .slice ua xs.length uc, .slice va ys.length vc] 46)).alloc (.cells #[.float .f64 0, .slice none 0 0, .slice none 0 0] 46)).alloc (.cells #[.slice none 0 0, .slice none 0 0] 47)) := ⟨_, rfl⟩
  have b3 : Below w.heap.size w w3 := by
    rw [hw3]
    exact (((Below.refl _ w).alloc (Nat.le_refl _) _).alloc (by simp) _).alloc (by simp; omega) _
  have t0 : w3.heap[w.heap.size]? = some (.cells #[.float .f64 o, .slice ua xs.length uc, .slice va ys.length vc] 46 (0, 0)) := by rw [hw3]; exact blk_keep _ (blk_keep _ (blk_new _ _))
  have t1 : w3.heap[w.heap.size + 1]? = some (.cells #[.float .f64 0, .slice none 0 0, .slice none 0 0] 46 (0, 0)) := by rw [hw3]; exact blk_keep _ (blk_at2 _ _ _ _)
  have t2 : w3.heap[w.heap.size + 1 + 1]? = some (.cells #[.slice none 0 0, .slice none 0 0] 47 (0, 0)) := by rw [hw3]; exact blk_at3 _ _ _ _ _
  have hz : w3.heap.size = w.heap.size + 3 := by rw [hw3]; simp
  rw [← hw3]
  clear hw3
  have k0 : w3.cell? ⟨w.heap.size, 1, none⟩ = some (.slice ua xs.length uc) := by simp [World.cell?, t0]
  have k1 : w3.cell? ⟨w.heap.size, 2, none⟩ = some (.slice va ys.length vc) := by simp [World.cell?, t0]
  have HLX := hid fun w' (h : Below w3.heap.size w3 w') => LentNumbers_any xs _ w' hn (hu.below (b3.trans (h.mono (by omega))))
  have HLY := hid fun w' (h : Below w3.heap.size w3 w') => LentNumbers_any ys _ w' hm (hv.below (b3.trans (h.mono (by omega))))
  clear hu hv hB
  have hlt : w.heap.size < w3.heap.size := by omega
  have z0 : w.heap.size ≠ w3.heap.size := by omega
  have z1 := z0.symm
  have hz1 : w3.heap.size ≤ w.heap.size + 3 := by omega
  have hz2 : w.heap.size + 3 ≤ w3.heap.size := by omega
  clear hz
  have d0 : Below w3.heap.size w3 w3.drew := bld (Below.refl _ _)
  have d1 : Below w3.heap.size w3 (w3.alloc (.cells #[.slice none 0 0, .slice none 0 0] 47)).drew := bld (bla _ (Below.refl _ _))
  have g1 : A2At (w3.alloc (.cells #[.slice none 0 0, .slice none 0 0] 47)).drew w3.heap.size (.slice none 0 0) (.slice none 0 0) := A2At.new w3 (.slice none 0 0) (.slice none 0 0)
  go_cut [4] from 5 to 11 (fun t wx => ∃ k a c b d, ApV (.slice a (xs.length + 6) c) (.slice b (ys.length + 6) d) ∧ t = .pointer (some ⟨k, 0, none⟩) ∧ w3.heap.size ≤ k ∧ wx.heap[k]? = some (.cells #[.slice a (xs.length + 6) c, .slice b (ys.length + 6) d] 47 (0, 0)) ∧ xs.length + 6 ≤ c ∧ ys.length + 6 ≤ d ∧ wx.ownsRow w3.heap.size 63 1 (.slice a (xs.length + 6) c) (lent xs).length ((lent xs).map C) ∧ wx.ownsRow w3.heap.size 63 1 (.slice b (ys.length + 6) d) (lent ys).length ((lent ys).map C) ∧ Below w3.heap.size w3 wx)
  case first =>
    go_region_held3 (fun w' => w'.cell? ⟨w.heap.size, 1, none⟩ = some (.slice ua xs.length uc) ∧ w'.cell? ⟨w.heap.size, 2, none⟩ = some (.slice va ys.length vc)) (first | exact ⟨k0, k1⟩ | exact ⟨k2, k3⟩ | exact ⟨k4, k5⟩ | go_keep) (first
      | (go_at_call 13; (with_reducible refine (HLX.out _ d0).mono ?_); rintro E2 w2 ⟨v2, rfl, own2, hb2⟩; have e2 := bl2 d0 hb2; have z2 : w.heap.size ≠ w2.heap.size := (by have := e2.size; omega); have z3 := z2.symm; have k2 := (e2.cell (p := ⟨w.heap.size, 1, none⟩) hlt).trans k0; have k3 := (e2.cell (p := ⟨w.heap.size, 2, none⟩) hlt).trans k1; rw [List.length_map, lent_length] at own2; obtain ⟨a2, c2, rfl, hc2⟩ := own_cap own2; have g2 := A2At.new w2 (.slice none 0 0) (.slice none 0 0); have d2 : Below w3.heap.size w3 (w2.alloc (.cells #[.slice none 0 0, .slice none 0 0] 47)) := bla _ e2)
      | (go_at_call 13; (with_reducible refine (HLX.out _ d1).mono ?_); rintro E2 w2 ⟨v2, rfl, own2, hb2⟩; have e2 := bl2 d1 hb2; have z2 : w.heap.size ≠ w2.heap.size := (by have := e2.size; omega); have z3 := z2.symm; have k2 := (e2.cell (p := ⟨w.heap.size, 1, none⟩) hlt).trans k0; have k3 := (e2.cell (p := ⟨w.heap.size, 2, none⟩) hlt).trans k1; rw [List.length_map, lent_length] at own2; obtain ⟨a2, c2, rfl, hc2⟩ := own_cap own2; have g3 := g1.below hb2)
      | (go_at_call 13; (with_reducible refine (HLY.out _ d2).mono ?_); rintro E3 w4 ⟨v3, rfl, own3, hb3⟩; have e3 := bl2 d2 hb3; have g4 := g2.below hb3; have o4 := owns_below (own2.alloc _) hb3; have q0 := g4.c0; have q1 := g4.c1; have q2 := g4.fr 0; have q3 := g4.fr 1; have z4 : w.heap.size ≠ w4.heap.size := (by have := e3.size; omega); have z5 := z4.symm; have k4 := (e3.cell (p := ⟨w.heap.size, 1, none⟩) hlt).trans k0; have k5 := (e3.cell (p := ⟨w.heap.size, 2, none⟩) hlt).trans k1; rw [List.length_map, lent_length] at own3; obtain ⟨a3, c3, rfl, hc3⟩ := own_cap own3)
      | (go_at_call 13; (with_reducible refine (HLY.out _ e2).mono ?_); rintro E3 w4 ⟨v3, rfl, own3, hb3⟩; have e3 := bl2 e2 hb3; have o4 := owns_below own2 hb3; (first | (have g4 := g3.below hb3; have q0 := g4.c0; have q1 := g4.c1; have q2 := g4.fr 0; have q3 := g4.fr 1; clear g3) | skip); have z4 : w.heap.size ≠ w4.heap.size := (by have := e3.size; omega); have z5 := z4.symm; have k4 := (e3.cell (p := ⟨w.heap.size, 1, none⟩) hlt).trans k0; have k5 := (e3.cell (p := ⟨w.heap.size, 2, none⟩) hlt).trans k1; rw [List.length_map, lent_length] at own3; obtain ⟨a3, c3, rfl, hc3⟩ := own_cap own3))
    all_goals
      go_wp2
      go_meet
    · exact ⟨_, a2, c2, a3, c3, fun g h1 h2 => Nat.lt_irrefl _ (Nat.lt_of_lt_of_le (own2.lt g h1).2 (own3.lt g h2).1), rfl, e3.size, A2At.new _ _ _, hc2, hc3, (len6 o4).alloc _, (own_mono (len6 own3) e2.size).alloc _, bla _ e3⟩
    · exact ⟨_, a2, c2, a3, c3, fun g h1 h2 => Nat.lt_irrefl _ (Nat.lt_of_lt_of_le (own2.lt g h1).2 (Nat.le_trans (bla _ (Below.refl _ w2)).size (own3.lt g h2).1)), rfl, e2.size, g4.set2 _ _, hc2, hc3, owns_set2 (own_mono (len6 o4) d0.size) g4 (by decide), owns_set2 (own_mono (len6 own3) d2.size) g4 (by decide), bls (bls e3 e2.size) e2.size⟩
    · exact ⟨_, a2, c2, a3, c3, fun g h1 h2 => Nat.lt_irrefl _ (Nat.lt_of_lt_of_le (own2.lt g h1).2 (own3.lt g h2).1), rfl, Nat.le_refl _, g4.set2 _ _, hc2, hc3, owns_set2 (own_mono (len6 o4) d1.size) g4 (by decide), owns_set2 (own_mono (len6 own3) e2.size) g4 (by decide), bls (bls e3 (Nat.le_refl _)) (Nat.le_refl _)⟩
  obtain ⟨k, a, c, b, d, hap, rfl, hk, G, hc, hd, O1, O2, bw⟩ := hcut
  have T0 := (bw.block w.heap.size hlt).trans t0
  have T1 := (bw.block (w.heap.size + 1) (by omega)).trans t1
  have T2 := (bw.block (w.heap.size + 1 + 1) (by omega)).trans t2
  have K0 : wc.cell? ⟨w.heap.size, 1, none⟩ = some (.slice ua xs.length uc) := by simp [World.cell?, T0]
  have K1 : wc.cell? ⟨w.heap.size, 2, none⟩ = some (.slice va ys.length vc) := by simp [World.cell?, T0]
  have K2 : wc.cell? ⟨w.heap.size, 0, none⟩ = some (.float .f64 o) := by simp [World.cell?, T0]
  have K3 : wc.frozen? ⟨w.heap.size, 1, none⟩ = false := by simp [World.frozen?, T0]
  have K4 : wc.frozen? ⟨w.heap.size, 2, none⟩ = false := by simp [World.frozen?, T0]
  have G0 : A2At wc k _ _ := G
  have G1 := G0.c0
  have G2 := G0.c1
  have hkw : k ≠ w.heap.size := by omega
  have hkw2 := hkw.symm
  clear HLX HLY d0 d1 g1 k0 k1 t0 t1 t2 z0 z1
  go_upto_region 4 with (fail)
  obtain ⟨w5, hw5⟩ : ∃ w5, w5 = ((wc.setCell ⟨w.heap.size, 1, none⟩ (.slice a xs.length c)).setCell ⟨w.heap.size, 2, none⟩ (.slice b ys.length d)) := ⟨_, rfl⟩
  have b5 : Below w.heap.size w w5 := by rw [hw5]; exact bls (bls (b3.trans (bw.mono (by omega))) (Nat.le_refl _)) (Nat.le_refl _)
  have hne1 : w.heap.size ≠ w.heap.size + 1 := by omega
  have hne2 : w.heap.size ≠ w.heap.size + 1 + 1 := by omega
  have S0 : w5.heap[w.heap.size]? = some (.cells #[.float .f64 o, .slice a xs.length c, .slice b ys.length d] 46 (0, 0)) := by rw [hw5]; simp [World.setCell, Array.getElem?_modify, T0]
  have S1 : w5.heap[w.heap.size + 1]? = some (.cells #[.float .f64 0, .slice none 0 0, .slice none 0 0] 46 (0, 0)) := by rw [hw5]; simp [World.setCell, Array.getElem?_modify, T1]
  have S2 : w5.heap[w.heap.size + 1 + 1]? = some (.cells #[.slice none 0 0, .slice none 0 0] 47 (0, 0)) := by rw [hw5]; simp [World.setCell, Array.getElem?_modify, T2, hne2]
  have S3 : w5.heap[k]? = some (.cells #[.slice a (xs.length + 6) c, .slice b (ys.length + 6) d] 47 (0, 0)) := by rw [hw5]; simp [World.setCell, Array.getElem?_modify, G, hkw2]
  have P1 : w5.ownsRow w3.heap.size 63 1 (.slice a (xs.length + 6) c) (lent xs).length ((lent xs).map C) := by rw [hw5]; exact owns_setN (owns_setN O1 hlt) hlt
  have P2 : w5.ownsRow w3.heap.size 63 1 (.slice b (ys.length + 6) d) (lent ys).length ((lent ys).map C) := by rw [hw5]; exact owns_setN (owns_setN O2 hlt) hlt
  rw [← hw5]
  clear hw5 T0 T1 T2 K0 K1 K2 K3 K4 G0 G1 G2 G O1 O2 bw b3
  have e0 : w5.cell? ⟨w.heap.size, 0, none⟩ = some (.float .f64 o) := by simp [World.cell?, S0]
  have e1 : w5.cell? ⟨w.heap.size, 1, none⟩ = some (.slice a xs.length c) := by simp [World.cell?, S0]
  have e2 : w5.cell? ⟨w.heap.size, 2, none⟩ = some (.slice b ys.length d) := by simp [World.cell?, S0]
  have e3 : w5.cell? ⟨k, 0, none⟩ = some (.slice a (xs.length + 6) c) := by simp [World.cell?, S3]
  have e4 : w5.cell? ⟨k, 1, none⟩ = some (.slice b (ys.length + 6) d) := by simp [World.cell?, S3]
  have f0 : w5.cell? ⟨w.heap.size + 1, 0, none⟩ = some (.float .f64 0) := by simp [World.cell?, S1]
  have f1 : w5.cell? ⟨w.heap.size + 1, 1, none⟩ = some (.slice none 0 0) := by simp [World.cell?, S1]
  have f2 : w5.cell? ⟨w.heap.size + 1, 2, none⟩ = some (.slice none 0 0) := by simp [World.cell?, S1]
  have f3 : w5.cell? ⟨w.heap.size + 1 + 1, 0, none⟩ = some (.slice none 0 0) := by simp [World.cell?, S2]
  have f4 : w5.cell? ⟨w.heap.size + 1 + 1, 1, none⟩ = some (.slice none 0 0) := by simp [World.cell?, S2]
  have r0 : w5.frozen? ⟨w.heap.size + 1, 0, none⟩ = false := by simp [World.frozen?, S1]
  have r1 : w5.frozen? ⟨w.heap.size + 1, 1, none⟩ = false := by simp [World.frozen?, S1]
  have r2 : w5.frozen? ⟨w.heap.size + 1, 2, none⟩ = false := by simp [World.frozen?, S1]
  have r3 : w5.frozen? ⟨w.heap.size + 1 + 1, 0, none⟩ = false := by simp [World.frozen?, S2]
  have r4 : w5.frozen? ⟨w.heap.size + 1 + 1, 1, none⟩ = false := by simp [World.frozen?, S2]
  have hk1 : k ≠ w.heap.size + 1 := by omega
  have hk2 : k ≠ w.heap.size + 1 + 1 := by omega
  have hk3 := hk1.symm
  have hk4 := hk2.symm
  have h3 : w.heap.size + 1 < w3.heap.size := by omega
  have h4 : w.heap.size + 1 + 1 < w3.heap.size := by omega
  have h5 : w.heap.size ≤ w3.heap.size := by omega
  have HS := hid (And.intro (And.intro S1 S2) (And.intro (And.intro P1 P2) b5))
  clear S0 S1 S2 S3 P1 P2 b5 hkw hkw2 hc hd hz1 hz2 hlt hk hne1 hne2
  go_region_with (fail)
  all_goals
    clear e0 e1 e2 e3 e4 f0 f1 f2 f3 f4 r0 r1 r2 r3 r4
    obtain ⟨⟨S1, S2⟩, ⟨P1, P2⟩, b5⟩ := HS.out
    obtain ⟨Q1, Q2⟩ := sol_set S1 S2 (.float .f64 o) (.slice a xs.length c) (.slice b ys.length d) (.slice a (xs.length + 6) c) (.slice b (ys.length + 6) d)
    have P3 := own_mono (owns_setN (x := .slice b (ys.length + 6) d) (j := 1) (owns_setN (x := .slice a (xs.length + 6) c) (j := 0) (owns_setN (x := .slice b ys.length d) (j := 2) (owns_setN (x := .slice a xs.length c) (j := 1) (owns_setN (x := .float .f64 o) (j := 0) P1 h3) h3) h3) h4) h4) h5
    have P4 := own_mono (owns_setN (x := .slice b (ys.length + 6) d) (j := 1) (owns_setN (x := .slice a (xs.length + 6) c) (j := 0) (owns_setN (x := .slice b ys.length d) (j := 2) (owns_setN (x := .slice a xs.length c) (j := 1) (owns_setN (x := .float .f64 o) (j := 0) P2 h3) h3) h3) h4) h4) h5
    have b6 : Below w.heap.size w _ := bls (p := ⟨w.heap.size + 1 + 1, 1, none⟩) (v := .slice b (ys.length + 6) d) (bls (p := ⟨w.heap.size + 1 + 1, 0, none⟩) (v := .slice a (xs.length + 6) c) (bls (p := ⟨w.heap.size + 1, 2, none⟩) (v := .slice b ys.length d) (bls (p := ⟨w.heap.size + 1, 1, none⟩) (v := .slice a xs.length c) (bls (p := ⟨w.heap.size + 1, 0, none⟩) (v := .float .f64 o) b5 (by simp)) (by simp)) (by simp)) (by simp; omega)) (by simp; omega)
    clear S1 S2 P1 P2 b5 HS
    obtain ⟨wF, hF⟩ : ∃ wF, wF = (((((w5.setCell ⟨w.heap.size + 1, 0, none⟩ (.float .f64 o)).setCell ⟨w.heap.size + 1, 1, none⟩ (.slice a xs.length c)).setCell ⟨w.heap.size + 1, 2, none⟩ (.slice b ys.length d)).setCell ⟨w.heap.size + 1 + 1, 0, none⟩ (.slice a (xs.length + 6) c)).setCell ⟨w.heap.size + 1 + 1, 1, none⟩ (.slice b (ys.length + 6) d)) := ⟨_, rfl⟩
    rw [← hF] at Q1 Q2 P3 P4 b6 ⊢
    clear hF
    go_wp2
    refine bodyPost_ret (results_sol rfl _ _ (w.heap.size + 1) (w.heap.size + 1 + 1) (.float .f64 o) (.slice a xs.length c) (.slice b ys.length d) (.slice a (xs.length + 6) c) (.slice b (ys.length + 6) d) rfl rfl (cell_at Q1 rfl) (cell_at Q1 rfl) (cell_at Q1 rfl) (cell_at Q2 rfl) (cell_at Q2 rfl)) rfl ?_
    exact ⟨a, c, b, d, hap, rfl, P3, P4, bld b6⟩
set_option maxRecDepth 100000 in
set_option maxHeartbeats 1000000 in
theorem KeptSolution_any (o : Nat) (xs ys : List Z) (p q u v : Value) (w : World) (hp : Sl w p ((lent xs).map C)) (hq : Sl w q ((lent ys).map C)) (hu : Sl w u (xs.map C)) (hv : Sl w v (ys.map C)) (hn : (xs.length + 6) * 16 ≤ 140737488355328) (hm : (ys.length + 6) * 16 ≤ 140737488355328) :
    Calls Try.prog 19 #[.agg #[p, q], .agg #[.float .f64 o, u, v]] w fun E w' => E = .returned (.bool true) ∧ Below w.heap.size w w' := by
  have b0 : Below w.heap.size w ((w.alloc (.cells #[p, q] 47)).alloc (.cells #[.float .f64 o, u, v] 46)) := ((Below.refl _ w).alloc (Nat.le_refl _) _).alloc (by simp) _
  have t0 : ((w.alloc (.cells #[p, q] 47)).alloc (.cells #[.float .f64 o, u, v] 46)).heap[w.heap.size]? = _ := blk_keep _ (blk_new _ _)
  have t1 : ((w.alloc (.cells #[p, q] 47)).alloc (.cells #[.float .f64 o, u, v] 46)).heap[w.heap.size + 1]? = _ := blk_at2 _ _ _ _
  obtain ⟨w3, hw3⟩ : ∃ w3, w3 = (w.alloc (.cells #[p, q] 47)).alloc (.cells #[.float .f64 o, u, v] 46) := ⟨_, rfl⟩
  rw [← hw3] at b0 t0 t1
  have HK1 := hid (KeptNumbers_any (lent xs) xs p u w3 (by rw [lent_length]; omega) hn (hp.below b0) (hu.below b0))
  have HK2 := hid fun w' (h : Below w.heap.size w w') => KeptNumbers_any (lent ys) ys q v w' (by rw [lent_length]; omega) hm (hq.below h) (hv.below h)
  rw [sameC_self] at HK1
  go_enter Try.func19, Try.ntmps19
  go_upto_region 1 with (fail)
  rw [← hw3]
  have k0 := cell_at (j := 0) t0 rfl
  have k1 := cell_at (j := 1) t0 rfl
  have k2 := cell_at (j := 1) t1 rfl
  have k3 := cell_at (j := 2) t1 rfl
  have hz : w3.heap.size = w.heap.size + 2 := by rw [hw3]; simp
  clear hw3 t0 t1 hp hq hu hv
  go_wp2_with (first | (go_at_call 18; (with_reducible refine HK1.out.mono ?_); rintro E1 w4 ⟨rfl, hb1⟩; have b1 := b0.trans (hb1.mono (by omega)); have k4 := (hb1.cell (p := ⟨w.heap.size, 1, none⟩) (show w.heap.size < w3.heap.size by omega)).trans k1; have k5 := (hb1.cell (p := ⟨w.heap.size + 1, 2, none⟩) (show w.heap.size + 1 < w3.heap.size by omega)).trans k3) | (go_at_call 18; (with_reducible refine (HK2.out _ b1).mono ?_); rintro E2 w5 ⟨rfl, hb2⟩; rw [sameC_self]))
  go_ret
  exact ⟨rfl, b1.trans (hb2.mono b1.size)⟩
end Go.Proofs.Ytfnbohpfcdddgaa

