/- The chapter's functions on polynomials of whole numbers, as contracts; two rows equal, noughts aside. No condition but the bounds. -/
import Derived.Test.YtjpimgdmlieinaaDoorSmall
import Derived.Test.YtjpimgdmlieinaaDoorLv29
namespace Go.Proofs.YtjpimgdmlieinaaDoor
open Go.RowKit

def BoLoop (w : World) (n : Nat) (i : Value) (wr : World) : Prop := ∃ k : Nat, k ≤ n ∧ i = .int .i64 k ∧ wr = w
set_option maxRecDepth 100000 in
set_option maxHeartbeats 4000000 in
theorem both_true (xs ys : List Z) (va vb : Value) (w : World) (hx : Sl w va (xs.map C)) (hy : Sl w vb (ys.map C)) (hn : xs.length ≤ 256) (hm : ys.length ≤ 256)
    (h : ∀ i, (feq (pz xs i).1 (pz ys i).1 && feq (pz xs i).2 (pz ys i).2) = true) : Calls Tryd.prog 40 #[va, vb, .int .i64 0, .int .i64 0] w (RetB w true) := by
  obtain ⟨a, cap, rfl, hcx⟩ := hx.cz
  obtain ⟨b, cap2, rfl, hcy⟩ := hy.cz
  go_enter Tryd.func40, Tryd.ntmps40
  go_wp2
  go_loopw [9] (fun i w' => BoLoop w (max xs.length ys.length) i w') (fun i _ => max xs.length ys.length + 1 - (intOf i).toNat)
  case atStart => exact ⟨0, by omega, rfl, rfl⟩
  case round =>
    obtain ⟨k, hk, rfl, rfl⟩ := hrel
    have H := hid h
    clear h
    have hmx : max (xs.length : Int) (ys.length : Int) = ((max xs.length ys.length : Nat) : Int) := by omega
    have HX := hid hmx
    clear hmx
    by_cases hkn : k < max xs.length ys.length
    · have HE := hid (H.out k)
      have g0 : (k : Int) < max (xs.length : Int) (ys.length : Int) := by omega
      by_cases hkx : k < xs.length
      · obtain ⟨⟨x1, x2⟩, hx1⟩ : ∃ z, xs[k]? = some z := ⟨xs[k]'hkx, List.getElem?_eq_getElem hkx⟩
        obtain ⟨b1, off1, rfl, cx⟩ := hcx k _ hx1
        have e1 : pz xs k = (val x1, val x2) := (zv_pz hx1).symm
        have g1 : (k : Int) < (xs.length : Int) := by omega
        by_cases hky : k < ys.length
        · obtain ⟨⟨y1, y2⟩, hy1⟩ : ∃ z, ys[k]? = some z := ⟨ys[k]'hky, List.getElem?_eq_getElem hky⟩
          obtain ⟨b2, off2, rfl, cy⟩ := hcy k _ hy1
          have e2 : pz ys k = (val y1, val y2) := (zv_pz hy1).symm
          have g2 : (k : Int) < (ys.length : Int) := by omega
          have he := HE.out
          rw [e1, e2, Bool.and_eq_true] at he
          obtain ⟨q1, q2⟩ := he
          dsimp only at q1 q2
          clear hcx hcy hx1 hy1 e1 e2 hkx hky
          go_wp2
          go_roundw
          case rel => exact ⟨k + 1, by omega, by go_num, rfl⟩
          case measure => simp [intOf] <;> omega
        · have e2 : pz ys k = (val 0, val 0) := pz_over (by omega)
          have g2 : ¬ (k : Int) < (ys.length : Int) := by omega
          have hy1 : True := trivial
          have he := HE.out
          rw [e1, e2, Bool.and_eq_true] at he
          obtain ⟨q1, q2⟩ := he
          dsimp only at q1 q2
          clear hcx hcy hx1 hy1 e1 e2 hkx hky
          go_wp2
          go_roundw
          case rel => exact ⟨k + 1, by omega, by go_num, rfl⟩
          case measure => simp [intOf] <;> omega
      · have e1 : pz xs k = (val 0, val 0) := pz_over (by omega)
        have g1 : ¬ (k : Int) < (xs.length : Int) := by omega
        have hx1 : True := trivial
        by_cases hky : k < ys.length
        · obtain ⟨⟨y1, y2⟩, hy1⟩ : ∃ z, ys[k]? = some z := ⟨ys[k]'hky, List.getElem?_eq_getElem hky⟩
          obtain ⟨b2, off2, rfl, cy⟩ := hcy k _ hy1
          have e2 : pz ys k = (val y1, val y2) := (zv_pz hy1).symm
          have g2 : (k : Int) < (ys.length : Int) := by omega
          have he := HE.out
          rw [e1, e2, Bool.and_eq_true] at he
          obtain ⟨q1, q2⟩ := he
          dsimp only at q1 q2
          clear hcx hcy hx1 hy1 e1 e2 hkx hky
          go_wp2
          go_roundw
          case rel => exact ⟨k + 1, by omega, by go_num, rfl⟩
          case measure => simp [intOf] <;> omega
        · exfalso
          omega
    · obtain rfl : k = max xs.length ys.length := by omega
      have g0 : ¬ (((max xs.length ys.length : Nat) : Int) < max (xs.length : Int) (ys.length : Int)) := by omega
      clear hcx hcy
      go_wp2
      go_ret
      exact ⟨rfl, Dr.refl _⟩

/-- A slice of whole numbers: those of f. -/
def Pv (f : Nat → G) (n : Nat) (w : World) (v : Value) : Prop := ∃ l : List Z, Sl w v (l.map C) ∧ Ep l f ∧ l.length ≤ n ∧ wfP l
theorem Pv.below {f : Nat → G} {n : Nat} {w w' : World} {v : Value} (h : Pv f n w v) (hb : Below w.heap.size w w') : Pv f n w' v := by
  obtain ⟨l, h1, h2⟩ := h
  exact ⟨l, h1.below hb, h2⟩
theorem Pv.supp {f : Nat → G} {n : Nat} {w : World} {v : Value} (h : Pv f n w v) : ∀ i, n ≤ i → f i = g0 := by
  obtain ⟨l, h1, h2, h3, h4⟩ := h
  exact fun i hi => h2.supp i (by omega)
theorem Pv.bpT {f g : Nat → G} {n m a b : Nat} {w : World} {v v' : Value} (h : Pv f n w v) (h' : Pv g m w v') (ha : Bp f a) (hb : Bp g b) (hab : n * (a * b) ≤ 9007199254740992) (hn : n + m ≤ 256) : Bp (cvl f g) (n * (a * b)) := by
  obtain ⟨l, h1, h2, h3, h4⟩ := h
  obtain ⟨l', h1', h2', h3', h4'⟩ := h'
  have hm : l.length * (a * b) ≤ n * (a * b) := Nat.mul_le_mul_right _ h3
  have := (times_ex (l := []) h2 h2' ha hb (by omega) (by omega)).2.2
  exact fun i => Nat.le_trans (this i) hm
theorem Pv.bpD {f : Nat → G} {n a : Nat} {w : World} {v : Value} (h : Pv f n w v) (ha : Bp f a) (hn : n ≤ 19) (hab : 20 * a ≤ 9007199254740992) : Bp (dv f) (n * a) := by
  obtain ⟨l, h1, h2, h3, h4⟩ := h
  have := (der_ex (l := []) h2 ha (by omega) hab).2.2
  exact fun i => Nat.le_trans (this i) (Nat.mul_le_mul_right _ h3)
theorem bpP {f g : Nat → G} {a b : Nat} (ha : Bp f a) (hb : Bp g b) : Bp (fun i => gadd (f i) (g i)) (a + b) := fun i => Nat.le_trans (n1_add _ _) (Nat.add_le_add (ha i) (hb i))
def RetPv (w : World) (f : Nat → G) (n : Nat) (E : Ending) (w' : World) : Prop := ∃ v, E = .returned (.tuple #[v, .int .i64 0]) ∧ Pv f n w' v ∧ Below w.heap.size w w'
theorem r_plus {f g : Nat → G} {n a b : Nat} {w : World} {v v' : Value} (h : Pv f n w v) (h' : Pv g n w v') (ha : Bp f a) (hb : Bp g b) (hab : a + b ≤ 9007199254740992) (hn : n ≤ 256) : Calls Tryd.prog 29 #[v, v'] w (RetPv w (fun i => gadd (f i) (g i)) n) := by
  obtain ⟨p, h1, h2, h3, h4⟩ := h
  obtain ⟨q, h1', h2', h3', h4'⟩ := h'
  refine (Plus_any p q h4 h4' v v' w h1 h1' (by omega) (by omega)).mono ?_
  rintro E w' ⟨u, l, rfl, hown, hl, hwl, hbl⟩
  obtain ⟨e0, hx⟩ := plus_ex (l := l) h2 h2' ha hb hab (by omega) (by omega)
  obtain ⟨x1, x2⟩ := hx hl
  exact ⟨u, by rw [e0], ⟨l, Sl.of_owns hown, x1, by omega, hwl⟩, hbl⟩
theorem r_times {f g : Nat → G} {n m a b : Nat} {w : World} {v v' : Value} (h : Pv f n w v) (h' : Pv g m w v') (ha : Bp f a) (hb : Bp g b) (hab : n * (a * b) ≤ 9007199254740992) (hn : n + m ≤ 256) : Calls Tryd.prog 31 #[v, v'] w (RetPv w (cvl f g) (n + m)) := by
  obtain ⟨p, h1, h2, h3, h4⟩ := h
  obtain ⟨q, h1', h2', h3', h4'⟩ := h'
  have hm : p.length * (a * b) ≤ n * (a * b) := Nat.mul_le_mul_right _ h3
  refine (Times_any p q v v' w h1 h1' (by omega) (by omega)).mono ?_
  rintro E w' ⟨u, l, rfl, hown, hl, hwl, hbl⟩
  obtain ⟨e0, hx, -⟩ := times_ex (l := l) h2 h2' ha hb (by omega) (by omega)
  obtain ⟨x1, x2⟩ := hx hl
  exact ⟨u, by rw [e0], ⟨l, Sl.of_owns hown, x1, by omega, hwl⟩, hbl⟩
theorem r_der {f : Nat → G} {n a : Nat} {w : World} {v : Value} (h : Pv f n w v) (ha : Bp f a) (hn : n ≤ 19) (hab : 20 * a ≤ 9007199254740992) : Calls Tryd.prog 33 #[v] w (RetPv w (dv f) n) := by
  obtain ⟨p, h1, h2, h3, h4⟩ := h
  refine (Derived_any p v w h1 (by omega)).mono ?_
  rintro E w' ⟨u, l, rfl, hown, hl, hwl, hbl⟩
  obtain ⟨e0, hx, -⟩ := der_ex (l := l) h2 ha (by omega) hab
  obtain ⟨x1, x2⟩ := hx hl
  exact ⟨u, by rw [e0], ⟨l, Sl.of_owns hown, x1, by omega, hwl⟩, hbl⟩
/-- A number's slot. -/
def Nv (c : G) (v : Value) : Prop := ∃ x y, v = .complex .f64 x y ∧ Gz (cv x y) c
theorem r_at {f : Nat → G} {n a : Nat} {c : G} {w : World} {v : Value} {x y : Nat} (h : Pv f n w v) (ha : Bp f a) (hz : Gz (cv x y) c) (hc : n1 c ≤ 8) (hn : 9 ^ (n + 1) * a ≤ 9007199254740992) (h256 : n ≤ 256) : Calls Tryd.prog 27 #[v, .complex .f64 x y] w fun E w' => ∃ u, E = .returned (.tuple #[u, .int .i64 0]) ∧ Nv (ev c n f) u ∧ Dr w w' := by
  obtain ⟨p, h1, h2, h3, h4⟩ := h
  refine (At_any p h4 x y v w h1 (by omega)).mono ?_
  rintro E w' ⟨x', y', rfl, hd, hv, -, -⟩
  obtain ⟨e0, hg, -⟩ := at_ex h2 ha hz hc n h3 hn h256
  exact ⟨_, by rw [e0], ⟨x', y', rfl, by rw [hv]; exact hg⟩, hd⟩
theorem r_both {f : Nat → G} {n m : Nat} {w : World} {v v' : Value} (h : Pv f n w v) (h' : Pv f m w v') (hn : n ≤ 256) (hm : m ≤ 256) : Calls Tryd.prog 40 #[v, v', .int .i64 0, .int .i64 0] w (RetB w true) := by
  obtain ⟨p, h1, h2, h3, h4⟩ := h
  obtain ⟨q, h1', h2', h3', h4'⟩ := h'
  exact both_true p q v v' w h1 h1' (by omega) (by omega) fun i => gz_eq (h2 i) (h2' i)
theorem ev_b {f : Nat → G} {n a : Nat} {c : G} {w : World} {v : Value} (h : Pv f n w v) (ha : Bp f a) (hc : n1 c ≤ 8) (hn : 9 ^ (n + 1) * a ≤ 9007199254740992) (h256 : n ≤ 256) (hz : ∃ z, Gz z c) : n1 (ev c n f) ≤ 9 ^ n * a := by
  obtain ⟨p, h1, h2, h3, h4⟩ := h
  obtain ⟨z, hz⟩ := hz
  exact (at_ex h2 ha hz hc n h3 hn h256).2.2
/-- The argument's polynomial. -/
theorem r_poly (l : List G) (v : Value) (w : World) (hs : SmAt w v l) (hn : l.length ≤ 140737488355328) : Calls Tryd.prog 39 #[v] w fun E w' => ∃ u, E = .returned u ∧ Pv (smG l) 6 w' u ∧ Below w.heap.size w w' := by
  refine (poly_any l v w hs hn).mono ?_
  rintro E w' ⟨u, ps, rfl, hsl, hm, hw, hb⟩
  have hl : ps.length = min l.length 6 := by rw [← List.length_map (f := zv), hm]; simp
  refine ⟨u, rfl, ⟨ps, hsl, ep_of hm (fun i hi => ?_) (fun i hi => ?_), by omega, hw⟩, hb⟩
  · unfold smF smG
    rw [if_pos hi]
    exact ⟨(tmod_w _ (by omega)).1, (tmod_w _ (by omega)).1⟩
  · unfold smG
    rw [if_neg (by omega)]
theorem bpS (l : List G) : Bp (smG l) 16 := by
  intro i
  unfold smG
  split
  · have h1 := tmod_b (l.getD i g0).1 9 (by omega)
    have h2 := tmod_b (l.getD i g0).2 9 (by omega)
    unfold n1
    simp only
    omega
  · simp [n1, g0]
end Go.Proofs.YtjpimgdmlieinaaDoor
