/- A polynomial derived; the product of two. Conditions: words have 64 bits. -/
import Derived.Test.YtjpimgdmlieinaaDoorPol3
import Derived.OwnWalk
namespace Go.Proofs.YtjpimgdmlieinaaDoor
open Go.RowKit

def derA (p : List Z) (j : Nat) : CV := cscale (val (ofInt ((j : Int) + 1))) (pz p (j + 1))
def derV (p : List Z) : List CV := (List.range (p.length - 1)).map (derA p)
def derR (p : List Z) : List CV × Int := if refE p = 0 then tol (derV p) else ([], refE p)
def DerLoop (w : World) (f : Nat → CV) (n : Nat) (i out : Value) (wr : World) : Prop := ∃ (k : Nat), i = .int .i64 ((k : Int) + 1) ∧ PolLoop w f n (.int .i64 k) out wr

set_option maxRecDepth 100000 in
set_option maxHeartbeats 4000000 in
theorem Derived_any (p : List Z) (vp : Value) (w : World) (hp : Sl w vp (p.map C)) (hn : p.length ≤ 140737488355328) : Calls Tryd.prog 33 #[vp] w (RetPoly w (derR p)) := by
  have HB := hid (refused_any p vp w hp hn)
  obtain ⟨a, cap, rfl, hcp⟩ := hp.cz
  have HR0 : derR p = if refE p = 0 then tol (derV p) else ([], refE p) := rfl
  by_cases h0 : refE p = 0
  · rw [if_pos h0] at HR0
    have HR := hid HR0
    have hl : p.length ≤ 256 := by
      rcases refE_cases p with ⟨_, h4⟩ | ⟨h3, _⟩
      · rw [h0] at h4; cases h4
      · omega
    rw [h0] at HB
    clear HR0 h0
    go_enter Tryd.func33, Tryd.ntmps33
    go_wp2_with (first | (go_at_call 70; (with_reducible refine HB.out.mono ?_); rintro E8 w8 ⟨rfl, n8, rfl⟩))
    go_loopw [6, 5] (fun i out w' => DerLoop w (derA p) (p.length - 1) i out w') (fun i _ _ => p.length + 1 - (intOf i).toNat)
    case atStart => exact ⟨0, rfl, 0, [], rfl, by omega, rfl, rfl, fun k z hz => by simp at hz, World.ownsRow_nil _ _ _ _, below_drewN' (Below.refl _ w) _⟩
    case round =>
      obtain ⟨k0, rfl, k, l, hkk, hk, hlk, hlm, hlw, hown, hb⟩ := hrel
      obtain rfl : k0 = k := by injection hkk with _ h; omega
      clear hkk
      have hz := hb.size
      by_cases hkn : k0 < p.length - 1
      · have HNX := hid fun (x y : Nat) v wr => PolLoop.next (w := w) (wr := wr) (v := v) (x := x) (y := y) hkn hlk hlm hlw
        rw [hlk] at hown
        obtain ⟨⟨p1, p2⟩, hp1⟩ : ∃ z, p[k0 + 1]? = some z := ⟨p[k0 + 1]'(by omega), List.getElem?_eq_getElem (by omega)⟩
        obtain ⟨b2, off2, rfl, cp⟩ := hcp (k0 + 1) _ hp1
        have cp' := (hb.cell (p := ⟨b2, off2 + (k0 + 1), none⟩) (World.block_lt_of_cell? _ _ cp)).trans cp
        have HF := hid (show derA p k0 = cscale (val (ofInt ((k0 : Int) + 1))) (cv p1 p2) by unfold derA pz; rw [zv_at hp1])
        have g1 : (k0 : Int) + 1 < (p.length : Int) := by omega
        clear hcp hp1 cp
        go_wp2_with (first | (go_at_call 77; (with_reducible refine (Scale_any _ _ _ _).mono ?_); rintro E7 w7 ⟨x7, y7, rfl, ⟨n7, rfl⟩, hv7, hx7, hy7⟩; replace hown := owns_drewN hown n7; replace hb := below_drewN' hb n7) | (at_builtin; refine wpList_app1 rfl _ _ 61 rfl w.heap.size 33 _ 16 Tryd.underlying61 info_c rfl _ k0 _ (.complex .f64 _ _) rfl rfl rfl (by exact hown) (by first | omega | (simp; omega)) (by first | omega | (simp; omega)) (by first | omega | (simp; omega)) ?_; intro v' w' h1 h2 h3))
        go_roundw
        case rel => exact ⟨k0 + 1, rfl, HNX.out x7 y7 _ _ hx7 hy7 (by rw [HF.out]; exact hv7) h1 (hb.trans h2)⟩
        case measure => simp [intOf] <;> omega
      · obtain rfl : k0 = p.length - 1 := by omega
        have HR2 : derR p = tol (l.map zv) := by rw [hlm]; exact HR.out
        have hl256 : l.length ≤ 256 := by omega
        have hsl := Sl.of_owns hown
        have g1 : ¬ (((p.length - 1 : Nat) : Int) + 1 < (p.length : Int)) := by omega
        clear hcp
        rcases tol_cases hl256 with ⟨h5, ht⟩ | ⟨h5, ht⟩
        · have HT := hid (told_ok hsl (by omega) h5)
          rw [ht] at HR2
          have HR3 := hid HR2
          clear HR2 ht h5
          go_wp2_with (go_at_call 74; (with_reducible refine HT.out.mono ?_); rintro E8 w8 ⟨rfl, n9, rfl⟩)
          go_ret2
          exact RetPoly.ok rfl (owns_drewN hown _) hlw (below_drewN' hb _) HR3.out
        · have HT := hid (told_bad hsl (by omega) h5)
          rw [ht] at HR2
          have HR3 := hid HR2
          clear HR2 ht h5
          go_wp2_with (go_at_call 74; (with_reducible refine HT.out.mono ?_); rintro E8 w8 ⟨rfl, n9, rfl⟩)
          go_ret2
          exact RetPoly.none rfl (below_drewN' hb _) HR3.out
  · rw [if_neg h0] at HR0
    have HR := hid HR0
    clear HR0 hcp
    generalize refE p = be at *
    go_enter Tryd.func33, Tryd.ntmps33
    go_wp2_with (first | (go_at_call 70; (with_reducible refine HB.out.mono ?_); rintro E8 w8 ⟨rfl, n8, rfl⟩))
    go_ret2
    exact RetPoly.none rfl (below_drewN' (Below.refl _ w) _) HR.out

/-- The part of the product's number m out of the first i numbers. -/
def timA (p q : List Z) (m : Nat) : Nat → CV
  | 0 => (val 0, val 0)
  | i + 1 => if i ≤ m ∧ m - i < q.length then cadd (timA p q m i) (cmul (pz p i) (pz q (m - i))) else timA p q m i
def timV (p q : List Z) : List CV := (List.range (p.length + q.length - 1)).map fun m => timA p q m p.length
def timR (p q : List Z) : List CV × Int := if bothE p q = 0 then (if p.length = 0 ∨ q.length = 0 then ([], 0) else if 256 < p.length + q.length - 1 then ([], 3) else tol (timV p q)) else ([], bothE p q)
/-- In the round i, up to k. -/
def timI (p q : List Z) (i k m : Nat) : CV := if i ≤ m ∧ m < i + k then timA p q m (i + 1) else timA p q m i
structure TimAt (w : World) (f : Nat → CV) (g n : Nat) (l : List Z) (wr : World) : Prop where
  len : l.length = n
  at' : ∀ (m : Nat) z, l[m]? = some z → zv z = f m
  wf : wfP l
  own : wr.ownsRow w.heap.size 33 1 (.slice (some ⟨g, 0, none⟩) n n) n (l.map C)
  bl : Below w.heap.size w wr
theorem TimAt.congr {w wr : World} {f f' : Nat → CV} {g n : Nat} {l : List Z} (h : TimAt w f g n l wr) (hf : ∀ m, m < n → f m = f' m) : TimAt w f' g n l wr :=
  { h with at' := fun m z hz => by rw [h.at' m z hz]; exact hf m (by have := (List.getElem?_eq_some_iff.1 hz).1; have := h.len; omega) }
theorem TimAt.set {w wr : World} {f : Nat → CV} {g n : Nat} {l : List Z} (h : TimAt w f g n l wr) (j x y nd : Nat) (hx : IsW x) (hy : IsW y) : TimAt w (fun m => if m = j then cv x y else f m) g n (l.set j (x, y)) ((wr.drewN nd).setCell ⟨g, j, none⟩ (.complex .f64 x y)) := by
  have hst := (owns_drewN h.own nd).stored j (.complex .f64 x y)
  have hg := h.own.lt g rfl
  refine ⟨by rw [List.length_set, h.len], ?_, ?_, ?_, (below_drewN' h.bl nd).setCell hg.1 _⟩
  · intro m z hz
    rw [List.getElem?_set] at hz
    split at hz
    · rename_i e
      subst e
      split at hz
      · cases hz; rw [if_pos rfl]; rfl
      · cases hz
    · rename_i e
      rw [if_neg (fun e2 => e e2.symm)]
      exact h.at' m z hz
  · intro m z hz
    rw [List.getElem?_set] at hz
    split at hz
    · split at hz
      · cases hz; exact ⟨hx, hy⟩
      · cases hz
    · exact h.wf m z hz
  · have := hst.1
    rw [show (l.set j (x, y)).map C = (l.map C).set j (.complex .f64 x y) from by rw [List.map_set]; rfl]
    exact this
def TimO (w : World) (p q : List Z) (g n : Nat) (i : Value) (wr : World) : Prop := ∃ (k : Nat) (l : List Z), i = .int .i64 k ∧ k ≤ p.length ∧ TimAt w (fun m => timA p q m k) g n l wr
def TimN (w : World) (p q : List Z) (g n i : Nat) (k : Value) (wr : World) : Prop := ∃ (j : Nat) (l : List Z), k = .int .i64 j ∧ j ≤ q.length ∧ TimAt w (timI p q i j) g n l wr
theorem timI_zero (p q : List Z) (i m : Nat) : timI p q i 0 m = timA p q m i := by
  unfold timI
  rw [if_neg (by omega)]
theorem timI_end (p q : List Z) (i m : Nat) : timI p q i q.length m = timA p q m (i + 1) := by
  unfold timI
  split
  · rfl
  · rw [timA, if_neg (by omega)]
theorem timI_succ (p q : List Z) (i j m : Nat) (hj : j < q.length) : timI p q i (j + 1) m = if m = i + j then cadd (timA p q (i + j) i) (cmul (pz p i) (pz q j)) else timI p q i j m := by
  unfold timI
  by_cases h : m = i + j
  · subst h
    rw [if_pos (by omega), if_pos rfl, timA, if_pos (by omega), show i + j - i = j by omega]
  · rw [if_neg h]
    by_cases h2 : i ≤ m ∧ m < i + j
    · rw [if_pos h2, if_pos (by omega)]
    · rw [if_neg h2, if_neg (by omega)]
theorem timI_at (p q : List Z) (i j : Nat) : timI p q i j (i + j) = timA p q (i + j) i := by
  unfold timI
  rw [if_neg (by omega)]

set_option maxRecDepth 100000 in
set_option maxHeartbeats 4000000 in
theorem Times_any (p q : List Z) (vp vq : Value) (w : World) (hp : Sl w vp (p.map C)) (hq : Sl w vq (q.map C)) (hn : p.length ≤ 140737488355328) (hm : q.length ≤ 140737488355328) : Calls Tryd.prog 31 #[vp, vq] w (RetPoly w (timR p q)) := by
  have HB := hid (both_any p q vp vq w hp hq hn hm)
  obtain ⟨a, cap, rfl, hcp⟩ := hp.cz
  obtain ⟨b, cap2, rfl, hcq⟩ := hq.cz
  have HR0 : timR p q = if bothE p q = 0 then (if p.length = 0 ∨ q.length = 0 then ([], 0) else if 256 < p.length + q.length - 1 then ([], 3) else tol (timV p q)) else ([], bothE p q) := rfl
  by_cases h0 : bothE p q = 0
  · rw [if_pos h0] at HR0
    have hl : p.length ≤ 256 ∧ q.length ≤ 256 := by
      unfold bothE at h0
      split at h0
      · cases h0
      · omega
    obtain ⟨hl1, hl2⟩ := hl
    rw [h0] at HB
    clear h0
    by_cases h1 : p.length = 0
    · rw [if_pos (.inl h1)] at HR0
      have HR := hid HR0
      have g1 : ((p.length : Int) == 0) = true := by rw [h1]; rfl
      clear HR0 hcp hcq h1
      go_enter Tryd.func31, Tryd.ntmps31
      go_wp2_with (first | (go_at_call 73; (with_reducible refine HB.out.mono ?_); rintro E8 w8 ⟨rfl, n8, rfl⟩))
      go_ret2
      exact RetPoly.none rfl (below_drewN' (Below.refl _ w) _) HR.out
    · have g1 : ((p.length : Int) == 0) = false := by rw [beq_eq_false_iff_ne]; omega
      by_cases h2 : q.length = 0
      · rw [if_pos (.inr h2)] at HR0
        have HR := hid HR0
        have g2 : ((q.length : Int) == 0) = true := by rw [h2]; rfl
        clear HR0 hcp hcq h1 h2
        go_enter Tryd.func31, Tryd.ntmps31
        go_wp2_with (first | (go_at_call 73; (with_reducible refine HB.out.mono ?_); rintro E8 w8 ⟨rfl, n8, rfl⟩))
        go_ret2
        exact RetPoly.none rfl (below_drewN' (Below.refl _ w) _) HR.out
      · have g2 : ((q.length : Int) == 0) = false := by rw [beq_eq_false_iff_ne]; omega
        rw [if_neg (by omega)] at HR0
        by_cases h3 : 256 < p.length + q.length - 1
        · rw [if_pos h3] at HR0
          have HR := hid HR0
          have g3 : (256 : Int) < (p.length : Int) + (q.length : Int) - 1 := by omega
          clear HR0 hcp hcq h1 h2
          go_enter Tryd.func31, Tryd.ntmps31
          go_wp2_with (first | (go_at_call 73; (with_reducible refine HB.out.mono ?_); rintro E8 w8 ⟨rfl, n8, rfl⟩))
          go_ret2
          exact RetPoly.none rfl (below_drewN' (Below.refl _ w) _) HR.out
        · rw [if_neg h3] at HR0
          have HR := hid HR0
          have g3 : ¬ (256 : Int) < (p.length : Int) + (q.length : Int) - 1 := by omega
          obtain ⟨n, hnn⟩ : ∃ n, n = p.length + q.length - 1 := ⟨_, rfl⟩
          have g4 : (p.length : Int) + (q.length : Int) - 1 = (n : Int) := by omega
          have hn256 : n ≤ 256 := by omega
          have g5 : ¬ (256 : Int) < (n : Int) := by omega
          have hnn2 : n + 1 = p.length + q.length := by omega
          obtain ⟨iC, hiC, hc0, hc1, hc2⟩ := info_parts info_c
          have HNN := hid hnn
          clear HR0 h1 h2 hnn
          go_enter Tryd.func31, Tryd.ntmps31
          go_wp2_with (first | (go_at_call 73; (with_reducible refine HB.out.mono ?_); rintro E8 w8 ⟨rfl, n8, rfl⟩) | (at_make; refine wpList_make_full _ rfl _ _ 61 rfl w.heap.size 33 iC _ 1 Tryd.underlying61 hiC hc0 hc1 _ _ _ _ n rfl rfl (by omega) (by omega) (by rw [hc2]; omega) (by unfold maxLen; omega) (by simp) ?_; intro w2 hown2 hg2))
          have hT0 : TimAt w (fun m => timA p q m 0) w.heap.size n (List.replicate n (0, 0)) w2 := by
            refine ⟨List.length_replicate, ?_, ?_, ?_, ?_⟩
            · intro m z hz
              have := List.mem_of_getElem? hz
              rw [List.eq_of_mem_replicate this]
              rfl
            · intro m z hz
              have := List.mem_of_getElem? hz
              rw [List.eq_of_mem_replicate this]
              exact ⟨isW_0, isW_0⟩
            · rw [Nat.mul_one, show (Value.complex FloatKind.f64 0 0).cells = #[.complex .f64 0 0] from rfl, toList_madeCells_one] at hown2
              rw [List.map_replicate]
              exact hown2
            · exact Below.grown (below_drewN' (Below.refl _ w) n8) hg2 (Nat.le_refl _) (by simp)
          clear hown2 hg2
          go_loopw [42] (fun i w' => TimO w p q w.heap.size n i w') (fun i _ => p.length + 1 - (intOf i).toNat)
          case atStart => exact ⟨0, _, rfl, by omega, hT0⟩
          case round =>
            obtain ⟨k, l, rfl, hk, hT⟩ := hrel
            clear hT0
            by_cases hkp : k < p.length
            · obtain ⟨⟨p1, p2⟩, hp1⟩ : ∃ z, p[k]? = some z := ⟨p[k]'hkp, List.getElem?_eq_getElem hkp⟩
              obtain ⟨b2, off2, rfl, cp⟩ := hcp k _ hp1
              have cp' := (hT.bl.cell (p := ⟨b2, off2 + k, none⟩) (World.block_lt_of_cell? _ _ cp)).trans cp
              have HPK := hid (show pz p k = cv p1 p2 from zv_at hp1)
              have HCP := hid hcp
              clear hp1 cp hcp
              go_wp2
              go_loopw [49] (fun j w' => TimN w p q w.heap.size n k j w') (fun j _ => q.length + 1 - (intOf j).toNat)
              case atStart => exact ⟨0, l, rfl, by omega, hT.congr fun m _ => (timI_zero p q k m).symm⟩
              case round =>
                obtain ⟨j, l2, rfl, hj, hT2⟩ := hrel
                clear hT cp'
                by_cases hjq : j < q.length
                · obtain ⟨⟨q1, q2⟩, hq1⟩ : ∃ z, q[j]? = some z := ⟨q[j]'hjq, List.getElem?_eq_getElem hjq⟩
                  obtain ⟨b1, off1, rfl, cq⟩ := hcq j _ hq1
                  have cq' := (hT2.bl.cell (p := ⟨b1, off1 + j, none⟩) (World.block_lt_of_cell? _ _ cq)).trans cq
                  have HQJ := hid (show pz q j = cv q1 q2 from zv_at hq1)
                  have hkj : k + j < n := by omega
                  obtain ⟨⟨z1, z2⟩, hz1⟩ : ∃ z, l2[k + j]? = some z := ⟨l2[k + j]'(by rw [hT2.len]; exact hkj), List.getElem?_eq_getElem (by rw [hT2.len]; exact hkj)⟩
                  have HZ := hid (show cv z1 z2 = timA p q (k + j) k by have := hT2.at' _ _ hz1; rw [timI_at] at this; exact this)
                  have cz : wr.cell? ⟨w.heap.size, k + j, none⟩ = some (.complex .f64 z1 z2) := by
                    rw [hT2.own.cellAt (k + j) (by omega), List.getElem?_map, hz1]
                    rfl
                  have fz : wr.frozen? ⟨w.heap.size, k + j, none⟩ = false := hT2.own.frozenAt (k + j)
                  have w1 : IntKind.i64.wrap ((k : Int) + (j : Int)) = (k : Int) + (j : Int) := IntWalk.i64_in _ (by omega)
                  have w3 : (k : Int) + (j : Int) < (n : Int) := by omega
                  have w4 : (0 : Int) ≤ (k : Int) + (j : Int) := by omega
                  have w5 : ((k : Int) + (j : Int)).toNat = k + j := by omega
                  have HT2 := hid hT2
                  have HCQ := hid hcq
                  clear hq1 cq hz1 hcq hT2
                  go_wp2
                  go_region_law (first | (go_simp; go_at_call 42; (with_reducible refine (Mul_z _ _ _ _ _ _ rfl rfl _).mono ?_); rintro E6 w6 ⟨x6, y6, rfl, ⟨n6, rfl⟩, hv6, hx6, hy6⟩) | (go_simp; go_at_call 41; (with_reducible refine (AddC_z _ _ _ _ _ _ rfl (by first | assumption | rfl) _).mono ?_); rintro E7 w7 ⟨x7, y7, rfl, ⟨n7, rfl⟩, hv7, hx7, hy7⟩))
                  all_goals
                    go_wp2
                    go_roundw
                    case rel =>
                      refine ⟨j + 1, _, by go_num, by omega, (HT2.out.set (k + j) x7 y7 _ hx7 hy7).congr fun m _ => ?_⟩
                      rw [timI_succ p q k j m hjq, hv7, HZ.out, HPK.out, HQJ.out]
                    case measure => simp [intOf] <;> omega
                · obtain rfl : j = q.length := by omega
                  have HT2 := hid (hT2.congr (f' := fun m => timA p q m (k + 1)) fun m _ => timI_end p q k m)
                  clear hT2
                  go_wp2
                  go_roundw
                  case rel => exact ⟨k + 1, l2, by go_num, by omega, HT2.out⟩
                  case measure => simp [intOf] <;> omega
            · obtain rfl : k = p.length := by omega
              have hlv : l.map zv = timV p q := by
                unfold timV
                apply List.ext_getElem?
                intro m
                rw [List.getElem?_map, List.getElem?_map]
                by_cases hm : m < n
                · obtain ⟨z, hz⟩ : ∃ z, l[m]? = some z := ⟨l[m]'(by rw [hT.len]; exact hm), List.getElem?_eq_getElem (by rw [hT.len]; exact hm)⟩
                  rw [hz, List.getElem?_range (by have := HNN.out; omega), Option.map_some, Option.map_some, hT.at' m z hz]
                · rw [List.getElem?_eq_none (by rw [hT.len]; omega), List.getElem?_eq_none (by rw [List.length_range]; have := HNN.out; omega)]
                  rfl
              have HR2 : timR p q = tol (l.map zv) := by rw [hlv]; exact HR.out
              have hown : wr.ownsRow w.heap.size 33 1 (.slice (some ⟨w.heap.size, 0, none⟩) n n) l.length (l.map C) := by rw [hT.len]; exact hT.own
              have hlw := hT.wf
              have hb := hT.bl
              have hl256 : l.length ≤ 256 := by rw [hT.len]; exact hn256
              have hsl := Sl.of_owns hown
              clear hlv hcp hcq hT
              rcases tol_cases hl256 with ⟨h5, ht⟩ | ⟨h5, ht⟩
              · have HT := hid (told_ok hsl (by omega) h5)
                rw [ht] at HR2
                have HR3 := hid HR2
                clear HR2 ht h5
                go_wp2_with (go_at_call 74; (with_reducible refine HT.out.mono ?_); rintro E8 w8 ⟨rfl, n9, rfl⟩)
                go_ret2
                exact RetPoly.ok rfl (owns_drewN hown _) hlw (below_drewN' hb _) HR3.out
              · have HT := hid (told_bad hsl (by omega) h5)
                rw [ht] at HR2
                have HR3 := hid HR2
                clear HR2 ht h5
                go_wp2_with (go_at_call 74; (with_reducible refine HT.out.mono ?_); rintro E8 w8 ⟨rfl, n9, rfl⟩)
                go_ret2
                exact RetPoly.none rfl (below_drewN' hb _) HR3.out
  · rw [if_neg h0] at HR0
    have HR := hid HR0
    clear HR0 hcp hcq
    generalize bothE p q = be at *
    go_enter Tryd.func31, Tryd.ntmps31
    go_wp2_with (first | (go_at_call 73; (with_reducible refine HB.out.mono ?_); rintro E8 w8 ⟨rfl, n8, rfl⟩))
    go_ret2
    exact RetPoly.none rfl (below_drewN' (Below.refl _ w) _) HR.out
end Go.Proofs.YtjpimgdmlieinaaDoor
