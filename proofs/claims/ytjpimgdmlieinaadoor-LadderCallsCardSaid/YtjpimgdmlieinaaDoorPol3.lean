/- The sum of two polynomials. Conditions: words have 64 bits. -/
import Derived.Test.YtjpimgdmlieinaaDoorPol2
import Derived.Test.YtjpimgdmlieinaaDoorStore
import Derived.Deep.AppendLies
import Derived.Deep.RegionLaw
namespace Go.Proofs.YtjpimgdmlieinaaDoor
open Go.RowKit

theorem info_c : (Tryd.prog.info? 33).map (fun i => (i.zero, i.size, i.bytes)) = some (some (.complex .f64 0 0), 1, 16) := by kernel_rfl
/-- What is told of the numbers: none, if one of them is not finite. -/
def tol (vs : List CV) : List CV × Int := if vs.all cfin = true then (vs, 0) else ([], 6)
def pz (p : List Z) (i : Nat) : CV := zv (p.getD i (0, 0))
def plusA (p q : List Z) (i : Nat) : CV := if q.length ≤ i then pz p i else if p.length ≤ i then pz q i else cadd (pz p i) (pz q i)
def plusV (p q : List Z) : List CV := (List.range (max p.length q.length)).map (plusA p q)
def plusR (p q : List Z) : List CV × Int := if bothE p q = 0 then tol (plusV p q) else ([], bothE p q)
/-- A polynomial is handed back, with an error. -/
def RetPoly (w : World) (r : List CV × Int) (E : Ending) (w' : World) : Prop := ∃ v l, E = .returned (.tuple #[v, .int .i64 r.2]) ∧ w'.ownsRow w.heap.size 33 1 v l.length (l.map C) ∧ l.map zv = r.1 ∧ wfP l ∧ Below w.heap.size w w'
theorem RetPoly.none {w : World} {e : Int} {E : Ending} {w' : World} (h : E = .returned (.tuple #[.slice none 0 0, .int .i64 e])) (hb : Below w.heap.size w w') {r : List CV × Int} (hr : r = ([], e)) : RetPoly w r E w' := by
  subst hr
  exact ⟨_, [], h, World.ownsRow_nil _ _ _ _, rfl, fun k z hz => by simp at hz, hb⟩
theorem all_pf (l : List Z) : (l.map zv).all cfin = pf l := by
  unfold pf
  rw [List.all_map]
  rfl
/-- Behind told. -/
theorem told_ok {p : List Z} {v : Value} {w : World} (hp : Sl w v (p.map C)) (hn : p.length ≤ 140737488355328) (h : refE p ≠ 5) : Calls Tryd.prog 74 #[v] w (fun E w' => E = .returned (.tuple #[v, .int .i64 0]) ∧ Dr w w') := by
  have := told_any p v w hp hn
  unfold RetTold toldE at this
  rw [if_neg h, if_neg h] at this
  exact this
theorem told_bad {p : List Z} {v : Value} {w : World} (hp : Sl w v (p.map C)) (hn : p.length ≤ 140737488355328) (h : refE p = 5) : Calls Tryd.prog 74 #[v] w (fun E w' => E = .returned (.tuple #[.slice none 0 0, .int .i64 6]) ∧ Dr w w') := by
  have := told_any p v w hp hn
  unfold RetTold toldE at this
  rw [if_pos h, if_pos h] at this
  exact this
theorem RetPoly.ok {w w' : World} {v : Value} {l : List Z} {E : Ending} (h1 : E = .returned (.tuple #[v, .int .i64 0])) (hown : w'.ownsRow w.heap.size 33 1 v l.length (l.map C)) (hw : wfP l) (hb : Below w.heap.size w w') {r : List CV × Int} (hr : r = (l.map zv, 0)) : RetPoly w r E w' := by
  subst hr
  exact ⟨v, l, h1, hown, rfl, hw, hb⟩
theorem tol_cases {l : List Z} (hl : l.length ≤ 256) : (refE l ≠ 5 ∧ tol (l.map zv) = (l.map zv, 0)) ∨ (refE l = 5 ∧ tol (l.map zv) = ([], 6)) := by
  unfold tol
  rw [all_pf]
  rcases refE_cases l with ⟨h3, _⟩ | ⟨_, ⟨h3, h4⟩ | ⟨h3, h4⟩⟩
  · omega
  · exact .inl ⟨by rw [h4]; decide, by rw [h3, if_pos rfl]⟩
  · exact .inr ⟨h4, by rw [h3, if_neg (by simp)]⟩
theorem wfP_snoc {l : List Z} {x : Z} (h : wfP l) (h1 : IsW x.1) (h2 : IsW x.2) : wfP (l ++ [x]) := by
  intro k z hz
  by_cases hk : k < l.length
  · rw [List.getElem?_append_left hk] at hz
    exact h k z hz
  · rw [List.getElem?_append_right (by omega)] at hz
    have := List.mem_of_getElem? hz
    rw [List.mem_singleton] at this
    subst this
    exact ⟨h1, h2⟩
theorem range_snoc (f : Nat → CV) (k : Nat) : (List.range (k + 1)).map f = (List.range k).map f ++ [f k] := by rw [List.range_succ, List.map_append]; rfl
/-- Within the loop. -/
def PolLoop (w : World) (f : Nat → CV) (n : Nat) (i out : Value) (wr : World) : Prop := ∃ (k : Nat) (l : List Z), i = .int .i64 k ∧ k ≤ n ∧ l.length = k ∧ l.map zv = (List.range k).map f ∧ wfP l ∧ wr.ownsRow w.heap.size 33 1 out l.length (l.map C) ∧ Below w.heap.size w wr

theorem PolLoop.next {w wr : World} {f : Nat → CV} {n k : Nat} {l : List Z} {x y : Nat} {v : Value} (hk : k < n) (hlk : l.length = k) (hm : l.map zv = (List.range k).map f) (hw : wfP l) (hx : IsW x) (hy : IsW y) (hf : cv x y = f k) (hown : wr.ownsRow w.heap.size 33 1 v (k + 1) (l.map C ++ [.complex .f64 x y])) (hb : Below w.heap.size w wr) : PolLoop w f n (.int .i64 ((k : Int) + 1)) v wr := by
  refine ⟨k + 1, l ++ [(x, y)], rfl, hk, by rw [List.length_append, hlk]; rfl, ?_, wfP_snoc hw hx hy, ?_, hb⟩
  · rw [List.map_append, hm, range_snoc]
    show _ ++ [cv x y] = _
    rw [hf]
  · rw [List.map_append, List.length_append, hlk]
    exact hown

set_option maxRecDepth 100000 in
set_option maxHeartbeats 4000000 in
theorem Plus_any (p q : List Z) (hwp : wfP p) (hwq : wfP q) (vp vq : Value) (w : World) (hp : Sl w vp (p.map C)) (hq : Sl w vq (q.map C)) (hn : p.length ≤ 140737488355328) (hm : q.length ≤ 140737488355328) : Calls Tryd.prog 29 #[vp, vq] w (RetPoly w (plusR p q)) := by
  have HB := hid (both_any p q vp vq w hp hq hn hm)
  obtain ⟨a, cap, rfl, hcp⟩ := hp.cz
  obtain ⟨b, cap2, rfl, hcq⟩ := hq.cz
  have HR0 : plusR p q = if bothE p q = 0 then tol (plusV p q) else ([], bothE p q) := rfl
  by_cases h0 : bothE p q = 0
  · rw [if_pos h0] at HR0
    have HR := hid HR0
    have hl : p.length ≤ 256 ∧ q.length ≤ 256 := by
      unfold bothE at h0
      split at h0
      · cases h0
      · omega
    obtain ⟨hl1, hl2⟩ := hl
    rw [h0] at HB
    clear HR0 h0
    obtain ⟨iC, hiC, hc0, hc1, hc2⟩ := info_parts info_c
    rcases Nat.lt_or_ge p.length q.length with hpq | hpq
    · go_enter Tryd.func29, Tryd.ntmps29
      go_wp2_with (first | (go_at_call 73; (with_reducible refine HB.out.mono ?_); rintro E8 w8 ⟨rfl, n8, rfl⟩))
      go_loopw [20, 7] (fun i out w' => PolLoop w (plusA p q) q.length i out w') (fun i _ _ => q.length + 1 - (intOf i).toNat)
      case atStart => exact ⟨0, [], rfl, by omega, rfl, rfl, fun k z hz => by simp at hz, World.ownsRow_nil _ _ _ _, below_drewN' (Below.refl _ w) _⟩
      case round =>
        obtain ⟨k, l, rfl, hk, hlk, hlm, hlw, hown, hb⟩ := hrel
        have hz := hb.size
        by_cases hkn : k < q.length
        · have HNX := hid fun (x y : Nat) v wr => PolLoop.next (w := w) (wr := wr) (v := v) (x := x) (y := y) hkn hlk hlm hlw
          rw [hlk] at hown
          by_cases hkq : k < q.length
          · obtain ⟨⟨q1, q2⟩, hq1⟩ : ∃ z, q[k]? = some z := ⟨q[k]'hkq, List.getElem?_eq_getElem hkq⟩
            obtain ⟨b1, off1, rfl, cq⟩ := hcq k _ hq1
            obtain ⟨iw1, iw2⟩ := hwq k _ hq1
            have cq' := (hb.cell (p := ⟨b1, off1 + k, none⟩) (World.block_lt_of_cell? _ _ cq)).trans cq
            by_cases hkp : k < p.length
            · obtain ⟨⟨p1, p2⟩, hp1⟩ : ∃ z, p[k]? = some z := ⟨p[k]'hkp, List.getElem?_eq_getElem hkp⟩
              obtain ⟨b2, off2, rfl, cp⟩ := hcp k _ hp1
              have cp' := (hb.cell (p := ⟨b2, off2 + k, none⟩) (World.block_lt_of_cell? _ _ cp)).trans cp
              have HF := hid (show plusA p q k = cadd (cv p1 p2) (cv q1 q2) by unfold plusA pz; rw [if_neg (by omega), if_neg (by omega), zv_at hp1, zv_at hq1])
              have g1 : ¬ (q.length : Int) ≤ (k : Int) := by omega
              have g2 : ¬ (p.length : Int) ≤ (k : Int) := by omega
              clear hcp hcq hq1 hp1 cp cq
              go_wp2
              go_region_law (first | (refine step_append_lies _ rfl _ _ 61 rfl w.heap.size 33 iC _ 1 16 Tryd.underlying61 hiC hc0 hc1 hc2 rfl (by decide) u7 k (l.map C) rfl (by exact (owns_drewN hown _).alloc _) ⟨_, 0, none⟩ 1 1 [.complex .f64 _ _] rfl rfl (by exact cell_new _ _ _) (by simp [Value.oneCell']) (by decide) (by unfold maxLen; omega) (by omega) (by simp; omega) _ rfl ?_; intro g5 cap5 w5 hown5 hg5 hat5 hlt5) | (go_simp; go_at_call 41; (with_reducible refine (AddC_z _ _ _ _ _ _ rfl rfl _).mono ?_); rintro E7 w7 ⟨x7, y7, rfl, ⟨n7, rfl⟩, hv7, hx7, hy7⟩))
              all_goals
                have b5 : Below w.heap.size w w5 := Below.grown ((below_drewN' hb _).alloc (by exact hz) _) hg5 (by simp; omega) (fun k hk => (hown.lt k hk).1)
                clear hg5 hat5 hlt5
                go_wp2
                go_roundw
                case rel => exact HNX.out x7 y7 _ _ hx7 hy7 (by rw [HF.out]; exact hv7) hown5 b5
                case measure => simp [intOf] <;> omega
            · have HF := hid (show plusA p q k = cv q1 q2 by unfold plusA pz; rw [if_neg (by omega), if_pos (by omega), zv_at hq1])
              have g1 : ¬ (q.length : Int) ≤ (k : Int) := by omega
              have g2 : (p.length : Int) ≤ (k : Int) := by omega
              clear hcp hcq hq1 cq
              go_wp2_with (at_builtin; refine wpList_app1 rfl _ _ 61 rfl w.heap.size 33 _ 16 Tryd.underlying61 info_c rfl _ k _ (.complex .f64 q1 q2) rfl rfl rfl (by exact hown) (by first | omega | (simp; omega)) (by first | omega | (simp; omega)) (by first | omega | (simp; omega)) ?_; intro v' w' h1 h2 h3)
              go_roundw
              case rel => exact HNX.out q1 q2 _ _ iw1 iw2 HF.out.symm h1 (hb.trans h2)
              case measure => simp [intOf] <;> omega
          · exfalso
            omega
        · obtain rfl : k = q.length := by omega
          have hlv : l.map zv = plusV p q := by rw [hlm]; unfold plusV; congr 2; omega
          have HR2 : plusR p q = tol (l.map zv) := by rw [hlv]; exact HR.out
          have hl256 : l.length ≤ 256 := by omega
          have hsl := Sl.of_owns hown
          clear hlv hcp hcq
          rcases tol_cases hl256 with ⟨h5, ht⟩ | ⟨h5, ht⟩
          · have HT := hid (told_ok hsl (by omega) h5)
            rw [ht] at HR2
            have HR3 := hid HR2
            clear HR2 ht h5
            go_wp2_with (go_at_call 74; (with_reducible refine HT.out.mono ?_); rintro E8 w8 ⟨rfl, n9, rfl⟩)
            go_ret2
            exact RetPoly.ok rfl (owns_drewN hown _) hlw (below_drewN' hb _) HR3.out
          · have HT := hid (told_bad hsl (by omega) h5)
            rw [ht] at HR2
            have HR3 := hid HR2
            clear HR2 ht h5
            go_wp2_with (go_at_call 74; (with_reducible refine HT.out.mono ?_); rintro E8 w8 ⟨rfl, n9, rfl⟩)
            go_ret2
            exact RetPoly.none rfl (below_drewN' hb _) HR3.out
    · go_enter Tryd.func29, Tryd.ntmps29
      go_wp2_with (first | (go_at_call 73; (with_reducible refine HB.out.mono ?_); rintro E8 w8 ⟨rfl, n8, rfl⟩))
      go_loopw [20, 7] (fun i out w' => PolLoop w (plusA p q) p.length i out w') (fun i _ _ => p.length + 1 - (intOf i).toNat)
      case atStart => exact ⟨0, [], rfl, by omega, rfl, rfl, fun k z hz => by simp at hz, World.ownsRow_nil _ _ _ _, below_drewN' (Below.refl _ w) _⟩
      case round =>
        obtain ⟨k, l, rfl, hk, hlk, hlm, hlw, hown, hb⟩ := hrel
        have hz := hb.size
        by_cases hkn : k < p.length
        · have HNX := hid fun (x y : Nat) v wr => PolLoop.next (w := w) (wr := wr) (v := v) (x := x) (y := y) hkn hlk hlm hlw
          rw [hlk] at hown
          by_cases hkq : k < q.length
          · obtain ⟨⟨q1, q2⟩, hq1⟩ : ∃ z, q[k]? = some z := ⟨q[k]'hkq, List.getElem?_eq_getElem hkq⟩
            obtain ⟨b1, off1, rfl, cq⟩ := hcq k _ hq1
            obtain ⟨iw1, iw2⟩ := hwq k _ hq1
            have cq' := (hb.cell (p := ⟨b1, off1 + k, none⟩) (World.block_lt_of_cell? _ _ cq)).trans cq
            by_cases hkp : k < p.length
            · obtain ⟨⟨p1, p2⟩, hp1⟩ : ∃ z, p[k]? = some z := ⟨p[k]'hkp, List.getElem?_eq_getElem hkp⟩
              obtain ⟨b2, off2, rfl, cp⟩ := hcp k _ hp1
              have cp' := (hb.cell (p := ⟨b2, off2 + k, none⟩) (World.block_lt_of_cell? _ _ cp)).trans cp
              have HF := hid (show plusA p q k = cadd (cv p1 p2) (cv q1 q2) by unfold plusA pz; rw [if_neg (by omega), if_neg (by omega), zv_at hp1, zv_at hq1])
              have g1 : ¬ (q.length : Int) ≤ (k : Int) := by omega
              have g2 : ¬ (p.length : Int) ≤ (k : Int) := by omega
              clear hcp hcq hq1 hp1 cp cq
              go_wp2
              go_region_law (first | (refine step_append_lies _ rfl _ _ 61 rfl w.heap.size 33 iC _ 1 16 Tryd.underlying61 hiC hc0 hc1 hc2 rfl (by decide) u7 k (l.map C) rfl (by exact (owns_drewN hown _).alloc _) ⟨_, 0, none⟩ 1 1 [.complex .f64 _ _] rfl rfl (by exact cell_new _ _ _) (by simp [Value.oneCell']) (by decide) (by unfold maxLen; omega) (by omega) (by simp; omega) _ rfl ?_; intro g5 cap5 w5 hown5 hg5 hat5 hlt5) | (go_simp; go_at_call 41; (with_reducible refine (AddC_z _ _ _ _ _ _ rfl rfl _).mono ?_); rintro E7 w7 ⟨x7, y7, rfl, ⟨n7, rfl⟩, hv7, hx7, hy7⟩))
              all_goals
                have b5 : Below w.heap.size w w5 := Below.grown ((below_drewN' hb _).alloc (by exact hz) _) hg5 (by simp; omega) (fun k hk => (hown.lt k hk).1)
                clear hg5 hat5 hlt5
                go_wp2
                go_roundw
                case rel => exact HNX.out x7 y7 _ _ hx7 hy7 (by rw [HF.out]; exact hv7) hown5 b5
                case measure => simp [intOf] <;> omega
            · exfalso
              omega
          · obtain ⟨⟨p1, p2⟩, hp1⟩ : ∃ z, p[k]? = some z := ⟨p[k]'(by omega), List.getElem?_eq_getElem (by omega)⟩
            obtain ⟨b2, off2, rfl, cp⟩ := hcp k _ hp1
            obtain ⟨iw1, iw2⟩ := hwp k _ hp1
            have cp' := (hb.cell (p := ⟨b2, off2 + k, none⟩) (World.block_lt_of_cell? _ _ cp)).trans cp
            have HF := hid (show plusA p q k = cv p1 p2 by unfold plusA pz; rw [if_pos (by omega), zv_at hp1])
            have g1 : (q.length : Int) ≤ (k : Int) := by omega
            clear hcp hcq hp1 cp
            go_wp2_with (at_builtin; refine wpList_app1 rfl _ _ 61 rfl w.heap.size 33 _ 16 Tryd.underlying61 info_c rfl _ k _ (.complex .f64 p1 p2) rfl rfl rfl (by exact hown) (by first | omega | (simp; omega)) (by first | omega | (simp; omega)) (by first | omega | (simp; omega)) ?_; intro v' w' h1 h2 h3)
            go_roundw
            case rel => exact HNX.out p1 p2 _ _ iw1 iw2 HF.out.symm h1 (hb.trans h2)
            case measure => simp [intOf] <;> omega
        · obtain rfl : k = p.length := by omega
          have hlv : l.map zv = plusV p q := by rw [hlm]; unfold plusV; congr 2; omega
          have HR2 : plusR p q = tol (l.map zv) := by rw [hlv]; exact HR.out
          have hl256 : l.length ≤ 256 := by omega
          have hsl := Sl.of_owns hown
          clear hlv hcp hcq
          rcases tol_cases hl256 with ⟨h5, ht⟩ | ⟨h5, ht⟩
          · have HT := hid (told_ok hsl (by omega) h5)
            rw [ht] at HR2
            have HR3 := hid HR2
            clear HR2 ht h5
            go_wp2_with (go_at_call 74; (with_reducible refine HT.out.mono ?_); rintro E8 w8 ⟨rfl, n9, rfl⟩)
            go_ret2
            exact RetPoly.ok rfl (owns_drewN hown _) hlw (below_drewN' hb _) HR3.out
          · have HT := hid (told_bad hsl (by omega) h5)
            rw [ht] at HR2
            have HR3 := hid HR2
            clear HR2 ht h5
            go_wp2_with (go_at_call 74; (with_reducible refine HT.out.mono ?_); rintro E8 w8 ⟨rfl, n9, rfl⟩)
            go_ret2
            exact RetPoly.none rfl (below_drewN' hb _) HR3.out
  · rw [if_neg h0] at HR0
    have HR := hid HR0
    clear HR0 hcp hcq
    generalize bothE p q = be at *
    go_enter Tryd.func29, Tryd.ntmps29
    go_wp2_with (first | (go_at_call 73; (with_reducible refine HB.out.mono ?_); rintro E8 w8 ⟨rfl, n8, rfl⟩))
    go_ret2
    exact RetPoly.none rfl (below_drewN' (Below.refl _ w) _) HR.out
end Go.Proofs.YtjpimgdmlieinaaDoor
