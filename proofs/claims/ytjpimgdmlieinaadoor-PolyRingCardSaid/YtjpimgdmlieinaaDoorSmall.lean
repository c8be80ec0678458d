/- Polynomials out of small whole parts; are two rows of numbers equal, noughts at the end aside? No condition. -/
import Derived.Test.YtjpimgdmlieinaaDoorPEx
import Derived.Test.YtjpimgdmlieinaaDoorPol4
import Derived.Test.YtjpimgdmlieinaaDoorKitC
import Derived.BigQuiet
import Derived.Deep.QuietTactic
import Derived.Deep.RegionLaw
namespace Go.Proofs.YtjpimgdmlieinaaDoor
open Go.RowKit

/-- A slice of pairs of small whole numbers reads as l. -/
def IsI8 (x : Int) : Prop := -128 ≤ x ∧ x ≤ 127
def SmAt (w : World) (v : Value) (l : List G) : Prop := ∃ a cap, v = .slice a l.length cap ∧ ∀ (k : Nat) (z : G), l[k]? = some z → ∃ b off, a = some ⟨b, off, none⟩ ∧ w.cell? ⟨b, off + k * 2, none⟩ = some (.int .i8 z.1) ∧ w.cell? ⟨b, off + k * 2 + 1, none⟩ = some (.int .i8 z.2)
theorem SmAt.below {w w' : World} {v : Value} {l : List G} (h : SmAt w v l) (hb : Below w.heap.size w w') : SmAt w' v l := by
  obtain ⟨a, cap, rfl, hr⟩ := h
  refine ⟨a, cap, rfl, fun k z hz => ?_⟩
  obtain ⟨b, off, rfl, h1, h2⟩ := hr k z hz
  exact ⟨b, off, rfl, by rw [hb.cell (World.block_lt_of_cell? _ _ h1)]; exact h1, by rw [hb.cell (World.block_lt_of_cell? _ _ h2)]; exact h2⟩
def wfG (l : List G) : Prop := ∀ z ∈ l, IsI8 z.1 ∧ IsI8 z.2
def smG (l : List G) (i : Nat) : G := if i < min l.length 6 then (((l.getD i g0).1).tmod 9, ((l.getD i g0).2).tmod 9) else g0
def smF (l : List G) (i : Nat) : CV := cv (ofInt ((l.getD i g0).1.tmod 9)) (ofInt ((l.getD i g0).2.tmod 9))
theorem tmod_b (x n : Int) (hn : 1 ≤ n ∧ n ≤ 9) : -n < x.tmod n ∧ x.tmod n < n := ⟨Int.lt_tmod_of_pos x (by omega), Int.tmod_lt_of_pos x (by omega)⟩
theorem tmod_i8 (x : Int) {n : Int} (hn : 1 ≤ n ∧ n ≤ 9) : IntKind.i8.wrap (x.tmod n) = x.tmod n := by
  have h := tmod_b x n hn
  simp only [IntKind.wrap, IntKind.bits, IntKind.signed]
  generalize x.tmod n = y at *
  simp
  omega
theorem tmod_w (x : Int) {n : Int} (hn : 1 ≤ n ∧ n ≤ 9) : Ez (val (ofInt (x.tmod n))) (x.tmod n) ∧ IsW (ofInt (x.tmod n)) := by
  have h := tmod_b x n hn
  have e := ez_int (n := x.tmod n) (by omega) (by omega)
  refine ⟨e, ?_⟩
  have hb := List.all_eq_true.1 ezB_all (x.tmod n + 20).toNat (List.mem_range.2 (by omega))
  rw [show (((x.tmod n + 20).toNat : Nat) : Int) - 20 = x.tmod n by omega] at hb
  unfold ezB at hb
  simp only [Bool.and_eq_true, decide_eq_true_eq] at hb
  unfold IsW
  exact hb.1.1
def RetSm (w : World) (l : List G) (E : Ending) (w' : World) : Prop := ∃ v ps, E = .returned v ∧ Sl w' v (ps.map C) ∧ ps.map zv = (List.range (min l.length 6)).map (smF l) ∧ wfP ps ∧ Below w.heap.size w w'
set_option maxRecDepth 100000 in
set_option maxHeartbeats 4000000 in
theorem poly_any (l : List G) (v : Value) (w : World) (hs : SmAt w v l) (hn : l.length ≤ 140737488355328) : Calls Tryd.prog 39 #[v] w (RetSm w l) := by
  obtain ⟨iC, hiC, hc0, hc1, hc2⟩ := info_parts info_c
  obtain ⟨a, cap, rfl, hr⟩ := hs
  go_enter Tryd.func39, Tryd.ntmps39
  go_wp2
  go_loopw [4, 3] (fun i out w' => PolLoop w (smF l) (min l.length 6) i out w') (fun i _ _ => l.length + 1 - (intOf i).toNat)
  case atStart => exact ⟨0, [], rfl, by omega, rfl, rfl, fun k z hz => by simp at hz, World.ownsRow_nil _ _ _ _, Below.refl _ w⟩
  case round =>
    obtain ⟨k, ps, rfl, hk, hlk, hlm, hlw, hown, hb⟩ := hrel
    have hz := hb.size
    by_cases hkn : k < min l.length 6
    · have HNX := hid fun (x y : Nat) v wr => PolLoop.next (w := w) (wr := wr) (v := v) (x := x) (y := y) hkn hlk hlm hlw
      rw [hlk] at hown
      obtain ⟨⟨x, y⟩, hx1⟩ : ∃ z, l[k]? = some z := ⟨l[k]'(by omega), List.getElem?_eq_getElem (by omega)⟩
      obtain ⟨b1, off1, rfl, c1, c2⟩ := hr k _ hx1
      have c1' := (hb.cell (p := ⟨b1, off1 + k * 2, none⟩) (World.block_lt_of_cell? _ _ c1)).trans c1
      have c2' := (hb.cell (p := ⟨b1, off1 + k * 2 + 1, none⟩) (World.block_lt_of_cell? _ _ c2)).trans c2
      have t1 := tmod_i8 x (n := 9) (by omega)
      have t2 := tmod_i8 y (n := 9) (by omega)
      have HW := hid (And.intro (tmod_w x (n := 9) (by omega)).2 (tmod_w y (n := 9) (by omega)).2)
      have HF := hid (show smF l k = cv (ofInt (x.tmod 9)) (ofInt (y.tmod 9)) by unfold smF; rw [List.getD_eq_getElem?_getD, hx1]; rfl)
      have g1 : (k : Int) < (l.length : Int) := by omega
      have g2 : (k : Int) < 6 := by omega
      clear hr hx1 c1 c2
      go_wp2
      go_region_law (first | (refine step_append_lies _ rfl _ _ 61 rfl w.heap.size 33 iC _ 1 16 Tryd.underlying61 hiC hc0 hc1 hc2 rfl (by decide) u3 k (ps.map C) rfl (by exact (owns_drewN hown _).alloc _) ⟨_, 0, none⟩ 1 1 [.complex .f64 _ _] rfl rfl (by exact cell_new _ _ _) (by simp [Value.oneCell']) (by decide) (by unfold maxLen; omega) (by omega) (by simp; omega) _ rfl ?_; intro g5 cap5 w5 hown5 hg5 hat5 hlt5))
      all_goals
        have b5 : Below w.heap.size w w5 := Below.grown (hb.alloc (by exact hz) _).drew hg5 (by simp; omega) (fun k hk => (hown.lt k hk).1)
        clear hg5 hat5 hlt5
        go_wp2
        go_roundw
        case rel => exact HNX.out _ _ _ _ HW.out.1 HW.out.2 HF.out.symm hown5 b5
        case measure => simp [intOf] <;> omega
    · obtain rfl : k = min l.length 6 := by omega
      have HE : RetSm w l (.returned u3) wr := ⟨u3, ps, rfl, Sl.of_owns hown, hlm, hlw, hb⟩
      have HE2 := hid HE
      clear HE hr hlm
      by_cases g1 : l.length ≤ 6
      · have g2 : ¬ ((min l.length 6 : Nat) : Int) < (l.length : Int) := by omega
        clear hkn hk hlk
        go_wp2
        go_ret
        exact HE2.out
      · have g2 : ((min l.length 6 : Nat) : Int) < (l.length : Int) := by omega
        have g3 : ¬ ((min l.length 6 : Nat) : Int) < 6 := by omega
        clear hkn hk hlk
        go_wp2
        go_ret
        exact HE2.out
end Go.Proofs.YtjpimgdmlieinaaDoor
