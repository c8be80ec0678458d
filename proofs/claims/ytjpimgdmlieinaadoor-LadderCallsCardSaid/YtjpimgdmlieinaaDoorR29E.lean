/- gridworkref29: node, Elements. Condition: kinds are bytes. -/
import Derived.Test.YtjpimgdmlieinaaDoorNLad
import Derived.Test.YtjpimgdmlieinaaDoorR15
import Derived.Deep.CutRange
import Derived.Deep.RegionLaw
import Derived.BigRegion
import Derived.Deep.RegionHeld3
import Derived.IntWalk
import Derived.Deep.AppendLies
namespace Go.Proofs.YtjpimgdmlieinaaDoor
open Go.RowKit

theorem node_small (i : Nat) (h : i < 10) : (⟨#[97]⟩ : ByteArray) ++ strOfNums [48 + (i : Int)] = aN i := by
  unfold aN
  rw [Lib.decDigits_one (by omega)]
  rcases (by omega : i = 0 ∨ i = 1 ∨ i = 2 ∨ i = 3 ∨ i = 4 ∨ i = 5 ∨ i = 6 ∨ i = 7 ∨ i = 8 ∨ i = 9) with rfl | rfl | rfl | rfl | rfl | rfl | rfl | rfl | rfl | rfl <;> decide
theorem node_great (i : Nat) (h : 10 ≤ i) (h2 : i < 20) : (⟨#[97, 49]⟩ : ByteArray) ++ strOfNums [48 + (i : Int) - 10] = aN i := by
  unfold aN
  rw [Lib.decDigits_two (by omega) (by omega)]
  rcases (by omega : i = 10 ∨ i = 11 ∨ i = 12 ∨ i = 13 ∨ i = 14 ∨ i = 15 ∨ i = 16 ∨ i = 17 ∨ i = 18 ∨ i = 19) with rfl | rfl | rfl | rfl | rfl | rfl | rfl | rfl | rfl | rfl <;> decide
set_option maxRecDepth 100000 in
set_option maxHeartbeats 1000000 in
theorem rnode_any (i : Nat) (hi : i < 20) (w : World) : Calls Tryd.prog 97 #[.int .i64 i] w (RetV w (.string (aN i))) := by
  have hcv : ∀ (c : Int) (w0 : World), (convert 26 9 (.slice (some ⟨w0.heap.size, 0, none⟩) 1 1)).run Tryd.prog (w0.alloc (.cells #[.int .u8 c] 5)) = .ok (.string (strOfNums [c])) (w0.alloc (.cells #[.int .u8 c] 5)) := by
    intro c w0
    refine run_convert_bytes_arg (P := Tryd.prog) _ 26 5 Tryd.underlying26 Tryd.underlying5 w0.heap.size 0 1 1 [c] rfl (fun i hi => ?_) 9 Tryd.underlying9
    obtain rfl : i = 0 := by omega
    rw [World.cell?_alloc_new]
    rfl
  by_cases h : i < 10
  · have g1 : (i : Int) < 10 := by omega
    have H := hid (node_small i h)
    obtain ⟨nm, hnm⟩ : ∃ nm, nm = strOfNums [48 + (i : Int)] := ⟨_, rfl⟩
    have hsz : nm.size = 1 := by rw [hnm, strOfNums_size]; rfl
    have hc2 := hcv (48 + (i : Int)) w
    rw [← hnm] at hc2 H
    clear hcv hnm h
    go_enter Tryd.func97, Tryd.ntmps97
    go_wp2
    go_ret
    exact ⟨by rw [← H.out]; rfl, (Below.refl _ w).alloc (Nat.le_refl _) _⟩
  · have g1 : ¬ (i : Int) < 10 := by omega
    have H := hid (node_great i (by omega) hi)
    obtain ⟨nm, hnm⟩ : ∃ nm, nm = strOfNums [48 + (i : Int) - 10] := ⟨_, rfl⟩
    have hsz : nm.size = 1 := by rw [hnm, strOfNums_size]; rfl
    have hc2 := hcv (48 + (i : Int) - 10) w
    rw [← hnm] at hc2 H
    clear hcv hnm h
    go_enter Tryd.func97, Tryd.ntmps97
    go_wp2
    go_ret
    exact ⟨by rw [← H.out]; rfl, (Below.refl _ w).alloc (Nat.le_refl _) _⟩
theorem two_els (w : World) (s t : El) : ElAt (((w.alloc (.cells (elC s).toArray 30)).alloc (.cells (elC t).toArray 30)).drew) w.heap.size s ∧ ElAt (((w.alloc (.cells (elC s).toArray 30)).alloc (.cells (elC t).toArray 30)).drew) (w.heap.size + 1) t ∧ Below w.heap.size w (((w.alloc (.cells (elC s).toArray 30)).alloc (.cells (elC t).toArray 30)).drew) := by
  have h1 : Below (w.alloc (.cells (elC s).toArray 30)).heap.size (w.alloc (.cells (elC s).toArray 30)) (((w.alloc (.cells (elC s).toArray 30)).alloc (.cells (elC t).toArray 30)).drew) := ((Below.refl _ _).alloc (Nat.le_refl _) _).drew
  have h0 : Below w.heap.size w (w.alloc (.cells (elC s).toArray 30)) := (Below.refl _ _).alloc (Nat.le_refl _) _
  refine ⟨(ElAt.new w s).below h1 (by simp), ?_, h0.trans (h1.mono h0.size)⟩
  have h2 := ElAt.new (w.alloc (.cells (elC s).toArray 30)) t
  rw [World.size_alloc] at h2
  exact h2
theorem el_b {a c : World} {b : Nat} {e : El} (h : ElAt a b e) (hb : Below a.heap.size a c) : ElAt c b e := h.below hb h.lt
theorem el_d {a : World} {b : Nat} {e : El} (h : ElAt a b e) : ElAt a.drew b e := h
theorem el_a {a : World} {b : Nat} {e : El} (o : Obj) (h : ElAt a b e) : ElAt (a.alloc o) b e := el_b h ((Below.refl _ _).alloc (Nat.le_refl _) o)
theorem el_g {a c : World} {b : Nat} {e : El} {row : Option Nat} (h : ElAt a b e) (hg : a.grownBy c row) (hne : row ≠ some b) : ElAt c b e := by
  have hl := h.lt
  unfold ElAt at *
  rw [hg.block b hl (fun e1 => hne e1.symm), h]
theorem cell_al {w : World} {p : Addr} {v : Value} (o : Obj) (h : w.cell? p = some v) : (w.alloc o).cell? p = some v := by
  rw [((Below.refl w.heap.size w).alloc (Nat.le_refl _) o).cell (World.block_lt_of_cell? _ _ h)]
  exact h
theorem app_ne {w : World} {o : Obj} {v : Value} {g b n c : Nat} (hat : v.ownBlock = some g ∨ g = (w.alloc o).heap.size) (hne : v.ownBlock ≠ some b) (hb : b < w.heap.size) : (Value.slice (some ⟨g, 0, none⟩) n c).ownBlock ≠ some b := by
  intro hq
  have hq2 : g = b := Option.some.inj hq
  rcases hat with h | h
  · rw [h, hq2] at hne
    exact hne rfl
  · rw [hq2, World.size_alloc] at h
    omega
theorem own_b {a c : World} {B e size n : Nat} {v : Value} {xs : List Value} (h : a.ownsRow B e size v n xs) (hb : Below a.heap.size a c) : c.ownsRow B e size v n xs := h.kept (grown_of_below hb) (own_none _)
theorem own_d {a : World} {B e size n : Nat} {v : Value} {xs : List Value} (h : a.ownsRow B e size v n xs) : a.drew.ownsRow B e size v n xs := own_b h (Below.refl _ _).drew
theorem own_a {a : World} {B e size n : Nat} {v : Value} {xs : List Value} (o : Obj) (h : a.ownsRow B e size v n xs) : (a.alloc o).ownsRow B e size v n xs := h.alloc o
theorem be_b {A a c : World} (h : Below A.heap.size A a) (hb : Below a.heap.size a c) : Below A.heap.size A c := h.trans (hb.mono h.size)
theorem be_d {A a : World} (h : Below A.heap.size A a) : Below A.heap.size A a.drew := h.drew
theorem be_a {A a : World} (o : Obj) (h : Below A.heap.size A a) : Below A.heap.size A (a.alloc o) := h.alloc h.size o
def ElL (W : World) (S T : List El) (i out : Value) (w : World) : Prop := ∃ k : Nat, i = .int .i64 k ∧ k ≤ S.length ∧ w.ownsRow W.heap.size 30 8 out (ladN S T k).length (cellsL (ladN S T k)) ∧ Below W.heap.size W w
set_option maxRecDepth 100000 in
set_option maxHeartbeats 8000000 in
theorem rElements29_any (S T : List El) (vs vt : Value) (w : World) (hS : ElsAt w vs S) (hT : ElsAt w vt T) (hlen : T.length = S.length) (hn : S.length ≤ 16) : Calls Tryd.prog 57 #[vs, vt] w (RetEls w (ladN S T S.length)) := by
  obtain ⟨iE, hiE, hz0, hz1, hz2⟩ := info_parts info_el
  have HTL := hid hlen
  clear hlen
  go_enter Tryd.func57, Tryd.ntmps57
  go_wp2
  go_loopw [6, 5] (fun i out w' => ElL w S T i out w') (fun i _ _ => S.length + 1 - (intOf i).toNat)
  case atStart => exact ⟨0, rfl, by omega, World.ownsRow_nil _ _ _ _, Below.refl _ _⟩
  case round =>
    obtain ⟨k, rfl, hk, hown, hb⟩ := hrel
    have hS2 := hS.below hb
    have hT2 := hT.below hb
    obtain ⟨sa, sc, rfl⟩ := hS2.form
    obtain ⟨ta, tc, rfl⟩ := hT2.form
    by_cases hkn : k < S.length
    · obtain ⟨s, hs⟩ : ∃ s, S[k]? = some s := ⟨S[k]'hkn, List.getElem?_eq_getElem hkn⟩
      obtain ⟨t, ht⟩ : ∃ t, T[k]? = some t := ⟨T[k]'(by rw [HTL.out]; exact hkn), List.getElem?_eq_getElem (by rw [HTL.out]; exact hkn)⟩
      obtain ⟨b1, off1, rfl, l1, x0, x1, x2, x3, x4, x5, x6, x7⟩ := hS2.at hs
      obtain ⟨b2, off2, rfl, l2, y0, y1, y2, y3, y4, y5, y6, y7⟩ := hT2.at ht
      have g1 : (k : Int) < (S.length : Int) := by omega
      have g2 : (k : Int) < (T.length : Int) := by have := HTL.out; omega
      have HS := hid hS
      have HT := hid hT
      have HSK := hid hs
      have HTK := hid ht
      clear hS hT hS2 hT2 hs ht
      go_upto_region 5 with (fail)
      go_cut [7, 8] from 15 to 22 (fun p q wx => ∃ b7 b8, p = .pointer (some ⟨b7, 0, none⟩) ∧ q = .pointer (some ⟨b8, 0, none⟩) ∧ ElAt wx b7 s ∧ ElAt wx b8 t ∧ wr.heap.size ≤ b7 ∧ wr.heap.size ≤ b8 ∧ Below wr.heap.size wr wx)
      case first =>
        go_big_region
        all_goals
          go_wp2
          go_meet
        · exact ⟨_, _, rfl, rfl, (two_els wr s t).1, (two_els wr s t).2.1, by omega, by omega, (two_els wr s t).2.2⟩
        · exact ⟨_, _, rfl, rfl, (two_els wr t s).2.1, (two_els wr t s).1, by omega, by omega, (two_els wr t s).2.2⟩
      obtain ⟨b7, b8, rfl, rfl, E7, E8, n7, n8, hbn⟩ := hcut
      have hown2 := own_b hown hbn
      have hb2 := be_b hb hbn
      have hne8 : u5.ownBlock ≠ some b8 := fun hq => by
        have := (hown.lt b8 hq).2
        omega
      have hne7 : u5.ownBlock ≠ some b7 := fun hq => by
        have := (hown.lt b7 hq).2
        omega
      have hz := hb2.size
      have hll := ladN_len S T k
      rw [hll] at hown2
      have w0 : IntKind.i64.wrap ((k : Int) + 1) = (k : Int) + 1 := IntWalk.i64_in _ (by omega)
      have HN0 := hid fun w => rnode_any k (by omega) w
      have HN1 := hid fun w => (show Calls Tryd.prog 97 #[.int .i64 ((k : Int) + 1)] w (RetV w (.string (aN (k + 1)))) from by have := rnode_any (k + 1) (by omega) w; rw [show (((k + 1 : Nat) : Int)) = (k : Int) + 1 by omega] at this; exact this)
      clear hown hb hbn x0 x1 x2 x3 x4 x5 x6 x7 y0 y1 y2 y3 y4 y5 y6 y7 l1 l2 n7 n8
      obtain ⟨k0, k1, -, -, -, -, k6, -⟩ := E7.cells
      go_upto_region 6 with (fail)
      go_cut [5] from 23 to 37 (fun v wx => wx.ownsRow w.heap.size 30 8 v (2 * k + 1) (cellsL (ladN S T k) ++ elC (ladS s (aN k) (aN (k + 1)))) ∧ ElAt wx b8 t ∧ v.ownBlock ≠ some b8 ∧ Below w.heap.size w wx)
      case first =>
        go_region_held3 (fun w' => w'.cell? ⟨b7, 0, none⟩ = some (.int .u8 s.kind) ∧ w'.cell? ⟨b7, 1, none⟩ = some (.string s.name) ∧ w'.cell? ⟨b7, 6, none⟩ = some (.float .f64 s.v)) (first | exact ⟨k0, k1, k6⟩ | exact ⟨cell_al _ k0, cell_al _ k1, cell_al _ k6⟩) (first | (go_at_call 97; (first | (with_reducible refine (HN0.out _).mono ?_) | (with_reducible refine (HN1.out _).mono ?_)); rintro e2 w2 ⟨rfl, hb3⟩; have KB : ElAt w2 b7 s := (by first | exact el_b KB hb3 | exact el_b (el_d E7) hb3); have KC : ElAt w2 b8 t := (by first | exact el_b KC hb3 | exact el_b (el_d E8) hb3); have OW : w2.ownsRow w.heap.size 30 8 u5 (2 * k) (cellsL (ladN S T k)) := (by first | exact own_b OW hb3 | exact own_b (own_d hown2) hb3); have BW : Below w.heap.size w w2 := (by first | exact be_b BW hb3 | exact be_b (be_d hb2) hb3); obtain ⟨k0, k1, -, -, -, -, k6, -⟩ := KB.cells; clear hb3) | (refine step_append_lies _ rfl _ _ 25 rfl w.heap.size 30 iE _ 8 104 Tryd.underlying25 hiE hz0 hz1 hz2 rfl (by decide) u5 (2 * k) (cellsL (ladN S T k)) rfl (by exact own_a _ OW) ⟨w2.heap.size, 0, none⟩ 1 1 (elC (ladS s (aN k) (aN (k + 1)))) rfl rfl (by exact cells_new w2 (elC (ladS s (aN k) (aN (k + 1)))) 30) (by simp [elC, Value.oneCell']) (by decide) (by unfold maxLen; omega) (by omega) (by have := BW.size; simp; omega) _ rfl ?_; intro g2 cap2 w7 hown7 hg7 hat7 hlt7; have KB : ElAt w7 b7 s := el_g (el_a _ KB) (by exact hg7) hne7; obtain ⟨k0, k1, -, -, -, -, k6, -⟩ := KB.cells; have KC0 := KC; have KC : ElAt w7 b8 t := el_g (el_a _ KC) (by exact hg7) hne8; have BW7 : Below w.heap.size w w7 := Below.grown (be_a _ BW) (by exact hg7) (by have := BW.size; simp; omega) (fun k hk => (OW.lt k hk).1); have NE8 : (Value.slice (some ⟨g2, 0, none⟩) (2 * k + 1) cap2).ownBlock ≠ some b8 := app_ne hat7 hne8 KC0.lt))
        all_goals
          go_wp2
          go_meet
          exact ⟨hown7, KC, NE8, BW7⟩
      clear hown2 hb2 hne8 hne7 hz k0 k1 k6 E7 E8
      obtain ⟨hown2, E8, hne8, hb2⟩ := hcut
      have hz := hb2.size
      obtain ⟨k0, k1, -, -, -, -, k6, -⟩ := E8.cells
      go_upto_region 7 with (fail)
      go_region_held3 (fun w' => w'.cell? ⟨b8, 0, none⟩ = some (.int .u8 t.kind) ∧ w'.cell? ⟨b8, 1, none⟩ = some (.string t.name) ∧ w'.cell? ⟨b8, 6, none⟩ = some (.float .f64 t.v)) (first | exact ⟨k0, k1, k6⟩ | exact ⟨cell_al _ k0, cell_al _ k1, cell_al _ k6⟩) (first | (go_at_call 97; (with_reducible refine (HN1.out _).mono ?_); rintro e2 w2 ⟨rfl, hb3⟩; have KB : ElAt w2 b8 t := (by first | exact el_b KB hb3 | exact el_b (el_d E8) hb3); have OW : w2.ownsRow w.heap.size 30 8 u5 (2 * k + 1) (cellsL (ladN S T k) ++ elC (ladS s (aN k) (aN (k + 1)))) := (by first | exact own_b OW hb3 | exact own_b (own_d hown2) hb3); have BW : Below w.heap.size w w2 := (by first | exact be_b BW hb3 | exact be_b (be_d hb2) hb3); obtain ⟨k0, k1, -, -, -, -, k6, -⟩ := KB.cells; clear hb3) | (refine step_append_lies _ rfl _ _ 25 rfl w.heap.size 30 iE _ 8 104 Tryd.underlying25 hiE hz0 hz1 hz2 rfl (by decide) u5 (2 * k + 1) (cellsL (ladN S T k) ++ elC (ladS s (aN k) (aN (k + 1)))) rfl (by exact own_a _ OW) ⟨w2.heap.size, 0, none⟩ 1 1 (elC (ladS t (aN (k + 1)) ⟨#[48]⟩)) rfl rfl (by exact cells_new w2 (elC (ladS t (aN (k + 1)) ⟨#[48]⟩)) 30) (by simp [elC, Value.oneCell']) (by decide) (by unfold maxLen; omega) (by omega) (by have := BW.size; simp; omega) _ rfl ?_; intro g2 cap2 w7 hown7 hg7 hat7 hlt7; have KB : ElAt w7 b8 t := el_g (el_a _ KB) (by exact hg7) hne8; obtain ⟨k0, k1, -, -, -, -, k6, -⟩ := KB.cells; have BW7 : Below w.heap.size w w7 := Below.grown (be_a _ BW) (by exact hg7) (by have := BW.size; simp; omega) (fun k hk => (OW.lt k hk).1)))
      all_goals
        go_wp2
        go_roundw
        case rel =>
          refine ⟨k + 1, by go_num, by omega, ?_, BW7⟩
          have e1 : ladN S T (k + 1) = ladN S T k ++ [ladS s (aN k) (aN (k + 1)), ladS t (aN (k + 1)) ⟨#[48]⟩] := by
            rw [ladN, List.getD_eq_getElem?_getD, List.getD_eq_getElem?_getD, HSK.out, HTK.out]
            rfl
          have e2 : cellsL (ladN S T (k + 1)) = cellsL (ladN S T k) ++ elC (ladS s (aN k) (aN (k + 1))) ++ elC (ladS t (aN (k + 1)) ⟨#[48]⟩) := by
            rw [e1]
            simp [cellsL]
          rw [e2, ladN_len, show 2 * (k + 1) = 2 * k + 1 + 1 by omega]
          exact hown7
        case measure => simp [intOf] <;> omega
    · obtain rfl : k = S.length := by omega
      go_wp2
      go_ret
      exact ⟨_, rfl, hown, hb⟩
end Go.Proofs.YtjpimgdmlieinaaDoor
