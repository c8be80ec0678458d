/- The kit's functions on elements that are made or lent: ElementsOf, CopyElements, marks behind. Conditions: lengths as the reach has them. -/
import Derived.Test.YtjpimgdmlieinaaDoorKitE0
import Derived.Test.YtjpimgdmlieinaaDoorR15
import Derived.Test.YtjpimgdmlieinaaDoorKitC
namespace Go.Proofs.YtjpimgdmlieinaaDoor
open Go.RowKit

/-- A slice of elements as they came in: floats as bits. -/
def KsAt (w : World) (v : Value) (L : List El) : Prop := ∃ a cap, v = .slice a L.length cap ∧ ∀ k e, L[k]? = some e → ∃ b off, a = some ⟨b, off, none⟩ ∧ ∀ j x, (kC e)[j]? = some x → w.cell? ⟨b, off + k * 8 + j, none⟩ = some x
theorem KsAt.below {w w' : World} {v : Value} {L : List El} (h : KsAt w v L) (hb : Below w.heap.size w w') : KsAt w' v L := by
  obtain ⟨a, cap, rfl, hr⟩ := h
  refine ⟨a, cap, rfl, fun k e he => ?_⟩
  obtain ⟨b, off, rfl, hc⟩ := hr k e he
  exact ⟨b, off, rfl, fun j x hx => by rw [hb.cell (World.block_lt_of_cell? _ _ (hc j x hx))]; exact hc j x hx⟩
theorem KsAt.at {w : World} {a : Option Addr} {n cap : Nat} {L : List El} (h : KsAt w (.slice a n cap) L) {k : Nat} {e : El} (he : L[k]? = some e) :
    ∃ b off, a = some ⟨b, off, none⟩ ∧ b < w.heap.size ∧ w.cell? ⟨b, off + k * 8, none⟩ = some (.int .u8 e.kind) ∧ w.cell? ⟨b, off + k * 8 + 1, none⟩ = some (.string e.name) ∧ w.cell? ⟨b, off + k * 8 + 2, none⟩ = some (.string e.a) ∧ w.cell? ⟨b, off + k * 8 + 3, none⟩ = some (.string e.b) ∧ w.cell? ⟨b, off + k * 8 + 4, none⟩ = some (.string e.c) ∧ w.cell? ⟨b, off + k * 8 + 5, none⟩ = some (.string e.d) ∧ w.cell? ⟨b, off + k * 8 + 6, none⟩ = some (.int .u64 e.v) ∧ w.cell? ⟨b, off + k * 8 + 7, none⟩ = some (.int .i64 e.ph) := by
  obtain ⟨a', cap', e1, hr⟩ := h
  cases e1
  obtain ⟨b, off, rfl, hc⟩ := hr k e he
  exact ⟨b, off, rfl, World.block_lt_of_cell? _ _ (hc 0 _ rfl), hc 0 _ rfl, hc 1 _ rfl, hc 2 _ rfl, hc 3 _ rfl, hc 4 _ rfl, hc 5 _ rfl, hc 6 _ rfl, hc 7 _ rfl⟩
def EoLoop (W : World) (L : List El) (i out : Value) (w : World) : Prop := ∃ k : Nat, i = .int .i64 k ∧ k ≤ L.length ∧ w.ownsRow W.heap.size 30 8 out k (cellsL (L.take k)) ∧ Below W.heap.size W w

set_option maxRecDepth 100000 in
set_option maxHeartbeats 4000000 in
theorem ElementsOf_any (L : List El) (v0 : Value) (w : World) (hn : L.length ≤ 1000) (hs : KsAt w v0 L) :
    Calls Tryd.prog 14 #[v0] w (RetQ w L) := by
  obtain ⟨iE, hiE, hz0, hz1, hz2⟩ := info_parts info_el
  go_enter Tryd.func14, Tryd.ntmps14
  go_wp2
  go_loopw [4, 3] (fun i out w' => EoLoop w L i out w') (fun i _ _ => L.length + 1 - (intOf i).toNat)
  case atStart => exact ⟨0, rfl, by omega, World.ownsRow_nil _ _ _ _, Below.refl _ _⟩
  case round =>
    obtain ⟨k, rfl, hk, hown, hb⟩ := hrel
    have hz := hb.size
    have hE := hs.below hb
    have hE2 := hE
    obtain ⟨a, cap, rfl, -⟩ := hE2
    by_cases hkn : k < L.length
    · obtain ⟨e, he⟩ : ∃ e, L[k]? = some e := ⟨L[k]'hkn, List.getElem?_eq_getElem hkn⟩
      obtain ⟨b, off, rfl, hbl, c0, c1, c2, c3, c4, c5, c6, c7⟩ := hE.at he
      have g1 : (k : Int) < (L.length : Int) := by omega
      have HS := hid (el_snoc he)
      clear he hE hs
      have HEL := Element_any e
      unfold kV kC elV elC at HEL
      go_wp2_with (first | (go_at_call 52; (with_reducible refine (HEL _).mono ?_); rintro E w2 ⟨rfl, hb2⟩; have hown2 := owns_below hown hb2; clear hown; have hnew := cells_new w2 (elC e) 30; have hzz := hb2.size) | (at_builtin; go_loud (refine wpList_append_lies _ rfl _ _ 25 rfl w.heap.size 30 iE _ 8 104 Tryd.underlying25 hiE hz0 hz1 hz2 rfl (by decide) u3 k (cellsL (L.take k)) rfl (by exact hown2.alloc _) ⟨w2.heap.size, 0, none⟩ 1 1 (elC e) rfl rfl (by exact hnew) (by simp [elC, Value.oneCell']) (by decide) (by unfold maxLen; omega) (by omega) (by simp; omega) _ rfl ?_; intro g2 cap2 w7 hown7 hg7 hat7 hlt7)))
      go_roundw
      case rel => exact ⟨k + 1, by go_num, by omega, by rw [HS.out, cellsL_snoc]; exact hown7, Below.grown (bla _ (bl2 hb hb2)) hg7 (by simp; omega) (fun k hk => (hown2.lt k hk).1)⟩
      case measure => simp [intOf] <;> omega
    · obtain rfl : k = L.length := by omega
      rw [List.take_length] at hown
      go_wp2
      go_ret
      exact ⟨_, rfl, hown, hb⟩

set_option maxRecDepth 100000 in
set_option maxHeartbeats 1000000 in
theorem CopyElements_any (L : List El) (v0 : Value) (w : World) (hn : L.length ≤ 2000) (hs : ElsN w v0 L) :
    Calls Tryd.prog 53 #[v0] w (RetQ w L) := by
  go_enter Tryd.func53, Tryd.ntmps53
  go_wp2_with (at_builtin; go_loud (refine wpList_appE rfl _ _ 25 rfl Tryd.underlying25 w.heap.size (.slice none 0 0) 0 [] v0 L rfl rfl hs (World.ownsRow_nil _ _ _ _) (by omega) (Nat.le_refl _) ?_; intro v' w' h1 h2 h3))
  go_ret
  exact ⟨_, rfl, by simpa using h1, h2⟩

/-- A mark. -/
def markE (i : Nat) : El := ⟨99, ⟨#[]⟩, ⟨#[]⟩, ⟨#[]⟩, ⟨#[]⟩, ⟨#[]⟩, 0, -7007 - (i : Int)⟩
set_option maxRecDepth 100000 in
set_option maxHeartbeats 1000000 in
theorem markElements_any (i : Nat) (hi : i < 6) (w : World) : Calls Tryd.prog 54 #[.int .i64 7, .int .i64 i] w fun E w' => E = .returned (elV (markE i)) ∧ Below w.heap.size w w' := by
  go_enter Tryd.func54, Tryd.ntmps54
  go_wp2
  refine bodyPost_ret (results_el rfl _ _ w.heap.size (markE i) rfl ?_) rfl ?_
  · rw [show (-7000 - (i : Int) - 7) = -7007 - (i : Int) by omega]
    exact blk_new _ _
  · exact ⟨rfl, (Below.refl _ w).alloc (Nat.le_refl _) _⟩

/-- The list that was lent, and the marks behind it. -/
def lentE (L : List El) : List El := L ++ (List.range 6).map markE
theorem lentE_length (L : List El) : (lentE L).length = L.length + 6 := by simp [lentE]
def LeLoop (W : World) (L : List El) (out i : Value) (w : World) : Prop := ∃ k : Nat, i = .int .i64 k ∧ k ≤ 6 ∧ w.ownsRow W.heap.size 30 8 out (L.length + k) (cellsL (L ++ (List.range k).map markE)) ∧ Below W.heap.size W w
set_option maxRecDepth 100000 in
set_option maxHeartbeats 4000000 in
theorem LentElements_any (L : List El) (v0 : Value) (w : World) (hn : L.length ≤ 2000) (hs : ElsN w v0 L) :
    Calls Tryd.prog 15 #[v0] w (RetQ w (lentE L)) := by
  obtain ⟨iE, hiE, hz0, hz1, hz2⟩ := info_parts info_el
  have HC := hid (CopyElements_any L v0 w hn hs)
  go_enter Tryd.func15, Tryd.ntmps15
  go_wp2_with (go_at_call 53; (with_reducible refine HC.out.mono ?_); rintro E1 w1 ⟨v, rfl, h1, h2⟩)
  go_loopw [3, 4] (fun out i w' => LeLoop w L out i w') (fun _ i _ => 6 - (intOf i).toNat)
  case atStart => exact ⟨0, rfl, by omega, by simpa using h1, h2⟩
  case round =>
    clear h1 h2 hs HC
    obtain ⟨k, rfl, hk, hown, hb⟩ := hrel
    have hz := hb.size
    by_cases hkn : k < 6
    · have HEL := markElements_any k hkn
      unfold elV elC markE at HEL
      go_wp2_with (first | (go_at_call 54; (with_reducible refine (HEL _).mono ?_); rintro E w2 ⟨rfl, hb2⟩; have hown2 := owns_below hown hb2; clear hown; have hnew := cells_new w2 (elC (markE k)) 30; have hzz := hb2.size) | (at_builtin; go_loud (refine wpList_append_lies _ rfl _ _ 25 rfl w.heap.size 30 iE _ 8 104 Tryd.underlying25 hiE hz0 hz1 hz2 rfl (by decide) u3 (L.length + k) (cellsL (L ++ (List.range k).map markE)) rfl (by exact hown2.alloc _) ⟨w2.heap.size, 0, none⟩ 1 1 (elC (markE k)) rfl rfl (by exact hnew) (by simp [elC, Value.oneCell']) (by decide) (by unfold maxLen; omega) (by omega) (by simp; omega) _ rfl ?_; intro g2 cap2 w7 hown7 hg7 hat7 hlt7)))
      go_roundw
      case rel => exact ⟨k + 1, by go_num, by omega, by rw [List.range_succ, List.map_append, ← List.append_assoc, List.map_cons, List.map_nil, cellsL_snoc, ← Nat.add_assoc]; exact hown7, Below.grown (bla _ (bl2 hb hb2)) hg7 (by simp; omega) (fun k hk => (hown2.lt k hk).1)⟩
      case measure => simp [intOf] <;> omega
    · obtain rfl : k = 6 := by omega
      go_wp2
      go_ret
      exact ⟨_, rfl, by rw [lentE_length]; exact hown, hb⟩
end Go.Proofs.YtjpimgdmlieinaaDoor
