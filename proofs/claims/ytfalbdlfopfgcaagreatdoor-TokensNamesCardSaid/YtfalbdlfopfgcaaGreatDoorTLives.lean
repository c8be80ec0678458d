/- The chapter's first example: true. No condition. -/
import Derived.Test.YtfalbdlfopfgcaaGreatDoorTJoin
namespace Go.Proofs.YtfalbdlfopfgcaaGreatDoor
open Go.RowKit

def lvS : List UInt8 := [82, 49, 32, 97, 32, 48, 32, 52, 46, 55, 107, 32, 42, 32, 108, 111, 97, 100]
def lvR : List (List Tok) := [[([82, 49], 0, 0), ([97], 0, 3), ([48], 0, 5), ([52, 46, 55, 107], 0, 7)]]
theorem lv_cut : cutOut lvS = (lvR, 0, 0) := by decide
theorem lv_join : joinT lvR = [82, 49, 32, 97, 32, 48, 32, 52, 46, 55, 107, 10] := by decide
theorem lv_Cut (w : World) : Calls Tryz.prog 7 #[.string ⟨#[82, 49, 32, 97, 32, 48, 32, 52, 46, 55, 107, 32, 42, 32, 108, 111, 97, 100]⟩] w fun e w' => ∃ V vs, e = .returned (.tuple #[V, .agg #[.int .i64 0, .int .i64 0]]) ∧ Grid w' w.heap.size V lvR vs ∧ Below w.heap.size w w' := by
  refine (Cut_any lvS w (by decide)).mono ?_
  rintro e w' ⟨V, vs, h1, h2, h3⟩
  rw [lv_cut] at h1 h2
  exact ⟨V, vs, h1, h2, h3⟩

/-- A row of one row, written out. -/
theorem Grid.lit (w : World) (N : Nat) (hN : N = w.heap.size) (cs : Array Value) (r : List Tok) (n : Nat) (hn : n = r.length) (hr : cs.toList = cellsOf r) (hl : n ≤ maxLen) : Grid ((w.alloc (.cells cs 33)).alloc (.cells #[.slice (some ⟨N, 0, none⟩) n n] 35)) N
    (.slice (some ⟨N + 1, 0, none⟩) 1 1) [r] [.slice (some ⟨N, 0, none⟩) n n] := by
  subst hN hn
  generalize hu : Value.slice (some ⟨w.heap.size, 0, none⟩) r.length r.length = u
  have h0 : ((w.alloc (.cells cs 33)).alloc (.cells #[u] 35)).heap[w.heap.size]? = some (.cells cs 33 (0, 0)) := by
    rw [blk_alloc_lt' _ _ _ (by simp)]
    show (w.heap.push _)[w.heap.size]? = _
    simp
  have h1 : ((w.alloc (.cells cs 33)).alloc (.cells #[u] 35)).heap[w.heap.size + 1]? = some (.cells #[u] 35 (0, 0)) := by
    have hs : (w.alloc (.cells cs 33)).heap.size = w.heap.size + 1 := by simp
    generalize w.alloc (.cells cs 33) = w1 at *
    rw [← hs]
    show (w1.heap.push _)[_]? = _
    simp
  have hcs : cs.size = r.length * 3 := by rw [← Array.length_toList, hr, cellsOf_len]
  refine ⟨rfl, ?_, ?_, ?_, ?_⟩
  · refine ⟨rfl, .inr ⟨_, 1, _, rfl, by omega, h1, by simp, by unfold maxLen; omega, rfl, rfl⟩⟩
  · intro i v q hv hq
    have hi := (List.getElem?_eq_some_iff.1 hv).1
    simp only [List.length_singleton] at hi
    obtain rfl : i = 0 := by omega
    simp only [List.getElem?_cons_zero, Option.some.injEq] at hv hq
    subst hv hq hu
    exact ⟨cellsOf_len _, .inr ⟨_, r.length, cs, rfl, Nat.le_refl _, h0, Nat.le_refl _, hl, hcs, by rw [hr]; exact List.take_of_length_le (by rw [cellsOf_len]; omega)⟩⟩
  · intro i v hv
    have hi := (List.getElem?_eq_some_iff.1 hv).1
    simp only [List.length_singleton] at hi
    obtain rfl : i = 0 := by omega
    simp only [List.getElem?_cons_zero, Option.some.injEq] at hv
    subst hv hu
    exact .inr (by simp [Value.ownBlock])
  · intro i j v u hij hv hu
    have hi := (List.getElem?_eq_some_iff.1 hv).1
    have hj := (List.getElem?_eq_some_iff.1 hu).1
    simp only [List.length_singleton] at hi hj
    omega

theorem lv_same (w w2 : World) (N b : Nat) (V : Value) (vs : List Value) (hG : Grid w2 b V lvR vs) (hN : N = w.heap.size)
    (hw : w2 = (w.alloc (.cells #[.string ⟨#[82, 49]⟩, .int .i64 0, .int .i64 0, .string ⟨#[97]⟩, .int .i64 0, .int .i64 3, .string ⟨#[48]⟩, .int .i64 0, .int .i64 5, .string ⟨#[52, 46, 55, 107]⟩, .int .i64 0, .int .i64 7] 33)).alloc (.cells #[.slice (some ⟨N, 0, none⟩) 4 4] 35)) :
    Calls Tryz.prog 10 #[V, .slice (some ⟨N + 1, 0, none⟩) 1 1] w2 fun e w' => e = .returned (.bool true) ∧ ∃ n, w' = w2.drewN n := by
  have h := Grid.lit w N hN #[.string ⟨#[82, 49]⟩, .int .i64 0, .int .i64 0, .string ⟨#[97]⟩, .int .i64 0, .int .i64 3, .string ⟨#[48]⟩, .int .i64 0, .int .i64 5, .string ⟨#[52, 46, 55, 107]⟩, .int .i64 0, .int .i64 7] [([82, 49], 0, 0), ([97], 0, 3), ([48], 0, 5), ([52, 46, 55, 107], 0, 7)] 4 rfl rfl (by decide)
  rw [← hw] at h
  exact same_any w2 b N V _ lvR vs _ hG h
theorem lv_Join (w : World) (b : Nat) (V : Value) (vs : List Value) (hG : Grid w b V lvR vs) : Calls Tryz.prog 28 #[V] w fun e w' => e = .returned (.string ⟨#[82, 49, 32, 97, 32, 48, 32, 52, 46, 55, 107, 10]⟩) ∧ Below w.heap.size w w' := by
  have h := Join_any w b V lvR vs hG (by rw [lv_join]; decide)
  rw [lv_join] at h
  exact h

set_option maxRecDepth 100000 in
set_option maxHeartbeats 1000000 in
theorem lives_any (w : World) : Calls Tryz.prog 11 #[] w fun e w' => e = .returned (.bool true) ∧ Below w.heap.size w w' := by
  go_enter Tryz.func11, Tryz.ntmps11
  go_wp2_with (first | (go_at_call 7; refine (lv_Cut _).mono ?_; rintro e w1 ⟨V, vs, rfl, hG, hb⟩; have hz := hb.size) | (go_at_call 10; refine (lv_same _ _ (w1.heap.size + 1) w.heap.size V vs (hG.below ((((Below.refl _ _).alloc (Nat.le_refl _) _).alloc (by simp) _).alloc (by simp; omega) _)) (by simp) rfl).mono ?_; rintro e w2 ⟨rfl, n, rfl⟩) | (go_at_call 28; refine (lv_Join _ w.heap.size V vs (Grid.drewN (hG.below ((((Below.refl _ _).alloc (Nat.le_refl _) _).alloc (by simp) _).alloc (by simp; omega) _)) n)).mono ?_; rintro e w3 ⟨rfl, hb3⟩))
  go_ret
  refine ⟨rfl, hb.trans (((((Below.refl w.heap.size w1).alloc hz _).alloc (by simp; omega) _).alloc (by simp; omega) _).trans (below_mono (below_of_drewN hb3) (by simp; omega)))⟩
end Go.Proofs.YtfalbdlfopfgcaaGreatDoor

