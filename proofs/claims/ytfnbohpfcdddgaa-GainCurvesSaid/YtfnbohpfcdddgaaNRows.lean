/- gridworkref13.Rows: the reference's table. No condition. -/
import Derived.Test.YtfnbohpfcdddgaaNChk
namespace Go.Proofs.Ytfnbohpfcdddgaa
open Go.RowKit

def rrowC (k : Nat) : List Value := [.int .u8 (if okK k = true then k else 0 : Nat), .int .u8 (letK k), .string (unitK k), .bool (abK k), .bool (phK k), .bool (fourK k)]
def rrowV (k : Nat) : Value := .agg #[.int .u8 (if okK k = true then k else 0 : Nat), .int .u8 (letK k), .string (unitK k), .bool (abK k), .bool (phK k), .bool (fourK k)]
/-- The table. -/
def TabAt (w : World) (b : Nat) : Prop := w.heap[b]? = some (.cells (rrowC 1 ++ rrowC 2 ++ rrowC 3 ++ rrowC 4 ++ rrowC 5 ++ rrowC 6 ++ rrowC 7 ++ rrowC 8).toArray 119 (0, 0))
theorem TabAt.cells {w : World} {b : Nat} (h : TabAt w b) {k : Nat} (h1 : 1 ≤ k) (h8 : k ≤ 8) : w.cell? ⟨b, (k - 1) * 6, none⟩ = some (.int .u8 k) ∧ w.cell? ⟨b, (k - 1) * 6 + 1, none⟩ = some (.int .u8 (letK k)) ∧ w.cell? ⟨b, (k - 1) * 6 + 2, none⟩ = some (.string (unitK k)) ∧ w.cell? ⟨b, (k - 1) * 6 + 3, none⟩ = some (.bool (abK k)) ∧ w.cell? ⟨b, (k - 1) * 6 + 4, none⟩ = some (.bool (phK k)) ∧ w.cell? ⟨b, (k - 1) * 6 + 5, none⟩ = some (.bool (fourK k)) := by
  unfold TabAt at h
  rcases (by omega : k = 1 ∨ k = 2 ∨ k = 3 ∨ k = 4 ∨ k = 5 ∨ k = 6 ∨ k = 7 ∨ k = 8) with rfl | rfl | rfl | rfl | rfl | rfl | rfl | rfl
  all_goals simp [World.cell?, h, rrowC, okK]
theorem TabAt.lt {w : World} {b : Nat} (h : TabAt w b) : b < w.heap.size := (Array.getElem?_eq_some_iff.1 h).1
def RetTab (w : World) (e : Ending) (w' : World) : Prop := ∃ b, e = .returned (.slice (some ⟨b, 0, none⟩) 8 8) ∧ TabAt w' b ∧ w.heap.size ≤ b ∧ Below w.heap.size w w'

theorem info_rrow : (Try.prog.info? 119).map (fun i => (i.zero, i.size)) = some (some (.agg #[.int .u8 0, .int .u8 0, .string ⟨#[]⟩, .bool false, .bool false, .bool false]), 6) := by kernel_rfl

set_option maxRecDepth 100000 in
set_option maxHeartbeats 4000000 in
theorem Rows_any (w : World) : Calls Try.prog 76 #[] w (RetTab w) := by
  go_enter Try.func76, Try.ntmps76
  go_wp2
  go_ret
  exact ⟨w.heap.size, rfl, by unfold TabAt; rw [blk_new]; rfl, Nat.le_refl _, (Below.refl _ w).alloc (Nat.le_refl _) _⟩

end Go.Proofs.Ytfnbohpfcdddgaa

