/- (*gain.powers).at. Condition: the list is made, or to be made. -/
import Derived.Test.YtfalbdlfopfgcaaGreatDoorDd
namespace Go.Proofs.YtfalbdlfopfgcaaGreatDoor
open Go.RowKit

set_option maxRecDepth 100000 in
set_option maxHeartbeats 4000000 in
/-- The list is made already. -/
theorem at_again (b g cap j x : Nat) (hj : j < 632) (w : World) (h0 : w.cell? ⟨b, 0, none⟩ = some (.int .u32 1)) (h3 : w.cell? ⟨b, 3, none⟩ = some (.slice (some ⟨g, 0, none⟩) 632 cap)) (hg : w.cell? ⟨g, j, none⟩ = some (.float .f64 x)) :
    Calls Tryz.prog 47 #[.pointer (some ⟨b, 0, none⟩), .int .i64 ((j : Int) - 323)] w fun e w' => e = .returned (.float .f64 x) ∧ w' = w.alloc (.cells #[.pointer (some ⟨b, 0, none⟩)] 126) := by
  have hmf : ∀ (fn : Fn) (first cap : Array Value) (w : World), (Instr.makeFunc fn first cap).run Tryz.prog w = .ok (.func fn first cap) w := fun _ _ _ _ => rfl
  have a0 : (w.alloc (.cells #[.pointer (some ⟨b, 0, none⟩)] 126)).cell? ⟨b, 0, none⟩ = some (.int .u32 1) := cell_bl h0 ((Below.refl _ w).alloc (Nat.le_refl _) _)
  have a3 := cell_bl h3 ((Below.refl _ w).alloc (Nat.le_refl _) (.cells #[.pointer (some ⟨b, 0, none⟩)] 126))
  have ag := cell_bl hg ((Below.refl _ w).alloc (Nat.le_refl _) (.cells #[.pointer (some ⟨b, 0, none⟩)] 126))
  have gj : (j : Int) - 323 + 323 = (j : Int) := by omega
  have HD := hid (do_done b (.func (.func 74) #[] #[.pointer (some ⟨w.heap.size, 0, none⟩)]) _ a0)
  go_enter Tryz.func47, Tryz.ntmps47
  go_wp2_with (go_at_call 73; (with_reducible refine HD.out.mono ?_); rintro e w' ⟨rfl, rfl⟩)
  go_ret
  exact ⟨rfl, rfl⟩
/-- The list is made: its place and its numbers. -/
def PwDone (w0 : World) (b : Nat) (w : World) : Prop := ∃ g cap, w.cell? ⟨b, 0, none⟩ = some (.int .u32 1) ∧ w.cell? ⟨b, 3, none⟩ = some (.slice (some ⟨g, 0, none⟩) 632 cap) ∧ (∀ j, j < 632 → w.cell? ⟨g, j, none⟩ = some (.float .f64 (teN j))) ∧ Below w0.heap.size w0 w
theorem PwDone.below {w0 w w' : World} {b : Nat} (h : PwDone w0 b w) (hw : w0.heap.size ≤ w.heap.size) (hb : Below w.heap.size w w') : PwDone w0 b w' := by
  obtain ⟨g, cap, h1, h2, h3, h4⟩ := h
  exact ⟨g, cap, cell_bl h1 hb, cell_bl h2 hb, fun j hj => cell_bl (h3 j hj) hb, h4.trans (hb.mono hw)⟩
set_option maxRecDepth 100000 in
set_option maxHeartbeats 4000000 in
/-- The first time: the list is made. -/
theorem at_first (b j : Nat) (hj : j < 632) (w0 w : World) (hT : Tabs w0) (hI : Lib.TabIs Tryz.prog w0 "internal/strconv.uint64pow10" .u64 Lib.pow10Tab) (hb : w0.heap.size ≤ b) (bl : Below w0.heap.size w0 w) (h0 : w.cell? ⟨b, 0, none⟩ = some (.int .u32 0)) (h1 : w.cell? ⟨b, 1, none⟩ = some (.int .i32 0)) (h3 : w.cell? ⟨b, 3, none⟩ = some (.slice none 0 0)) (hf : ∀ o, w.frozen? ⟨b, o, none⟩ = false) :
    Calls Tryz.prog 47 #[.pointer (some ⟨b, 0, none⟩), .int .i64 ((j : Int) - 323)] w fun e w' => e = .returned (.float .f64 (teN j)) ∧ PwDone w0 b w' := by
  have hmf : ∀ (fn : Fn) (first cap : Array Value) (w : World), (Instr.makeFunc fn first cap).run Tryz.prog w = .ok (.func fn first cap) w := fun _ _ _ _ => rfl
  have hbw := World.block_lt_of_cell? _ _ h0
  have hbw : b < w.heap.size := hbw
  have hA : Below w.heap.size w (w.alloc (.cells #[.pointer (some ⟨b, 0, none⟩)] 126)) := (Below.refl _ w).alloc (Nat.le_refl _) _
  have hp : (w.alloc (.cells #[.pointer (some ⟨b, 0, none⟩)] 126)).cell? ⟨w.heap.size, 0, none⟩ = some (.pointer (some ⟨b, 0, none⟩)) := by simp
  have a0 := cell_bl h0 hA
  have a1 := cell_bl h1 hA
  have a3 := cell_bl h3 hA
  have hz : ∀ o, (w.alloc (.cells #[.pointer (some ⟨b, 0, none⟩)] 126)).frozen? ⟨b, o, none⟩ = false := fun o => by
    have e : (w.alloc (.cells #[.pointer (some ⟨b, 0, none⟩)] 126)).heap[b]? = w.heap[b]? := hA.block b hbw
    have := hf o
    unfold World.frozen? at *
    rw [e]
    exact this
  have hsz : (w.alloc (.cells #[.pointer (some ⟨b, 0, none⟩)] 126)).heap.size = w.heap.size + 1 := by simp
  have bA := bl.trans (hA.mono bl.size)
  obtain ⟨wA, hwA⟩ : ∃ wA, wA = w.alloc (.cells #[.pointer (some ⟨b, 0, none⟩)] 126) := ⟨_, rfl⟩
  rw [← hwA] at hp a0 a1 a3 hz hsz bA
  have hS : PwS w0 (w.heap.size + 1) b ⟨w.heap.size, 0, none⟩ 0 (wA.setCell ⟨b, 1, none⟩ (.int .i32 1)) := by
    refine ⟨?_, ?_, World.cell?_setCell_same _ _ _ a1, ⟨_, ?_, World.ownsRow_nil _ _ _ _⟩, ?_, ?_, ?_, bA.setCell hb _, ?_⟩
    · exact (World.cell?_setCell_other _ ⟨b, 1, none⟩ ⟨w.heap.size, 0, none⟩ _ (fun e => by have := congrArg Addr.block e; simp at this; omega)).trans hp
    · exact (World.cell?_setCell_other _ ⟨b, 1, none⟩ ⟨b, 0, none⟩ _ (by simp)).trans a0
    · exact (World.cell?_setCell_other _ ⟨b, 1, none⟩ ⟨b, 3, none⟩ _ (by simp)).trans a3
    · simp [hz]
    · simp [hz]
    · simp [hz]
    · simp [World.setCell]; omega
  have HC := pows_any w0 hT hI (w.heap.size + 1) b ⟨w.heap.size, 0, none⟩ hb bl.size (by omega) (by show w.heap.size < _; omega) (by show b ≠ w.heap.size; omega) _ hS
  have HD := hid (do_first b ⟨w.heap.size, 0, none⟩ (PwS w0 (w.heap.size + 1) b ⟨w.heap.size, 0, none⟩ 632) (fun w2 h => ⟨h.o0, h.o1, h.z0, h.z1⟩) wA a0 a1 (hz 1) HC)
  clear HC hS
  go_enter Tryz.func47, Tryz.ntmps47
  go_upto_region 2 with (first
    | (go_at_call 73; rw [← hwA]; refine HD.out.mono ?_; rintro e w' ⟨rfl, w2, hq, rfl⟩))
  obtain ⟨v, hl, ho⟩ := hq.l
  rcases ho.2 with ⟨_, hn⟩ | ⟨g, cap, cur, rfl, hgN, hgc, hn1, hn2, hn3, hn4⟩
  · omega
  · have hgl : ∀ i, i < 632 → w2.cell? ⟨g, i, none⟩ = some (.float .f64 (teN i)) := by
      intro i hi
      have h5 : cur[i]? = some (.float .f64 (teN i)) := by
        have h6 := congrArg (·[i]?) hn4
        rw [Nat.mul_one] at h6
        simp only [List.getElem?_take, if_pos hi] at h6
        rw [← Array.getElem?_toList, h6]
        unfold teL
        rw [List.getElem?_map, List.getElem?_range hi]
        rfl
      simp [World.cell?, hgc, h5]
    have n1 : ∀ o o2 : Nat, (⟨b, o, none⟩ : Addr) ≠ ⟨g, o2, none⟩ := fun o o2 e => by have := congrArg Addr.block e; simp at this; omega
    have n2 : ∀ o : Nat, (⟨b, o, none⟩ : Addr) ≠ ⟨w.heap.size, 0, none⟩ := fun o e => by have := congrArg Addr.block e; simp at this; omega
    obtain ⟨w5, hw5⟩ : ∃ w5, w5 = ((w2.setCell ⟨b, 0, none⟩ (.int .u32 1)).setCell ⟨b, 1, none⟩ (.int .i32 0)).drew := ⟨_, rfl⟩
    rw [← hw5]
    have cp : w5.cell? ⟨w.heap.size, 0, none⟩ = some (.pointer (some ⟨b, 0, none⟩)) := by
      rw [hw5]
      exact (World.cell?_setCell_other _ _ _ _ (n2 1)).trans ((World.cell?_setCell_other _ _ _ _ (n2 0)).trans hq.p)
    have c3 : w5.cell? ⟨b, 3, none⟩ = some (.slice (some ⟨g, 0, none⟩) 632 cap) := by
      rw [hw5]
      exact (World.cell?_setCell_other _ ⟨b, 1, none⟩ ⟨b, 3, none⟩ _ (by simp)).trans ((World.cell?_setCell_other _ ⟨b, 0, none⟩ ⟨b, 3, none⟩ _ (by simp)).trans hl)
    have c0 : w5.cell? ⟨b, 0, none⟩ = some (.int .u32 1) := by
      rw [hw5]
      exact (World.cell?_setCell_other _ ⟨b, 1, none⟩ ⟨b, 0, none⟩ _ (by simp)).trans (World.cell?_setCell_same _ _ _ hq.o0)
    have cg : ∀ i, i < 632 → w5.cell? ⟨g, i, none⟩ = some (.float .f64 (teN i)) := fun i hi => by
      rw [hw5]
      exact (World.cell?_setCell_other _ _ _ _ (n1 1 i)).trans ((World.cell?_setCell_other _ _ _ _ (n1 0 i)).trans (hgl i hi))
    have b5 : Below w0.heap.size w0 w5 := by
      rw [hw5]
      exact ((hq.bl.setCell hb _).setCell hb _).trans ⟨rfl, rfl, rfl, Nat.le_refl _, fun _ _ => rfl⟩
    have gj : (j : Int) - 323 + 323 = (j : Int) := by omega
    have cj := cg j hj
    clear hw5 hl ho hgl hq HD
    go_wp2
    go_ret
    exact ⟨rfl, g, cap, c0, c3, cg, b5⟩
end Go.Proofs.YtfalbdlfopfgcaaGreatDoor

