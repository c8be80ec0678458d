/- gridworkkit.Element: an element out of bits. No condition. -/
import Derived.Test.YtjpimgdmlieinaaDoorNmB
import Derived.StillTailTactics
import Derived.BigRegion
namespace Go.Proofs.YtjpimgdmlieinaaDoor
open Go.RowKit

/-- An element out of bits: its cells. -/
def kC (e : El) : List Value := [.int .u8 e.kind, .string e.name, .string e.a, .string e.b, .string e.c, .string e.d, .int .u64 e.v, .int .i64 e.ph]
def kV (e : El) : Value := .agg (kC e).toArray
theorem size_new (w : World) (o : Obj) : (w.alloc o).heap.size = w.heap.size + 1 := by simp
theorem blk_new2 (w : World) (cs : Array Value) (t : Nat) (o : Obj) : (World.drew ((w.alloc (.cells cs t)).alloc o)).heap[w.heap.size]? = some (.cells cs t (0, 0)) := by
  have h1 : (w.alloc (.cells cs t)).heap[w.heap.size]? = some (.cells cs t (0, 0)) := blk_new w (.cells cs t)
  have h3 := Below.heap_alloc (w.alloc (.cells cs t)) o w.heap.size (by rw [size_new]; omega)
  exact h3.trans h1
set_option maxRecDepth 100000 in
set_option maxHeartbeats 1000000 in
theorem Element_any (e : El) (w : World) : Calls Tryd.prog 52 #[kV e] w fun E w' => E = .returned (elV e) ∧ Below w.heap.size w w' := by
  show Calls _ _ #[.agg #[.int .u8 e.kind, .string e.name, .string e.a, .string e.b, .string e.c, .string e.d, .int .u64 e.v, .int .i64 e.ph]] _ _
  go_enter Tryd.func52, Tryd.ntmps52
  go_wp2
  obtain ⟨wb, hwb⟩ : ∃ wb, wb = World.drew ((w.alloc (.cells #[.int .u8 e.kind, .string e.name, .string e.a, .string e.b, .string e.c, .string e.d, .int .u64 e.v, .int .i64 e.ph] 96)).alloc (.cells #[.int .u8 0, .string ⟨#[]⟩, .string ⟨#[]⟩, .string ⟨#[]⟩, .string ⟨#[]⟩, .string ⟨#[]⟩, .float .f64 0, .int .i64 0] 30)) := ⟨_, rfl⟩
  have hh : wb.heap[w.heap.size]? = some (.cells (kC e).toArray 96 (0, 0)) := by
    rw [hwb]
    exact blk_new2 w _ _ _
  have c0 : wb.cell? ⟨w.heap.size, 0, none⟩ = some (.int .u8 e.kind) := by simp only [World.cell?, hh]; rfl
  have c1 : wb.cell? ⟨w.heap.size, 1, none⟩ = some (.string e.name) := by simp only [World.cell?, hh]; rfl
  have c2 : wb.cell? ⟨w.heap.size, 2, none⟩ = some (.string e.a) := by simp only [World.cell?, hh]; rfl
  have c3 : wb.cell? ⟨w.heap.size, 3, none⟩ = some (.string e.b) := by simp only [World.cell?, hh]; rfl
  have c4 : wb.cell? ⟨w.heap.size, 4, none⟩ = some (.string e.c) := by simp only [World.cell?, hh]; rfl
  have c5 : wb.cell? ⟨w.heap.size, 5, none⟩ = some (.string e.d) := by simp only [World.cell?, hh]; rfl
  have c6 : wb.cell? ⟨w.heap.size, 6, none⟩ = some (.int .u64 e.v) := by simp only [World.cell?, hh]; rfl
  have c7 : wb.cell? ⟨w.heap.size, 7, none⟩ = some (.int .i64 e.ph) := by simp only [World.cell?, hh]; rfl
  have HWB := hid hwb
  (refine wp_region_still_tail 18 (by kernel_rfl) (by kernel_rfl) ?_; simp only [List.take_succ_cons, List.take_zero, List.drop_succ_cons, List.drop_zero]; change wpStill _ _ (World.drew ((w.alloc (.cells #[.int .u8 e.kind, .string e.name, .string e.a, .string e.b, .string e.c, .string e.d, .int .u64 e.v, .int .i64 e.ph] 96)).alloc (.cells #[.int .u8 0, .string ⟨#[]⟩, .string ⟨#[]⟩, .string ⟨#[]⟩, .string ⟨#[]⟩, .string ⟨#[]⟩, .float .f64 0, .int .i64 0] 30))) (fun a' => wpList _ _ _ _ a' (World.drew ((w.alloc (.cells #[.int .u8 e.kind, .string e.name, .string e.a, .string e.b, .string e.c, .string e.d, .int .u64 e.v, .int .i64 e.ph] 96)).alloc (.cells #[.int .u8 0, .string ⟨#[]⟩, .string ⟨#[]⟩, .string ⟨#[]⟩, .string ⟨#[]⟩, .string ⟨#[]⟩, .float .f64 0, .int .i64 0] 30)))) _ _; rw [← hwb]; clear hwb; (repeat still_step); (try refine wpStill_nil ?_))
  rw [HWB.out]
  clear HWB c0 c1 c2 c3 c4 c5 c6 c7 hh
  go_wp2
  refine bodyPost_ret (results_el rfl _ _ (w.heap.size + 1) e rfl ?_) rfl ?_
  · have h3 := blk_new (w.alloc (.cells #[.int .u8 e.kind, .string e.name, .string e.a, .string e.b, .string e.c, .string e.d, .int .u64 e.v, .int .i64 e.ph] 96)) (.cells (elC e).toArray 30)
    rw [size_new] at h3
    exact h3
  · exact ⟨rfl, (((Below.refl _ w).alloc (Nat.le_refl _) _).alloc (by rw [size_new]; omega) _).drew⟩
end Go.Proofs.YtjpimgdmlieinaaDoor
