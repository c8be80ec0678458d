/- Rows of noughts that are made, as a fact of every world; worlds that grow. No condition. -/
import Derived.Test.YtjpimgdmlieinaaDoorNmA
import Derived.Deep.OwnRows
namespace Go.Proofs.YtjpimgdmlieinaaDoor
open Go.RowKit

theorem make_z (n : Nat) (q : Int) (hq : q = (n : Int)) (hn : n ≤ 1000) : ∃ o : Obj, (∀ w : World, (Instr.makeSlice 57 (.int .i64 q) (.int .i64 q)).run Tryd.prog w = .ok (.slice (some ⟨w.heap.size, 0, none⟩) n n) (w.alloc o)) ∧ ∀ w : World, Sl (w.alloc o) (.slice (some ⟨w.heap.size, 0, none⟩) n n) ((z0L n).map C) := by
  subst hq
  have hi : (Tryd.prog.info? 33).map (fun i => (i.zero, i.size, i.bytes)) = some (some (.complex .f64 0 0), 1, 16) := by kernel_rfl
  refine ⟨.cells (madeCells #[.complex .f64 0 0] n) 33, fun w => run_make_row' (P := Tryd.prog) 57 33 (.complex .f64 0 0) 16 Tryd.underlying57 hi rfl .i64 .i64 n (by omega) (by omega) w, fun w => ?_⟩
  have h := Sl_lit w 33 ((z0L n).map C)
  have e : ((z0L n).map C).toArray = madeCells #[.complex .f64 0 0] n := by
    apply Array.ext'
    rw [toList_madeCells_one]
    unfold z0L
    rw [List.map_replicate]
    rfl
  rw [e, List.length_map, z0_len] at h
  exact h
theorem madeCells_get {z : Array Value} {n i : Nat} (h : i < n) : (madeCells z n)[i]? = some (z[i % z.size]!) := by
  unfold madeCells
  rw [Array.getElem?_map, Array.getElem?_range, if_pos h]
  rfl
theorem make_e : ∃ o : Obj, (∀ w : World, (Instr.makeSlice 25 (.int .i64 17) (.int .i64 17)).run Tryd.prog w = .ok (.slice (some ⟨w.heap.size, 0, none⟩) 17 17) (w.alloc o)) ∧ ∀ w : World, ElsAt (w.alloc o) (.slice (some ⟨w.heap.size, 0, none⟩) 17 17) (List.replicate 17 el0) := by
  obtain ⟨i, hi, h0, h1, h2⟩ := info_parts info_el
  refine ⟨.cells (madeCells (elC el0).toArray 136) 30, fun w => ?_, fun w => ?_⟩
  · have := run_make (P := Tryd.prog) (w := w) 25 30 i _ Tryd.underlying25 hi h0 .i64 .i64 17 17 (by omega) (by omega) (by rw [h2]; omega) (by omega)
    rw [h1] at this
    exact this
  · refine ⟨some ⟨w.heap.size, 0, none⟩, 17, by rw [List.length_replicate], fun k e he => ⟨w.heap.size, 0, rfl, fun j x hx => ?_⟩⟩
    have hk : k < 17 := by have := (List.getElem?_eq_some_iff.1 he).1; rw [List.length_replicate] at this; exact this
    have hj : j < 8 := (List.getElem?_eq_some_iff.1 hx).1
    rw [List.getElem?_replicate, if_pos hk] at he
    cases he
    rw [World.cell?_alloc_new, madeCells_get (by omega), show (elC el0).toArray.size = 8 from rfl, show (0 + k * 8 + j) % 8 = j by omega]
    rw [getElem!_pos (elC el0).toArray j (by exact hj)]
    obtain ⟨_, hx2⟩ := List.getElem?_eq_some_iff.1 hx
    rw [← hx2]
    rfl
theorem bl2 {a b c : World} (h : Below a.heap.size a b) (h2 : Below b.heap.size b c) : Below a.heap.size a c := h.trans (h2.mono h.size)
theorem bla {a b : World} (o : Obj) (h : Below a.heap.size a b) : Below a.heap.size a (b.alloc o) := h.alloc h.size o
theorem bld {a b : World} (h : Below a.heap.size a b) : Below a.heap.size a b.drew := h.drew
theorem bls {a b : World} {p : Addr} {v : Value} (h : Below a.heap.size a b) (hp : a.heap.size ≤ p.block) : Below a.heap.size a (b.setCell p v) := h.setCell hp v
theorem flt_b {a c : World} {b : Nat} {x y : Int} (h : FltAt a b x y) (hb : Below a.heap.size a c) : FltAt c b x y := h.below hb h.lt
theorem flt_a {a : World} {b : Nat} {x y : Int} (o : Obj) (h : FltAt a b x y) : FltAt (a.alloc o) b x y := flt_b h (bla o (Below.refl _ _))
theorem flt_d {a : World} {b : Nat} {x y : Int} (h : FltAt a b x y) : FltAt a.drew b x y := h
theorem flt_n (a : World) {s : Nat} (x y : Int) (h : s = a.heap.size) : FltAt (a.alloc (.cells #[.int .i64 x, .int .i64 y] 36)) s x y := by
  subst h
  exact FltAt.new a x y
theorem els_a {a : World} {v : Value} {L : List El} (o : Obj) (h : ElsAt a v L) : ElsAt (a.alloc o) v L := h.below (bla o (Below.refl _ _))
theorem sl_a {a : World} {v : Value} {L : List Value} (o : Obj) (h : Sl a v L) : Sl (a.alloc o) v L := h.below (bla o (Below.refl _ _))
theorem els_d {a : World} {v : Value} {L : List El} (h : ElsAt a v L) : ElsAt a.drew v L := h.below (bld (Below.refl _ _))
theorem sl_d {a : World} {v : Value} {L : List Value} (h : Sl a v L) : Sl a.drew v L := h.below (bld (Below.refl _ _))
def TCells (w : World) (b : Nat) (e : El) : Prop := b < w.heap.size ∧ w.cell? ⟨b, 0, none⟩ = some (.int .u8 e.kind) ∧ w.cell? ⟨b, 1, none⟩ = some (.string e.name) ∧ w.cell? ⟨b, 2, none⟩ = some (.string e.a) ∧ w.cell? ⟨b, 3, none⟩ = some (.string e.b) ∧ w.cell? ⟨b, 4, none⟩ = some (.string e.c) ∧ w.cell? ⟨b, 5, none⟩ = some (.string e.d) ∧ w.cell? ⟨b, 6, none⟩ = some (.float .f64 e.v) ∧ w.cell? ⟨b, 7, none⟩ = some (.int .i64 e.ph)
theorem tcells {w : World} {b n cap : Nat} {e : El} {l : List El} (h : ElsAt w (.slice (some ⟨b, 0, none⟩) n cap) (e :: l)) : TCells w b e := by
  obtain ⟨a, cap, he, hr⟩ := h
  obtain ⟨b', off, hb, hc⟩ := hr 0 e rfl
  simp only [Value.slice.injEq] at he
  obtain ⟨he, -, -⟩ := he
  rw [← he] at hb
  simp only [Option.some.injEq, Addr.mk.injEq, and_true] at hb
  obtain ⟨rfl, rfl⟩ := hb
  exact ⟨World.block_lt_of_cell? _ _ (hc 0 _ rfl), hc 0 _ rfl, hc 1 _ rfl, hc 2 _ rfl, hc 3 _ rfl, hc 4 _ rfl, hc 5 _ rfl, hc 6 _ rfl, hc 7 _ rfl⟩
end Go.Proofs.YtjpimgdmlieinaaDoor
