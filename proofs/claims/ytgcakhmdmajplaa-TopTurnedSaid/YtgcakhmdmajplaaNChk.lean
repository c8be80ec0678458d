/- gridwork/value.Check: may an element be? Condition: its kind is a byte, its Value has 64 bits. -/
import Derived.Test.YtgcakhmdmajplaaNValM
namespace Go.Proofs.Ytgcakhmdmajplaa
open Go.RowKit

/-- An element that lies in a block of its own. -/
def ElAt (w : World) (b : Nat) (e : El) : Prop := w.heap[b]? = some (.cells (elC e).toArray 54 (0, 0))
def RowAt (w : World) (b k : Nat) : Prop := w.heap[b]? = some (.cells #[.int .u8 (letK k), .string (unitK k), .bool (abK k), .bool (fourK k), .bool (phK k)] 83 (0, 0))
theorem ElAt.cell {w : World} {b : Nat} {e : El} (h : ElAt w b e) {j : Nat} {x : Value} (hx : (elC e)[j]? = some x) : w.cell? ⟨b, j, none⟩ = some x := by
  unfold ElAt at h
  simp [World.cell?, h, hx]
theorem ElAt.cells {w : World} {b : Nat} {e : El} (h : ElAt w b e) : w.cell? ⟨b, 0, none⟩ = some (.int .u8 e.kind) ∧ w.cell? ⟨b, 1, none⟩ = some (.string e.name) ∧ w.cell? ⟨b, 2, none⟩ = some (.string e.a) ∧ w.cell? ⟨b, 3, none⟩ = some (.string e.b) ∧ w.cell? ⟨b, 4, none⟩ = some (.string e.c) ∧ w.cell? ⟨b, 5, none⟩ = some (.string e.d) ∧ w.cell? ⟨b, 6, none⟩ = some (.float .f64 e.v) ∧ w.cell? ⟨b, 7, none⟩ = some (.int .i64 e.ph) :=
  ⟨h.cell rfl, h.cell rfl, h.cell rfl, h.cell rfl, h.cell rfl, h.cell rfl, h.cell rfl, h.cell rfl⟩
theorem ElAt.frozen {w : World} {b : Nat} {e : El} (h : ElAt w b e) (j : Nat) : w.frozen? ⟨b, j, none⟩ = false := by
  unfold ElAt at h
  simp [World.frozen?, h]
theorem ElAt.lt {w : World} {b : Nat} {e : El} (h : ElAt w b e) : b < w.heap.size := (Array.getElem?_eq_some_iff.1 h).1
theorem ElAt.below {w w' : World} {b B : Nat} {e : El} (h : ElAt w b e) (hb : Below B w w') (hB : b < B) : ElAt w' b e := by
  unfold ElAt at *
  rw [hb.block b hB, h]
theorem ElAt.new (w : World) (e : El) : ElAt (w.alloc (.cells (elC e).toArray 54)) w.heap.size e := blk_new _ _
theorem RowAt.cells {w : World} {b k : Nat} (h : RowAt w b k) : w.cell? ⟨b, 2, none⟩ = some (.bool (abK k)) ∧ w.cell? ⟨b, 3, none⟩ = some (.bool (fourK k)) ∧ w.cell? ⟨b, 4, none⟩ = some (.bool (phK k)) := by
  unfold RowAt at h
  simp [World.cell?, h]
theorem RowAt.lt {w : World} {b k : Nat} (h : RowAt w b k) : b < w.heap.size := (Array.getElem?_eq_some_iff.1 h).1
theorem RowAt.below {w w' : World} {b B k : Nat} (h : RowAt w b k) (hb : Below B w w') (hB : b < B) : RowAt w' b k := by
  unfold RowAt at *
  rw [hb.block b hB, h]

/-- The element's block and the row's. -/
def CkW (W : World) (r : Nat) (e : El) (w' : World) : Prop := ElAt w' W.heap.size e ∧ RowAt w' r e.kind ∧ Below W.heap.size W w'
theorem CkW.below {W w1 w2 : World} {r : Nat} {e : El} (h : CkW W r e w1) (hb : Below w1.heap.size w1 w2) : CkW W r e w2 :=
  ⟨h.1.below hb h.1.lt, h.2.1.below hb h.2.1.lt, h.2.2.trans (hb.mono h.2.2.size)⟩
theorem CkW.cells {W w1 : World} {r : Nat} {e : El} (h : CkW W r e w1) : (w1.cell? ⟨W.heap.size, 0, none⟩ = some (.int .u8 e.kind) ∧ w1.cell? ⟨W.heap.size, 1, none⟩ = some (.string e.name) ∧ w1.cell? ⟨W.heap.size, 2, none⟩ = some (.string e.a) ∧ w1.cell? ⟨W.heap.size, 3, none⟩ = some (.string e.b) ∧ w1.cell? ⟨W.heap.size, 4, none⟩ = some (.string e.c) ∧ w1.cell? ⟨W.heap.size, 5, none⟩ = some (.string e.d) ∧ w1.cell? ⟨W.heap.size, 6, none⟩ = some (.float .f64 e.v) ∧ w1.cell? ⟨W.heap.size, 7, none⟩ = some (.int .i64 e.ph)) ∧ w1.cell? ⟨r, 2, none⟩ = some (.bool (abK e.kind)) ∧ w1.cell? ⟨r, 3, none⟩ = some (.bool (fourK e.kind)) ∧ w1.cell? ⟨r, 4, none⟩ = some (.bool (phK e.kind)) :=
  ⟨h.1.cells, h.2.1.cells⟩
theorem CkW.new {W w1 : World} {e : El} (h : Below (W.heap.size + 1) (W.alloc (.cells (elC e).toArray 54)) w1) : CkW W w1.heap.size e (w1.alloc (.cells #[.int .u8 (letK e.kind), .string (unitK e.kind), .bool (abK e.kind), .bool (fourK e.kind), .bool (phK e.kind)] 83)) := by
  have hz := h.size
  simp at hz
  refine ⟨?_, blk_new _ _, ?_⟩
  · have h1 := (ElAt.new W e).below h (by omega)
    unfold ElAt at *
    rw [← h1]
    show (w1.heap.push _)[W.heap.size]? = _
    rw [Array.getElem?_push, if_neg (by omega)]
  · have h2 : Below W.heap.size W (W.alloc (.cells (elC e).toArray 54)) := (Below.refl _ W).alloc (Nat.le_refl _) _
    exact (h2.trans (h.mono (by omega))).alloc (by omega) _

set_option maxRecDepth 100000 in
set_option maxHeartbeats 4000000 in
theorem Check_any (e : El) (hk : e.kind < 256) (w : World) : Calls Try.prog 20 #[elV e] w (RetV w (.int .i64 (checkE e))) := by
  have H1 := hid fun w => rowOf_any e.kind hk w
  have H2 := hid fun w => Name_any e.name w
  have H3a := hid fun w => Node_any e.a w
  have H3b := hid fun w => Node_any e.b w
  have H3c := hid fun w => Node_any e.c w
  have H3d := hid fun w => Node_any e.d w
  have H4 := hid fun w => rKind_any e.v w
  have ok0 : checkE e = if okK e.kind = true then (if namedE e = true then (if argE e = true then 2 else if 2 < kindF e.v then 5 else if (abK e.kind && fle (val e.v) (val 0)) = true then 2 else 0) else 8) else 2 := rfl
  show Calls Try.prog 20 #[.agg #[.int .u8 e.kind, .string e.name, .string e.a, .string e.b, .string e.c, .string e.d, .float .f64 e.v, .int .i64 e.ph]] w _
  by_cases ho : okK e.kind = true
  · rw [if_pos ho] at ok0
    rw [ho] at H1
    have hn : namedE e = (decide (nameK e.name = e.kind) && nodeS e.a && nodeS e.b && (!fourK e.kind || nodeS e.c && nodeS e.d)) := rfl
    have ha : argE e = ((e.a.toList == e.b.toList) || !fourK e.kind && ((e.c.toList != []) || (e.d.toList != [])) || !phK e.kind && (e.ph != 0)) := rfl
    have h0 : e.kind ≠ 0 := by intro h; rw [h] at ho; cases ho
    have HN := hid fun w1 h => CkW.new (W := w) (e := e) (w1 := w1) h
    rw [rowV] at H1
    generalize namedE e = nm at *
    generalize argE e = ar at *
    generalize checkE e = ck at *
    have OK := hid ok0
    have HAR := hid ha
    have HNM := hid hn
    clear ok0 ha hn
    go_enter Try.func20, Try.ntmps20
    go_wp2_with (first | (go_at_call 34; (with_reducible refine (H1.out _).mono ?_); rintro e1 w1 ⟨rfl, hb1⟩; have K1 := HN.out w1 (hb1.mono (by simp)); obtain ⟨⟨a0, a1, a2, a3, a4, a5, a6, a7⟩, r2, r3, r4⟩ := K1.cells; have K := hid K1; clear hb1 K1) | (go_at_call 35; (with_reducible refine (H2.out _).mono ?_); rintro e1 w2 ⟨rfl, hb1⟩; clear a0 a1 a2 a3 a4 a5 a6 a7 r2 r3 r4; have K1 := K.out.below hb1; clear K; obtain ⟨⟨a0, a1, a2, a3, a4, a5, a6, a7⟩, r2, r3, r4⟩ := K1.cells; have K := hid K1; clear hb1 K1) | (go_at_call 36; (first | (with_reducible refine (H3a.out _).mono ?_) | (with_reducible refine (H3b.out _).mono ?_) | (with_reducible refine (H3c.out _).mono ?_) | (with_reducible refine (H3d.out _).mono ?_)); rintro e1 w2 ⟨rfl, hb1⟩; clear a0 a1 a2 a3 a4 a5 a6 a7 r2 r3 r4; have K1 := K.out.below hb1; clear K; obtain ⟨⟨a0, a1, a2, a3, a4, a5, a6, a7⟩, r2, r3, r4⟩ := K1.cells; have K := hid K1; clear hb1 K1) | (go_at_call 37; (with_reducible refine (H4.out _).mono ?_); rintro e1 w2 ⟨rfl, hb1⟩; clear a0 a1 a2 a3 a4 a5 a6 a7 r2 r3 r4; have K1 := K.out.below hb1; clear K; obtain ⟨⟨a0, a1, a2, a3, a4, a5, a6, a7⟩, r2, r3, r4⟩ := K1.cells; have K := hid K1; clear hb1 K1))
    all_goals go_ret
    all_goals refine ⟨?_, K.out.2.2⟩
    all_goals have q1 := OK.out; have q2 := HNM.out; have q3 := HAR.out; clear K H1 H2 H3a H3b H3c H3d H4 a0 a1 a2 a3 a4 a5 a6 a7 r2 r3 r4 OK HNM HAR HN
    all_goals first | (simp_all; done) | (simp_all; omega)
  · rw [if_neg ho] at ok0
    rw [Bool.not_eq_true] at ho
    rw [ho, rowV] at H1
    have HN := hid fun w1 h => CkW.new (W := w) (e := e) (w1 := w1) h
    rw [ok0]
    clear ok0
    go_enter Try.func20, Try.ntmps20
    go_wp2_with (go_at_call 34; (with_reducible refine (H1.out _).mono ?_); rintro e1 w1 ⟨rfl, hb1⟩; have K1 := HN.out w1 (hb1.mono (by simp)); clear hb1)
    go_ret
    exact ⟨rfl, K1.2.2⟩
end Go.Proofs.Ytgcakhmdmajplaa

