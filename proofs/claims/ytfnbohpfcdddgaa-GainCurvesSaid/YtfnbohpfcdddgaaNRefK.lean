/- gridworkref01.Kind, gridworkref13.Check. Condition: a kind is a byte; words have 64 bits. -/
import Derived.Test.YtfnbohpfcdddgaaNRef13
import Derived.Test.YtfnbohpfcdddgaaNChk
import Derived.Test.YtfnbohpfcdddgaaOrd
namespace Go.Proofs.Ytfnbohpfcdddgaa
open Go.RowKit

set_option maxRecDepth 100000 in
set_option maxHeartbeats 1000000 in
theorem rrKind_any (b : Nat) (w : World) : Calls Try.prog 59 #[.float .f64 b] w (RetV w (.int .i64 (kindF b))) := by
  have hk : kindF b = if b % 9223372036854775808 = 0 then 0 else if b % 9223372036854775808 < 4503599627370496 then 1 else if b % 9223372036854775808 < 9218868437227405312 then 2 else if b % 9223372036854775808 = 9218868437227405312 then 3 else 4 := by
    unfold kindF
    have h : b % 9223372036854775808 = b / 4503599627370496 % 2048 * 4503599627370496 + b % 4503599627370496 := by omega
    have h1 : b % 4503599627370496 < 4503599627370496 := Nat.mod_lt _ (by decide)
    have h2 : b / 4503599627370496 % 2048 < 2048 := Nat.mod_lt _ (by decide)
    rw [h]
    generalize b / 4503599627370496 % 2048 = x at *
    generalize b % 4503599627370496 = y at *
    repeat' split
    all_goals first | rfl | omega
  obtain ⟨x, hx⟩ : ∃ x, x = b % 9223372036854775808 := ⟨_, rfl⟩
  rw [← hx] at hk
  have hm : (b : Int).tmod 9223372036854775808 = (x : Int) := by rw [hx]; exact (Int.ofNat_tmod b 9223372036854775808).symm
  have hm2 : (b : Int) % 9223372036854775808 = (x : Int) := by rw [hx]; omega
  have HK := hid hk
  have hx2 : x < 9223372036854775808 := by rw [hx]; exact Nat.mod_lt _ (by decide)
  clear hk hx
  rcases (by omega : x = 0 ∨ (0 < x ∧ x < 4503599627370496) ∨ (4503599627370496 ≤ x ∧ x < 9218868437227405312) ∨ x = 9218868437227405312 ∨ 9218868437227405312 < x) with rfl | ⟨h1, h2⟩ | ⟨h1, h2⟩ | rfl | h1
  · go_enter Try.func59, Try.ntmps59
    go_wp2
    go_ret
    exact ⟨by rw [HK.out]; rfl, Below.refl _ w⟩
  · have q0 : ((x : Int) == 0) = false := by simp; omega
    have q1 : (x : Int) < 4503599627370496 := by omega
    have H1 := hid h1
    have H2 := hid h2
    have H3 := hid hx2
    clear h1 h2 hx2
    go_enter Try.func59, Try.ntmps59
    go_wp2
    go_ret
    exact ⟨by rw [HK.out, if_neg (by have := H1.out; omega), if_pos H2.out]; rfl, Below.refl _ w⟩
  · have q0 : ((x : Int) == 0) = false := by simp; omega
    have q1 : ¬ (x : Int) < 4503599627370496 := by omega
    have q2 : (x : Int) < 9218868437227405312 := by omega
    have H1 := hid h1
    have H2 := hid h2
    have H3 := hid hx2
    clear h1 h2 hx2
    go_enter Try.func59, Try.ntmps59
    go_wp2
    go_ret
    exact ⟨by rw [HK.out, if_neg (by have := H1.out; omega), if_neg (by have := H1.out; omega), if_pos H2.out]; rfl, Below.refl _ w⟩
  · go_enter Try.func59, Try.ntmps59
    go_wp2
    go_ret
    exact ⟨by rw [HK.out]; rfl, Below.refl _ w⟩
  · have q0 : ((x : Int) == 0) = false := by simp; omega
    have q1 : ((x : Int) == 9218868437227405312) = false := by simp; omega
    have q2 : ¬ (x : Int) < 4503599627370496 := by omega
    have q3 : ¬ (x : Int) < 9218868437227405312 := by omega
    have H1 := hid h1
    have H3 := hid hx2
    clear h1 hx2
    go_enter Try.func59, Try.ntmps59
    go_wp2
    go_ret
    exact ⟨by rw [HK.out, if_neg (by have := H1.out; omega), if_neg (by have := H1.out; omega), if_neg (by have := H1.out; omega), if_neg (by have := H1.out; omega)]; rfl, Below.refl _ w⟩

def RRowAt (w : World) (b m k : Nat) : Prop := w.heap[b]? = some (.cells #[.int .u8 m, .int .u8 (letK k), .string (unitK k), .bool (abK k), .bool (phK k), .bool (fourK k)] 119 (0, 0))
theorem RRowAt.cells {w : World} {b m k : Nat} (h : RRowAt w b m k) : w.cell? ⟨b, 3, none⟩ = some (.bool (abK k)) ∧ w.cell? ⟨b, 5, none⟩ = some (.bool (fourK k)) ∧ w.cell? ⟨b, 4, none⟩ = some (.bool (phK k)) := by
  unfold RRowAt at h
  simp [World.cell?, h]
theorem RRowAt.lt {w : World} {b m k : Nat} (h : RRowAt w b m k) : b < w.heap.size := (Array.getElem?_eq_some_iff.1 h).1
theorem RRowAt.below {w w' : World} {b B m k : Nat} (h : RRowAt w b m k) (hb : Below B w w') (hB : b < B) : RRowAt w' b m k := by
  unfold RRowAt at *
  rw [hb.block b hB, h]
def CkR (W : World) (r m : Nat) (e : El) (w' : World) : Prop := ElAt w' W.heap.size e ∧ RRowAt w' r m e.kind ∧ Below W.heap.size W w'
theorem CkR.below {W w1 w2 : World} {r m : Nat} {e : El} (h : CkR W r m e w1) (hb : Below w1.heap.size w1 w2) : CkR W r m e w2 :=
  ⟨h.1.below hb h.1.lt, h.2.1.below hb h.2.1.lt, h.2.2.trans (hb.mono h.2.2.size)⟩
theorem CkR.cells {W w1 : World} {r m : Nat} {e : El} (h : CkR W r m e w1) : (w1.cell? ⟨W.heap.size, 0, none⟩ = some (.int .u8 e.kind) ∧ w1.cell? ⟨W.heap.size, 1, none⟩ = some (.string e.name) ∧ w1.cell? ⟨W.heap.size, 2, none⟩ = some (.string e.a) ∧ w1.cell? ⟨W.heap.size, 3, none⟩ = some (.string e.b) ∧ w1.cell? ⟨W.heap.size, 4, none⟩ = some (.string e.c) ∧ w1.cell? ⟨W.heap.size, 5, none⟩ = some (.string e.d) ∧ w1.cell? ⟨W.heap.size, 6, none⟩ = some (.float .f64 e.v) ∧ w1.cell? ⟨W.heap.size, 7, none⟩ = some (.int .i64 e.ph)) ∧ w1.cell? ⟨r, 3, none⟩ = some (.bool (abK e.kind)) ∧ w1.cell? ⟨r, 5, none⟩ = some (.bool (fourK e.kind)) ∧ w1.cell? ⟨r, 4, none⟩ = some (.bool (phK e.kind)) :=
  ⟨h.1.cells, h.2.1.cells⟩
theorem CkR.new {W w1 : World} {e : El} (m : Nat) (h : Below (W.heap.size + 1) (W.alloc (.cells (elC e).toArray 74)) w1) : CkR W w1.heap.size m e (w1.alloc (.cells #[.int .u8 m, .int .u8 (letK e.kind), .string (unitK e.kind), .bool (abK e.kind), .bool (phK e.kind), .bool (fourK e.kind)] 119)) := by
  have hz := h.size
  simp at hz
  refine ⟨?_, blk_new _ _, ?_⟩
  · have h1 := (ElAt.new W e).below h (by omega)
    unfold ElAt at *
    rw [← h1]
    show (w1.heap.push _)[W.heap.size]? = _
    rw [Array.getElem?_push, if_neg (by omega)]
  · have h2 : Below W.heap.size W (W.alloc (.cells (elC e).toArray 74)) := (Below.refl _ W).alloc (Nat.le_refl _) _
    exact (h2.trans (h.mono (by omega))).alloc (by omega) _
theorem kind_above {v : Nat} (hv : IsW v) (h : kindF v ≤ 2) : fle (val v) (val 0) = !flt (val 0) (val v) := by
  have hn : nanB v = false := by
    rw [nan_iff]
    unfold kindF at h
    unfold IsW at hv
    split at h
    · omega
    · split at h
      · omega
      · split at h <;> omega
  rw [val_some hn, show val 0 = some 0 by decide +kernel, fle_key hv isW_0 hn (by decide), flt_key isW_0 hv (by decide) hn]
  by_cases hk : key v ≤ key 0
  · rw [decide_eq_true hk, decide_eq_false (by omega)]
    rfl
  · rw [decide_eq_false hk, decide_eq_true (by omega)]
    rfl
set_option maxRecDepth 100000 in
set_option maxHeartbeats 8000000 in
theorem rCheck_any (e : El) (hk : e.kind < 256) (hv : IsW e.v) (w : World) : Calls Try.prog 29 #[elV e] w (RetV w (.int .i64 (checkE e))) := by
  have H1 := hid fun w => rrow_any e.kind hk w
  have H2 := hid fun w => rName_any e.name w
  have H3a := hid fun w => rNode_any e.a w
  have H3b := hid fun w => rNode_any e.b w
  have H3c := hid fun w => rNode_any e.c w
  have H3d := hid fun w => rNode_any e.d w
  have H4 := hid fun w => rrKind_any e.v w
  have ok0 : checkE e = if okK e.kind = true then (if namedE e = true then (if argE e = true then 2 else if 2 < kindF e.v then 5 else if (abK e.kind && fle (val e.v) (val 0)) = true then 2 else 0) else 8) else 2 := rfl
  show Calls Try.prog 29 #[.agg #[.int .u8 e.kind, .string e.name, .string e.a, .string e.b, .string e.c, .string e.d, .float .f64 e.v, .int .i64 e.ph]] w _
  obtain ⟨m, hm⟩ : ∃ m : Nat, m = if okK e.kind = true then e.kind else 0 := ⟨_, rfl⟩
  rw [rrowV, ← hm] at H1
  clear hm
  by_cases ho : okK e.kind = true
  · rw [if_pos ho] at ok0
    rw [ho] at H1
    have hn : namedE e = (decide (nameK e.name = e.kind) && nodeS e.a && nodeS e.b && (!fourK e.kind || nodeS e.c && nodeS e.d)) := rfl
    have ha : argE e = ((e.a.toList == e.b.toList) || !fourK e.kind && ((e.c.toList != []) || (e.d.toList != [])) || !phK e.kind && (e.ph != 0)) := rfl
    have h0 : e.kind ≠ 0 := by intro h; rw [h] at ho; cases ho
    have HN := hid fun w1 h => CkR.new (W := w) (e := e) (w1 := w1) m h
    generalize namedE e = nm at *
    generalize argE e = ar at *
    generalize checkE e = ck at *
    have OK := hid ok0
    have HAR := hid ha
    have HNM := hid hn
    clear ok0 ha hn
    go_enter Try.func29, Try.ntmps29
    go_wp2_with (first | (go_at_call 56; (with_reducible refine (H1.out _).mono ?_); rintro e1 w1 ⟨rfl, hb1⟩; have K1 := HN.out w1 (hb1.mono (by simp)); obtain ⟨⟨a0, a1, a2, a3, a4, a5, a6, a7⟩, r2, r3, r4⟩ := K1.cells; have K := hid K1; clear hb1 K1) | (go_at_call 57; (with_reducible refine (H2.out _).mono ?_); rintro e1 w2 ⟨rfl, hb1⟩; clear a0 a1 a2 a3 a4 a5 a6 a7 r2 r3 r4; have K1 := K.out.below hb1; clear K; obtain ⟨⟨a0, a1, a2, a3, a4, a5, a6, a7⟩, r2, r3, r4⟩ := K1.cells; have K := hid K1; clear hb1 K1) | (go_at_call 58; (first | (with_reducible refine (H3a.out _).mono ?_) | (with_reducible refine (H3b.out _).mono ?_) | (with_reducible refine (H3c.out _).mono ?_) | (with_reducible refine (H3d.out _).mono ?_)); rintro e1 w2 ⟨rfl, hb1⟩; clear a0 a1 a2 a3 a4 a5 a6 a7 r2 r3 r4; have K1 := K.out.below hb1; clear K; obtain ⟨⟨a0, a1, a2, a3, a4, a5, a6, a7⟩, r2, r3, r4⟩ := K1.cells; have K := hid K1; clear hb1 K1) | (go_at_call 59; (with_reducible refine (H4.out _).mono ?_); rintro e1 w2 ⟨rfl, hb1⟩; clear a0 a1 a2 a3 a4 a5 a6 a7 r2 r3 r4; have K1 := K.out.below hb1; clear K; obtain ⟨⟨a0, a1, a2, a3, a4, a5, a6, a7⟩, r2, r3, r4⟩ := K1.cells; have K := hid K1; clear hb1 K1))
    all_goals go_ret
    all_goals refine ⟨?_, K.out.2.2⟩
    all_goals have q4 := fun h => kind_above hv h; have q1 := OK.out; have q2 := HNM.out; have q3 := HAR.out; clear K H1 H2 H3a H3b H3c H3d H4 a0 a1 a2 a3 a4 a5 a6 a7 r2 r3 r4 OK HNM HAR HN
    all_goals first | (simp_all; done) | (simp_all; omega)
  · rw [if_neg ho] at ok0
    rw [Bool.not_eq_true] at ho
    rw [ho] at H1
    have HN := hid fun w1 h => CkR.new (W := w) (e := e) (w1 := w1) m h
    rw [ok0]
    clear ok0
    go_enter Try.func29, Try.ntmps29
    go_wp2_with (go_at_call 56; (with_reducible refine (H1.out _).mono ?_); rintro e1 w1 ⟨rfl, hb1⟩; have K1 := HN.out w1 (hb1.mono (by simp)); clear hb1)
    go_ret
    exact ⟨rfl, K1.2.2⟩
end Go.Proofs.Ytfnbohpfcdddgaa

