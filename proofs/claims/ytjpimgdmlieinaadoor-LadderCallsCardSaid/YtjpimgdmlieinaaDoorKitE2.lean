/- The kit's functions on elements that are held against others: SameElement, SameElements on what is the same; KeptElements. Conditions: lengths as the reach has them. -/
import Derived.Test.YtjpimgdmlieinaaDoorKitE1
namespace Go.Proofs.YtjpimgdmlieinaaDoor
open Go.RowKit

set_option maxRecDepth 100000 in
set_option maxHeartbeats 2000000 in
theorem SameElement_self (e : El) (w : World) : Calls Tryd.prog 65 #[elV e, elV e] w fun E w' => E = .returned (.bool true) ∧ Below w.heap.size w w' := by
  show Calls _ _ #[.agg #[.int .u8 e.kind, .string e.name, .string e.a, .string e.b, .string e.c, .string e.d, .float .f64 e.v, .int .i64 e.ph], .agg #[.int .u8 e.kind, .string e.name, .string e.a, .string e.b, .string e.c, .string e.d, .float .f64 e.v, .int .i64 e.ph]] _ _
  have HR := fun w => kSameReal_any e.v e.v w
  rw [show same (val e.v) (val e.v) = true by simp [same]] at HR
  go_enter Tryd.func65, Tryd.ntmps65
  go_upto_region 1 with (fail)
  obtain ⟨wb, hwb⟩ : ∃ wb, wb = (w.alloc (.cells #[.int .u8 e.kind, .string e.name, .string e.a, .string e.b, .string e.c, .string e.d, .float .f64 e.v, .int .i64 e.ph] 30)).alloc (.cells #[.int .u8 e.kind, .string e.name, .string e.a, .string e.b, .string e.c, .string e.d, .float .f64 e.v, .int .i64 e.ph] 30) := ⟨_, rfl⟩
  rw [← hwb]
  have hA : wb.heap[w.heap.size]? = some (.cells (elC e).toArray 30 (0, 0)) := by
    rw [hwb]
    exact blk_new2 w _ _ _
  have hB : wb.heap[w.heap.size + 1]? = some (.cells (elC e).toArray 30 (0, 0)) := by
    rw [hwb]
    have h3 := blk_new (w.alloc (.cells (elC e).toArray 30)) (.cells (elC e).toArray 30)
    rw [size_new] at h3
    exact h3
  have hbl : Below w.heap.size w wb := by
    rw [hwb]
    exact ((Below.refl _ w).alloc (Nat.le_refl _) _).alloc (by rw [size_new]; omega) _
  clear hwb
  have c0 : wb.cell? ⟨w.heap.size, 0, none⟩ = some (.int .u8 e.kind) := by simp only [World.cell?, hA]; rfl
  have c1 : wb.cell? ⟨w.heap.size, 1, none⟩ = some (.string e.name) := by simp only [World.cell?, hA]; rfl
  have c2 : wb.cell? ⟨w.heap.size, 2, none⟩ = some (.string e.a) := by simp only [World.cell?, hA]; rfl
  have c3 : wb.cell? ⟨w.heap.size, 3, none⟩ = some (.string e.b) := by simp only [World.cell?, hA]; rfl
  have c4 : wb.cell? ⟨w.heap.size, 4, none⟩ = some (.string e.c) := by simp only [World.cell?, hA]; rfl
  have c5 : wb.cell? ⟨w.heap.size, 5, none⟩ = some (.string e.d) := by simp only [World.cell?, hA]; rfl
  have c6 : wb.cell? ⟨w.heap.size, 6, none⟩ = some (.float .f64 e.v) := by simp only [World.cell?, hA]; rfl
  have c7 : wb.cell? ⟨w.heap.size, 7, none⟩ = some (.int .i64 e.ph) := by simp only [World.cell?, hA]; rfl
  have d0 : wb.cell? ⟨w.heap.size + 1, 0, none⟩ = some (.int .u8 e.kind) := by simp only [World.cell?, hB]; rfl
  have d1 : wb.cell? ⟨w.heap.size + 1, 1, none⟩ = some (.string e.name) := by simp only [World.cell?, hB]; rfl
  have d2 : wb.cell? ⟨w.heap.size + 1, 2, none⟩ = some (.string e.a) := by simp only [World.cell?, hB]; rfl
  have d3 : wb.cell? ⟨w.heap.size + 1, 3, none⟩ = some (.string e.b) := by simp only [World.cell?, hB]; rfl
  have d4 : wb.cell? ⟨w.heap.size + 1, 4, none⟩ = some (.string e.c) := by simp only [World.cell?, hB]; rfl
  have d5 : wb.cell? ⟨w.heap.size + 1, 5, none⟩ = some (.string e.d) := by simp only [World.cell?, hB]; rfl
  have d6 : wb.cell? ⟨w.heap.size + 1, 6, none⟩ = some (.float .f64 e.v) := by simp only [World.cell?, hB]; rfl
  have d7 : wb.cell? ⟨w.heap.size + 1, 7, none⟩ = some (.int .i64 e.ph) := by simp only [World.cell?, hB]; rfl
  clear hA hB
  go_wp2_with (go_at_call 67; (with_reducible refine (HR _).mono ?_); rintro E1 w1 ⟨rfl, rfl⟩)
  go_ret
  exact ⟨rfl, hbl⟩

theorem els_at2 {w : World} {b off : Nat} {n cap : Nat} {L : List El} (h : ElsAt w (.slice (some ⟨b, off, none⟩) n cap) L) {k : Nat} {e : El} (he : L[k]? = some e) :
    w.cell? ⟨b, off + k * 8, none⟩ = some (.int .u8 e.kind) ∧ w.cell? ⟨b, off + k * 8 + 1, none⟩ = some (.string e.name) ∧ w.cell? ⟨b, off + k * 8 + 2, none⟩ = some (.string e.a) ∧ w.cell? ⟨b, off + k * 8 + 3, none⟩ = some (.string e.b) ∧ w.cell? ⟨b, off + k * 8 + 4, none⟩ = some (.string e.c) ∧ w.cell? ⟨b, off + k * 8 + 5, none⟩ = some (.string e.d) ∧ w.cell? ⟨b, off + k * 8 + 6, none⟩ = some (.float .f64 e.v) ∧ w.cell? ⟨b, off + k * 8 + 7, none⟩ = some (.int .i64 e.ph) := by
  obtain ⟨b', off', e1, _, h⟩ := h.at he
  cases e1
  exact h
def SeLoop (w : World) (L : List El) (i : Value) (wr : World) : Prop := ∃ k : Nat, k ≤ L.length ∧ i = .int .i64 k ∧ Below w.heap.size w wr
set_option maxRecDepth 100000 in
set_option maxHeartbeats 2000000 in
theorem SameElements_self (L : List El) (va vb : Value) (w : World) (hn : L.length ≤ 2000) (ha : ElsAt w va L) (hb : ElsAt w vb L) :
    Calls Tryd.prog 20 #[va, vb] w fun E w' => E = .returned (.bool true) ∧ Below w.heap.size w w' := by
  obtain ⟨a, cap, rfl⟩ := ha.form
  obtain ⟨b, cap2, rfl⟩ := hb.form
  go_enter Tryd.func20, Tryd.ntmps20
  go_wp2
  go_loopw [5] (fun i w' => SeLoop w L i w') (fun i _ => L.length + 1 - (intOf i).toNat)
  case atStart => exact ⟨0, Nat.zero_le _, rfl, Below.refl _ _⟩
  case round =>
    obtain ⟨k, hk, rfl, hbw⟩ := hrel
    have hA := ha.below hbw
    have hB := hb.below hbw
    clear ha hb
    by_cases hkn : k < L.length
    · obtain ⟨e, he⟩ : ∃ e, L[k]? = some e := ⟨L[k]'hkn, List.getElem?_eq_getElem hkn⟩
      obtain ⟨b1, off, rfl, hbl, c0, c1, c2, c3, c4, c5, c6, c7⟩ := hA.at he
      obtain ⟨b2, off2, rfl, hbl2, d0, d1, d2, d3, d4, d5, d6, d7⟩ := hB.at he
      have g1 : (k : Int) < (L.length : Int) := by omega
      have HEL := SameElement_self e
      unfold elV elC at HEL
      have HA := hid hA
      have HB := hid hB
      have HE := hid he
      clear he hA hB
      go_upto_region 6 with (fail)
      go_region_held3 (fun w' => w'.cell? ⟨b1, off + k * 8, none⟩ = some (.int .u8 e.kind) ∧ w'.cell? ⟨b1, off + k * 8 + 1, none⟩ = some (.string e.name) ∧ w'.cell? ⟨b1, off + k * 8 + 2, none⟩ = some (.string e.a) ∧ w'.cell? ⟨b1, off + k * 8 + 3, none⟩ = some (.string e.b) ∧ w'.cell? ⟨b1, off + k * 8 + 4, none⟩ = some (.string e.c) ∧ w'.cell? ⟨b1, off + k * 8 + 5, none⟩ = some (.string e.d) ∧ w'.cell? ⟨b1, off + k * 8 + 6, none⟩ = some (.float .f64 e.v) ∧ w'.cell? ⟨b1, off + k * 8 + 7, none⟩ = some (.int .i64 e.ph) ∧ w'.cell? ⟨b2, off2 + k * 8, none⟩ = some (.int .u8 e.kind) ∧ w'.cell? ⟨b2, off2 + k * 8 + 1, none⟩ = some (.string e.name) ∧ w'.cell? ⟨b2, off2 + k * 8 + 2, none⟩ = some (.string e.a) ∧ w'.cell? ⟨b2, off2 + k * 8 + 3, none⟩ = some (.string e.b) ∧ w'.cell? ⟨b2, off2 + k * 8 + 4, none⟩ = some (.string e.c) ∧ w'.cell? ⟨b2, off2 + k * 8 + 5, none⟩ = some (.string e.d) ∧ w'.cell? ⟨b2, off2 + k * 8 + 6, none⟩ = some (.float .f64 e.v) ∧ w'.cell? ⟨b2, off2 + k * 8 + 7, none⟩ = some (.int .i64 e.ph)) (first | exact ⟨c0, c1, c2, c3, c4, c5, c6, c7, d0, d1, d2, d3, d4, d5, d6, d7⟩ | (obtain ⟨q0, q1, q2, q3, q4, q5, q6, q7⟩ := els_at2 (HA.out.below hb1) HE.out; obtain ⟨r0, r1, r2, r3, r4, r5, r6, r7⟩ := els_at2 (HB.out.below hb1) HE.out; exact ⟨q0, q1, q2, q3, q4, q5, q6, q7, r0, r1, r2, r3, r4, r5, r6, r7⟩)) (first | (go_at_call 65; (with_reducible refine (HEL _).mono ?_); rintro E1 w1 ⟨rfl, hb1⟩; replace hb1 : Below wr.heap.size wr w1 := (Below.refl _ wr).drew.trans hb1))
      go_wp2
      go_roundw
      case rel => exact ⟨k + 1, by omega, by go_num, bl2 hbw hb1⟩
      case measure => simp [intOf] <;> omega
    · obtain rfl : k = L.length := by omega
      clear hA hB
      go_wp2
      go_ret
      exact ⟨rfl, hbw⟩
set_option maxRecDepth 100000 in
set_option maxHeartbeats 2000000 in
theorem KeptElements_any (L : List El) (va vb : Value) (w : World) (hn : L.length ≤ 1000) (ha : ElsAt w va (lentE L)) (hb : ElsN w vb L) :
    Calls Tryd.prog 23 #[va, vb] w fun E w' => E = .returned (.bool true) ∧ Below w.heap.size w w' := by
  have HL := hid (LentElements_any L vb w (by omega) hb)
  have HA := hid ha
  have hl := lentE_length L
  go_enter Tryd.func23, Tryd.ntmps23
  go_wp2_with (first | (go_at_call 15; (with_reducible refine HL.out.mono ?_); rintro E1 w1 ⟨v, rfl, h1, h2⟩) | (go_at_call 20; (with_reducible refine (SameElements_self (lentE L) _ _ _ (by omega) (HA.out.below h2) (ElsAt.of_owns h1)).mono ?_); rintro E2 w2 ⟨rfl, hb2⟩))
  go_ret
  exact ⟨rfl, bl2 h2 hb2⟩
end Go.Proofs.YtjpimgdmlieinaaDoor
