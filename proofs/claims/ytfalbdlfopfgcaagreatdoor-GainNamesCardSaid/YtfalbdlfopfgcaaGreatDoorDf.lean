/- gain.Decade. Condition: the tables lie there. -/
import Derived.Test.YtfalbdlfopfgcaaGreatDoorDe
import Derived.Test.YtfalbdlfopfgcaaGreatDoorOct
namespace Go.Proofs.YtfalbdlfopfgcaaGreatDoor
open Go.RowKit

/-- The power of ten, looked for from the k-th down. -/
def decN (v : Option Nat) : Nat → Int
  | 0 => -324
  | k + 1 => if fle (val (teN k)) v = true then (k : Int) - 323 else decN v k
/-- Rounds: k powers are left; before the first round the list is not made. -/
def DecLoop (w0 w1 : World) (b : Nat) (v : Option Nat) (i : Value) (w : World) : Prop := ∃ k : Nat, k ≤ 632 ∧ i = .int .i64 ((k : Int) - 324) ∧ decN v 632 = decN v k ∧ (k = 632 ∧ w = w1 ∨ PwDone w0 b w ∧ w0.heap.size ≤ w.heap.size)
theorem decN_step (v : Option Nat) (k : Nat) : decN v (k + 1) = if fle (val (teN k)) v = true then (k : Int) - 323 else decN v k := rfl
def decF (v : Option Nat) : Int := if aboveE v = 0 then decN v 632 else 0
set_option maxRecDepth 100000 in
set_option maxHeartbeats 4000000 in
theorem Decade_any (x : Nat) (w : World) (hT : Tabs w) (hI : Lib.TabIs Tryz.prog w "internal/strconv.uint64pow10" .u64 Lib.pow10Tab) : Calls Tryz.prog 15 #[.float .f64 x] w fun e w' => e = .returned (.tuple #[.int .i64 (decF (val x)), .int .i64 (aboveE (val x))]) ∧ Below w.heap.size w w' := by
  by_cases h : aboveE (val x) = 0
  · have hF := hid (show decF (val x) = decN (val x) 632 by unfold decF; rw [if_pos h])
    have hA := hid h
    have HT := hid hT
    have HI := hid hI
    have h3 : (aboveE (val x) != 0) = false := by simp [h]
    clear h hT hI
    go_enter Tryz.func15, Tryz.ntmps15
    go_wp2_with (first | (go_at_call 41; refine (above_any _ _).mono ?_; rintro e w' ⟨rfl, n, rfl⟩))
    have bl : Below w.heap.size w ((w.drewN n).alloc (.cells #[.int .u32 0, .int .i32 0, .int .u32 0, .slice none 0 0] 100)) := (below_drewN' (Below.refl _ _) n).alloc (Nat.le_refl _) _
    have hb : ((w.drewN n).alloc (.cells #[.int .u32 0, .int .i32 0, .int .u32 0, .slice none 0 0] 100)).heap[w.heap.size]? = some (.cells #[.int .u32 0, .int .i32 0, .int .u32 0, .slice none 0 0] 100 (0, 0)) := by
      show (w.heap.push _)[w.heap.size]? = _
      simp
    obtain ⟨w1, hw1⟩ : ∃ w1, w1 = (w.drewN n).alloc (.cells #[.int .u32 0, .int .i32 0, .int .u32 0, .slice none 0 0] 100) := ⟨_, rfl⟩
    rw [← hw1] at bl hb ⊢
    clear hw1
    have h0 : w1.cell? ⟨w.heap.size, 0, none⟩ = some (.int .u32 0) := by simp [World.cell?, hb]
    have h1 : w1.cell? ⟨w.heap.size, 1, none⟩ = some (.int .i32 0) := by simp [World.cell?, hb]
    have hl : w1.cell? ⟨w.heap.size, 3, none⟩ = some (.slice none 0 0) := by simp [World.cell?, hb]
    have hz : ∀ o, w1.frozen? ⟨w.heap.size, o, none⟩ = false := fun o => by simp [World.frozen?, hb]
    have HFirst := hid fun j (hj : j < 632) => at_first w.heap.size j hj w w1 HT.out HI.out (Nat.le_refl _) bl h0 h1 hl hz
    clear hb h0 h1 hl hz
    go_loopw [6] (fun i w' => DecLoop w w1 w.heap.size (val x) i w') (fun i _ => (intOf i + 400).toNat)
    case atStart => exact ⟨632, Nat.le_refl _, rfl, rfl, .inl ⟨rfl, rfl⟩⟩
    case round =>
      obtain ⟨k, hk, rfl, hd, hst⟩ := hrel
      have hD := hid hd
      clear hd
      have hBW : w.heap.size ≤ wr.heap.size := by
        rcases hst with ⟨_, rfl⟩ | ⟨_, h⟩
        · exact bl.size
        · exact h
      match k, hk, hst, hD with
      | 0, hk, hst, hD =>
        rcases hst with ⟨h, _⟩ | ⟨hP, _⟩
        · omega
        · have hB : Below w.heap.size w wr := by obtain ⟨_, _, _, _, _, h⟩ := hP; exact h
          go_wp2
          go_ret2
          exact ⟨by rw [hF.out, hD.out, hA.out]; rfl, hB⟩
      | j + 1, hk, hst, hD =>
        have gi : (((j + 1 : Nat) : Int) - 324) = (j : Int) - 323 := by omega
        rw [gi]
        have HAt : Hid (Calls Tryz.prog 47 #[.pointer (some ⟨w.heap.size, 0, none⟩), .int .i64 ((j : Int) - 323)] wr fun e w' => e = .returned (.float .f64 (teN j)) ∧ PwDone w w.heap.size w' ∧ w.heap.size ≤ w'.heap.size) := hid (by
          rcases hst with ⟨_, rfl⟩ | ⟨hP, hz⟩
          · refine (HFirst.out j (by omega)).mono ?_
            rintro e w' ⟨rfl, h⟩
            have h' := h
            obtain ⟨_, _, _, _, _, hB⟩ := h'
            exact ⟨rfl, h, hB.size⟩
          · have hP' := hP
            obtain ⟨g, cap, p1, p2, p3, p4⟩ := hP
            refine (at_again w.heap.size g cap j (teN j) (by omega) wr p1 p2 (p3 j (by omega))).mono ?_
            rintro e w' ⟨rfl, rfl⟩
            exact ⟨rfl, hP'.below hz ((Below.refl _ wr).alloc (Nat.le_refl _) _), by simp; omega⟩)
        have hj : j < 632 := by omega
        have hu := decN_step (val x) j
        obtain ⟨tj, htj⟩ : ∃ tj, tj = teN j := ⟨_, rfl⟩
        rw [← htj] at HAt hu
        replace htj := hid htj
        clear hst
        cases hle : fle (val tj) (val x) with
        | true =>
          rw [hle, if_pos rfl] at hu
          have hR := hid (hD.out.trans hu)
          clear hu
          go_wp2_with (go_at_call 47; (with_reducible refine HAt.out.mono ?_); rintro E2 w2 ⟨rfl, hP, hz⟩)
          go_ret2
          obtain ⟨_, _, _, _, _, hB⟩ := hP
          exact ⟨by rw [hF.out, hR.out, hA.out]; rfl, hB⟩
        | false =>
          rw [hle, if_neg (by decide)] at hu
          have hR := hid (hD.out.trans hu)
          clear hu
          go_wp2_with (go_at_call 47; (with_reducible refine HAt.out.mono ?_); rintro E2 w2 ⟨rfl, hP, hz⟩)
          go_roundw
          case rel => exact ⟨j, by omega, by congr 1; omega, hR.out, .inr ⟨hP, hz⟩⟩
          case measure => simp [intOf]; omega
  · have hF := hid (show decF (val x) = 0 by unfold decF; rw [if_neg h])
    have h3 : (aboveE (val x) != 0) = true := by simp [h]
    clear h hT hI
    go_enter Tryz.func15, Tryz.ntmps15
    go_wp2_with (first | (go_at_call 41; refine (above_any _ _).mono ?_; rintro e w' ⟨rfl, n, rfl⟩))
    go_ret2
    exact ⟨by rw [hF.out]; rfl, below_drewN' (Below.refl _ _) _⟩
end Go.Proofs.YtfalbdlfopfgcaaGreatDoor

