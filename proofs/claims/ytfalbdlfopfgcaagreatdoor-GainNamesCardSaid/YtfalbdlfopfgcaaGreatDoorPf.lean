/- internal/strconv.atof64, ParseFloat; strconv.ParseFloat: texts whose digits are not cut. Condition: the tables lie there. -/
import Derived.Test.YtfalbdlfopfgcaaGreatDoorPe
namespace Go.Proofs.YtfalbdlfopfgcaaGreatDoor
open Go.RowKit

def sgn (neg : Bool) : Nat := if neg then 9223372036854775808 else 0
def atV (d : Nat) (p : Int) (neg : Bool) : Option Nat := if d = 0 then val (sgn neg) else if 310 < p then val (sgn neg + 9218868437227405312) else if p < -345 then val (sgn neg) else if exOk d p neg = true then exF d p neg else val (pfN d p (sgn neg))
def atG (d : Nat) (p : Int) (neg : Bool) : Value := if d = 0 then .nilIface else if 310 < p then .iface 155 (.int .i64 1) else if p < -345 then .nilIface else if exOk d p neg = true then .nilIface else pfG d p (sgn neg)
def RetAt (w : World) (d : Nat) (p : Int) (neg : Bool) (n : Nat) (E : Ending) (w' : World) : Prop := ∃ r, E = .returned (.tuple #[.float .f64 r, .int .i64 n, atG d p neg]) ∧ val r = atV d p neg ∧ Below w.heap.size w w'
/-- The tables of reading lie in the world. -/
structure Tabs (w : World) : Prop where
  p : PTab w
  f : FTab w
  o : w.cell? ⟨5, 0, none⟩ = some (.bool true)
  b : 11 < w.heap.size
theorem FTab.below {w w' : World} (h : FTab w) (hb : Below w.heap.size w w') : FTab w' := by
  obtain ⟨h0, b, o, h1, h2⟩ := h
  exact ⟨(hb.cell (World.block_lt_of_cell? _ _ h0)).trans h0, b, o, (hb.cell (World.block_lt_of_cell? _ _ h1)).trans h1, fun k hk => (hb.cell (World.block_lt_of_cell? _ _ (h2 k hk))).trans (h2 k hk)⟩
theorem Tabs.below {w w' : World} (h : Tabs w) (hb : Below w.heap.size w w') : Tabs w' :=
  ⟨h.p.below hb, h.f.below hb, (hb.cell (World.block_lt_of_cell? _ _ h.o)).trans h.o, Nat.lt_of_lt_of_le h.b hb.size⟩
set_option maxRecDepth 100000 in
set_option maxHeartbeats 4000000 in
theorem atof_any (s : ByteArray) (d n : Nat) (p : Int) (neg : Bool) (hd : d < 18446744073709551616) (HS : ∀ w, Calls Tryz.prog 142 #[.string s] w fun e w' => e = .returned (.tuple #[.float .f64 0, .int .i64 0, .bool false]) ∧ w' = w) (HR : ∀ w, Calls Tryz.prog 143 #[.string s] w fun e w' => e = .returned (.tuple #[.int .u64 d, .int .i64 p, .bool neg, .bool false, .bool false, .int .i64 n, .bool true]) ∧ w' = w) (w : World) (hT : Tabs w) : Calls Tryz.prog 130 #[.string s] w (RetAt w d p neg n) := by
  have HS' := hid HS
  have HR' := hid HR
  obtain ⟨hP, hF, hO, hB⟩ := hT
  have HB : Hid (∀ w, Calls Tryz.prog 151 #[.bool neg] w fun e w' => e = .returned (.int .u64 (if neg then 1 else 0)) ∧ w' = w) := hid fun w => bool2u_any neg w
  have HE := hid fun w (h : FTab w) => exact_any d p neg w h
  have o1 : bits .or .u64 (sgn neg : Int) 0 = (sgn neg : Int) := by cases neg <;> decide +kernel
  have o2 : bits .or .u64 (sgn neg : Int) 9218868437227405312 = ((sgn neg + 9218868437227405312 : Nat) : Int) := by cases neg <;> decide +kernel
  have o3 : IntKind.u64.wrap ((if neg = true then 1 else 0) * 9223372036854775808) = (sgn neg : Int) := by cases neg <;> decide +kernel
  obtain ⟨S, hS⟩ : ∃ S, S = sgn neg := ⟨_, rfl⟩
  rw [← hS] at o1 o2 o3
  obtain ⟨b1, hb1⟩ : ∃ b1 : Int, b1 = if neg = true then 1 else 0 := ⟨_, rfl⟩
  rw [← hb1] at HB o3
  replace hb1 := hid hb1
  replace hS := hid hS
  clear HS HR
  by_cases h0 : d = 0
  · have e0 : ((d : Int) == 0) = true := by simp [h0]
    have hV := hid (show atV d p neg = val S by unfold atV; rw [if_pos h0, hS.out])
    have hG := hid (show atG d p neg = .nilIface by unfold atG; rw [if_pos h0])
    clear h0 hP hF
    go_enter Tryz.func130, Tryz.ntmps130
    go_wp2_with (first
      | (go_at_call 142; (with_reducible refine (HS'.out _).mono ?_); rintro E1 w1 ⟨rfl, rfl⟩)
      | (go_at_call 143; (with_reducible refine (HR'.out _).mono ?_); rintro E1 w1 ⟨rfl, rfl⟩)
      | (go_at_call 151; (with_reducible refine (HB.out _).mono ?_); rintro E1 w1 ⟨rfl, rfl⟩))
    go_ret3
    exact ⟨S, by rw [hG.out]; rfl, by rw [hV.out], Below.refl _ _⟩
  · have e0 : ((d : Int) == 0) = false := by
      rw [beq_eq_false_iff_ne]
      omega
    by_cases h1 : 310 < p
    · have hV := hid (show atV d p neg = val (S + 9218868437227405312) by unfold atV; rw [if_neg h0, if_pos h1, hS.out])
      have hG := hid (show atG d p neg = .iface 155 (.int .i64 1) by unfold atG; rw [if_neg h0, if_pos h1])
      clear h0 hP hF
      go_enter Tryz.func130, Tryz.ntmps130
      go_wp2_with (first
        | (go_at_call 142; (with_reducible refine (HS'.out _).mono ?_); rintro E1 w1 ⟨rfl, rfl⟩)
        | (go_at_call 143; (with_reducible refine (HR'.out _).mono ?_); rintro E1 w1 ⟨rfl, rfl⟩)
        | (go_at_call 151; (with_reducible refine (HB.out _).mono ?_); rintro E1 w1 ⟨rfl, rfl⟩))
      go_ret3
      exact ⟨_, by rw [hG.out]; rfl, by rw [hV.out], Below.refl _ _⟩
    · by_cases h2 : p < -345
      · have hV := hid (show atV d p neg = val S by unfold atV; rw [if_neg h0, if_neg h1, if_pos h2, hS.out])
        have hG := hid (show atG d p neg = .nilIface by unfold atG; rw [if_neg h0, if_neg h1, if_pos h2])
        clear h0 hP hF
        go_enter Tryz.func130, Tryz.ntmps130
        go_wp2_with (first
          | (go_at_call 142; (with_reducible refine (HS'.out _).mono ?_); rintro E1 w1 ⟨rfl, rfl⟩)
          | (go_at_call 143; (with_reducible refine (HR'.out _).mono ?_); rintro E1 w1 ⟨rfl, rfl⟩)
          | (go_at_call 151; (with_reducible refine (HB.out _).mono ?_); rintro E1 w1 ⟨rfl, rfl⟩))
        go_ret3
        exact ⟨S, by rw [hG.out]; rfl, by rw [hV.out], Below.refl _ _⟩
      · cases hx : exOk d p neg with
        | true =>
          have hV := hid (show atV d p neg = exF d p neg by unfold atV; rw [if_neg h0, if_neg h1, if_neg h2, if_pos hx])
          have hG := hid (show atG d p neg = .nilIface by unfold atG; rw [if_neg h0, if_neg h1, if_neg h2, if_pos hx])
          unfold RetEx at HE
          rw [hx] at HE
          clear h0 hP hx
          go_enter Tryz.func130, Tryz.ntmps130
          go_wp2_with (first
            | (go_at_call 142; (with_reducible refine (HS'.out _).mono ?_); rintro E1 w1 ⟨rfl, rfl⟩)
            | (go_at_call 143; (with_reducible refine (HR'.out _).mono ?_); rintro E1 w1 ⟨rfl, rfl⟩)
            | (go_at_call 151; (with_reducible refine (HB.out _).mono ?_); rintro E1 w1 ⟨rfl, rfl⟩)
            | (go_at_call 153; (with_reducible refine (HE.out _ hF).mono ?_); rintro E1 w2 ⟨r, hr, rfl, hrv, hb2⟩))
          go_ret3
          exact ⟨r, by rw [hG.out]; rfl, by rw [hV.out]; exact hrv (by trivial), hb2⟩
        | false =>
          have hV := hid (show atV d p neg = val (pfN d p S) by unfold atV; rw [if_neg h0, if_neg h1, if_neg h2, if_neg (by rw [hx]; decide), hS.out])
          have hG := hid (show atG d p neg = pfG d p S by unfold atG; rw [if_neg h0, if_neg h1, if_neg h2, if_neg (by rw [hx]; decide), hS.out])
          unfold RetEx at HE
          rw [hx] at HE
          have HN := hid fun w h1' h2' => parseFloat64_any d (by omega) hd p (by omega) (by omega) S (by rw [hS.out]; cases neg; exact .inl rfl; exact .inr rfl) w h1' h2'
          clear h0 hx hd
          go_enter Tryz.func130, Tryz.ntmps130
          go_wp2_with (first
            | (go_at_call 142; (with_reducible refine (HS'.out _).mono ?_); rintro E1 w1 ⟨rfl, rfl⟩)
            | (go_at_call 143; (with_reducible refine (HR'.out _).mono ?_); rintro E1 w1 ⟨rfl, rfl⟩)
            | (go_at_call 151; (with_reducible refine (HB.out _).mono ?_); rintro E1 w1 ⟨rfl, rfl⟩)
            | (go_at_call 153; (with_reducible refine (HE.out _ hF).mono ?_); rintro E1 w2 ⟨r, hr, rfl, hrv, hb2⟩)
            | (go_at_call 154; (with_reducible refine (HN.out _ (hP.below hb2) (Nat.lt_of_lt_of_le hB hb2.size)).mono ?_); rintro E1 w3 ⟨rfl, hb3⟩))
          go_ret3
          exact ⟨pfN d p S, by rw [hG.out]; rfl, by rw [hV.out], hb2.trans (hb3.mono hb2.size)⟩
/-- A text read aright: what the three ParseFloat tell. -/
def RetPf (w : World) (v : Option Nat) (E : Ending) (w' : World) : Prop := ∃ r, E = .returned (.tuple #[.float .f64 r, .nilIface]) ∧ val r = v ∧ Below w.heap.size w w'
theorem prefix_ok (s : ByteArray) (d n : Nat) (p : Int) (neg : Bool) (w : World) (h : Calls Tryz.prog 130 #[.string s] w (RetAt w d p neg n)) : Calls Tryz.prog 113 #[.string s, .int .i64 64] w (RetAt w d p neg n) := by
  have h' := hid h
  clear h
  go_enter Tryz.func113, Tryz.ntmps113
  go_wp2_with (first | (go_at_call 130; (with_reducible refine h'.out.mono ?_); rintro E1 w1 ⟨r, rfl, hr, hb⟩))
  go_ret3
  exact ⟨r, rfl, hr, hb⟩
theorem iParseFloat_ok (s : ByteArray) (d : Nat) (p : Int) (neg : Bool) (w : World) (h : Calls Tryz.prog 130 #[.string s] w (RetAt w d p neg s.size)) (hg : atG d p neg = .nilIface) : Calls Tryz.prog 93 #[.string s, .int .i64 64] w (RetPf w (atV d p neg)) := by
  have h' := hid (prefix_ok s d s.size p neg w h)
  unfold RetAt at h'
  rw [hg] at h'
  clear h hg
  go_enter Tryz.func93, Tryz.ntmps93
  go_wp2_with (first | (go_at_call 113; (with_reducible refine h'.out.mono ?_); rintro E1 w1 ⟨r, rfl, hr, hb⟩))
  go_ret2
  exact ⟨r, rfl, hr, hb⟩
theorem ParseFloat_ok (s : ByteArray) (d : Nat) (p : Int) (neg : Bool) (w : World) (h : Calls Tryz.prog 130 #[.string s] w (RetAt w d p neg s.size)) (hg : atG d p neg = .nilIface) : Calls Tryz.prog 68 #[.string s, .int .i64 64] w (RetPf w (atV d p neg)) := by
  have h' := hid (iParseFloat_ok s d p neg w h hg)
  clear h hg
  go_enter Tryz.func68, Tryz.ntmps68
  go_wp2_with (first | (go_at_call 93; (with_reducible refine h'.out.mono ?_); rintro E1 w1 ⟨r, rfl, hr, hb⟩))
  go_ret2
  exact ⟨r, rfl, hr, hb⟩
end Go.Proofs.YtfalbdlfopfgcaaGreatDoor

