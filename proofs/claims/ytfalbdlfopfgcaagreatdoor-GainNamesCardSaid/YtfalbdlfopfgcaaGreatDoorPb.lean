/- internal/strconv.prescale, pack64, parseFloat64. Conditions: the table's cells. -/
import Derived.Test.YtfalbdlfopfgcaaGreatDoorPa
namespace Go.Proofs.YtfalbdlfopfgcaaGreatDoor
open Go.RowKit

set_option maxRecDepth 100000 in
set_option maxHeartbeats 1000000 in
theorem prescale_any (e p lp : Int) (k hi lo : Nat) (hp : p + 348 = (k : Int)) (hk : k < 696) (he : -5000 ≤ e ∧ e ≤ 5000) (hl : -5000 ≤ lp ∧ lp ≤ 5000) (b : Nat) (w : World) (hb : ¬ b = 11)
    (x y z : Value) (h : w.heap[b]? = some (.cells #[x, y, z] 227 (0, 0))) (t0 : w.cell? ⟨11, k * 2, none⟩ = some (.int .u64 hi)) (t1 : w.cell? ⟨11, k * 2 + 1, none⟩ = some (.int .u64 lo)) :
    Calls Tryz.prog 173 #[.pointer (some ⟨b, 0, none⟩), .int .i64 e, .int .i64 p, .int .i64 lp] w fun E w' => E = .returned (.tuple #[]) ∧ w' = ((w.setCell ⟨b, 0, none⟩ (.int .u64 hi)).setCell ⟨b, 1, none⟩ (.int .u64 lo)).setCell ⟨b, 2, none⟩ (.int .i64 (-(e + lp + 3))) := by
  have c0 : w.cell? ⟨b, 0, none⟩ = some x := by simp [World.cell?, h]
  have c1 : w.cell? ⟨b, 1, none⟩ = some y := by simp [World.cell?, h]
  have c2 : w.cell? ⟨b, 2, none⟩ = some z := by simp [World.cell?, h]
  have f0 : w.frozen? ⟨b, 0, none⟩ = false := by simp [World.frozen?, h]
  have f1 : w.frozen? ⟨b, 1, none⟩ = false := by simp [World.frozen?, h]
  have f2 : w.frozen? ⟨b, 2, none⟩ = false := by simp [World.frozen?, h]
  have hb' : ¬ 11 = b := fun h => hb h.symm
  have hw1 : IntKind.i64.wrap (e + lp) = e + lp := IntWalk.i64_in _ (by omega)
  have hw2 : IntKind.i64.wrap (e + lp + 3) = e + lp + 3 := IntWalk.i64_in _ (by omega)
  have hw3 : IntKind.i64.wrap (-(e + lp + 3)) = -(e + lp + 3) := IntWalk.i64_in _ (by omega)
  have hw4 : IntKind.i64.wrap (k : Int) = (k : Int) := IntWalk.i64_in _ (by omega)
  have g1 : (k : Int) < 696 := by omega
  clear h
  go_enter Tryz.func173, Tryz.ntmps173
  go_wp2
  go_end0
  exact ⟨rfl, rfl⟩
theorem bits_andNot_u64 (a : Nat) (ha : a < 18446744073709551616) : bits .andNot .u64 (a : Int) 4503599627370496 = ((a &&& 18442240474082181119 : Nat) : Int) := by
  have hx : a &&& 18442240474082181119 < 2 ^ 64 := Nat.and_lt_two_pow _ (by omega)
  have h1 : (BitVec.ofInt 64 (a : Int)).toNat = a := by
    rw [BitVec.ofInt_natCast, BitVec.toNat_ofNat]; exact Nat.mod_eq_of_lt (by omega)
  show IntKind.u64.wrap ((BitVec.ofInt 64 (a : Int) &&& ~~~ BitVec.ofInt 64 4503599627370496).toNat : Int) = _
  rw [BitVec.toNat_and, h1, show (~~~ BitVec.ofInt 64 4503599627370496).toNat = 18442240474082181119 from by decide, IntKind.wrap_u64]
  omega
/-- What pack64 tells. -/
def packN (m : Nat) (e : Int) : Nat := if m &&& 4503599627370496 = 0 then m else if 972 ≤ e then (m &&& 9223372036854775808) ||| 9218868437227405312 else (m &&& 18442240474082181119) ||| ((1075 + e).toNat * 4503599627370496)
def packE (m : Nat) (e : Int) : Value := if m &&& 4503599627370496 = 0 then .nilIface else if 972 ≤ e then .iface 155 (.int .i64 1) else .nilIface
set_option maxRecDepth 100000 in
set_option maxHeartbeats 1000000 in
theorem pack64_any (m : Nat) (e : Int) (hm : m < 18446744073709551616) (h1 : -1075 ≤ e) (h2 : e ≤ 2000) (w : World) :
    Calls Tryz.prog 180 #[.int .u64 m, .int .i64 e] w fun E w' => E = .returned (.tuple #[.float .f64 (packN m e), packE m e]) ∧ w' = w := by
  have a1 : bits .and .u64 (m : Int) 4503599627370496 = ((m &&& 4503599627370496 : Nat) : Int) := bits_and_u64_nat m 4503599627370496 hm (by omega)
  have a2 : bits .and .u64 (m : Int) 9223372036854775808 = ((m &&& 9223372036854775808 : Nat) : Int) := bits_and_u64_nat m 9223372036854775808 hm (by omega)
  have a3 := bits_andNot_u64 m hm
  have hb2 : m &&& 9223372036854775808 < 18446744073709551616 := Nat.lt_of_le_of_lt Nat.and_le_left hm
  have hb3 : m &&& 18442240474082181119 < 18446744073709551616 := Nat.lt_of_le_of_lt Nat.and_le_left hm
  obtain ⟨x1, e1⟩ : ∃ x, x = m &&& 4503599627370496 := ⟨_, rfl⟩
  obtain ⟨x2, e2⟩ : ∃ x, x = m &&& 9223372036854775808 := ⟨_, rfl⟩
  obtain ⟨x3, e3⟩ : ∃ x, x = m &&& 18442240474082181119 := ⟨_, rfl⟩
  have o2 : bits .or .u64 (x2 : Int) 9218868437227405312 = ((x2 ||| 9218868437227405312 : Nat) : Int) := bits_or_u64_nat x2 9218868437227405312 (by omega) (by omega)
  obtain ⟨F, hF⟩ : ∃ F, F = packN m e := ⟨_, rfl⟩
  obtain ⟨G, hG⟩ : ∃ G, G = packE m e := ⟨_, rfl⟩
  rw [← hF, ← hG]
  unfold packN at hF
  unfold packE at hG
  rw [← e1] at a1 hF hG
  rw [← e2] at a2 hF hb2
  rw [← e3] at a3 hF hb3
  clear e1 e2 e3
  by_cases c1 : x1 = 0
  · rw [if_pos c1] at hF hG
    have g1 : ((x1 : Int) == 0) = true := by simp [c1]
    clear c1
    replace hF := hid hF
    replace hG := hid hG
    go_enter Tryz.func180, Tryz.ntmps180
    go_wp2
    go_ret2
    rw [hF.out, hG.out]
    exact ⟨rfl, rfl⟩
  · rw [if_neg c1] at hF hG
    have g1 : ((x1 : Int) == 0) = false := by simp; omega
    by_cases c2 : 972 ≤ e
    · rw [if_pos c2] at hF hG
      clear c1
      replace hF := hid hF
      replace hG := hid hG
      go_enter Tryz.func180, Tryz.ntmps180
      go_wp2
      go_ret2
      rw [hF.out, hG.out]
      exact ⟨rfl, rfl⟩
    · rw [if_neg c2] at hF hG
      obtain ⟨q, hq⟩ : ∃ q, q = (1075 + e).toNat := ⟨_, rfl⟩
      have hq2 : (q : Int) = 1075 + e := by omega
      have o3 : bits .or .u64 (x3 : Int) ((1075 + e) * 4503599627370496) = ((x3 ||| (q * 4503599627370496) : Nat) : Int) := by
        rw [← hq2]
        have := bits_or_u64_nat x3 (q * 4503599627370496) (by omega) (by omega)
        rw [Int.natCast_mul] at this
        exact this
      rw [← hq] at hF
      clear hq hq2 c1
      have g2 : e < 972 := by omega
      clear c2
      replace hF := hid hF
      replace hG := hid hG
      go_enter Tryz.func180, Tryz.ntmps180
      go_wp2
      go_ret2
      rw [hF.out, hG.out]
      exact ⟨rfl, rfl⟩
end Go.Proofs.YtfalbdlfopfgcaaGreatDoor

