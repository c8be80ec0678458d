/- gridwork/value, real.Kind: nodes, names, the check of an element. Condition: a kind is a byte, a real has 64 bits. -/
import Derived.Test.YtfnbohpfcdddgaaNVal
namespace Go.Proofs.Ytfnbohpfcdddgaa
open Go.RowKit

theorem size_bound (s : ByteArray) : s.size = s.data.toList.length := by simp

set_option maxRecDepth 100000 in
theorem Node_any (s : ByteArray) (w : World) : Calls Try.prog 53 #[.string s] w (RetV w (.bool (nodeS s))) := by
  have hn : nodeS s = (decide (0 < s.size) && decide (s.size ≤ 16) && smS s) := rfl
  rw [hn]
  have H := hid fun w => small_any s w
  by_cases h1 : 0 < s.size
  · by_cases h2 : s.size ≤ 16
    · rw [decide_eq_true h1, decide_eq_true h2]
      go_enter Try.func53, Try.ntmps53
      go_wp2_with (go_at_call 74; (with_reducible refine (H.out _).mono ?_); rintro e w1 ⟨rfl, hb⟩)
      go_ret
      exact ⟨by simp, hb⟩
    · rw [decide_eq_true h1, decide_eq_false h2]
      go_enter Try.func53, Try.ntmps53
      go_wp2
      go_ret
      exact ⟨by simp, Below.refl _ w⟩
  · rw [decide_eq_false h1]
    go_enter Try.func53, Try.ntmps53
    go_wp2
    go_ret
    exact ⟨by simp, Below.refl _ w⟩

theorem letK_of (l k : Nat) (h1 : 1 ≤ k) (h8 : k ≤ 8) : letK k = l ↔ ofL l = k := by
  rcases (by omega : k = 1 ∨ k = 2 ∨ k = 3 ∨ k = 4 ∨ k = 5 ∨ k = 6 ∨ k = 7 ∨ k = 8) with rfl | rfl | rfl | rfl | rfl | rfl | rfl | rfl
  all_goals
    unfold ofL letK
    constructor
    · intro h; subst h; rfl
    · intro h; split at h <;> first | rfl | omega
theorem ofL_le (l : Nat) : ofL l ≤ 8 := by unfold ofL; split <;> omega

set_option maxRecDepth 100000 in
set_option maxHeartbeats 1000000 in
theorem vOf_any (l : Nat) (hl : l < 256) (w : World) : Calls Try.prog 75 #[.int .u8 l] w (RetV w (.tuple #[.int .u8 (ofL l), .bool (!decide (ofL l = 0))])) := by
  have hr : ∀ (k : Nat) (w : World), k < 256 → Calls Try.prog 51 #[.int .u8 k] w (RetV w (.tuple #[rowV k, .bool (okK k)])) := fun k w h => rowOf_any k h w
  have H := hid hr
  have hle := ofL_le l
  clear hr
  go_enter Try.func75, Try.ntmps75
  go_wp2
  go_loopw [4] (fun k w' => ∃ j : Nat, k = .int .u8 j ∧ 1 ≤ j ∧ j ≤ 9 ∧ (∀ i, 1 ≤ i → i < j → ofL l ≠ i) ∧ Below w.heap.size w w') (fun k _ => 9 - (intOf k).toNat)
  case atStart => exact ⟨1, rfl, by omega, by omega, fun i _ _ => by omega, Below.refl _ _⟩
  case round =>
    obtain ⟨j, rfl, h1, h9, hno, hb⟩ := hrel
    have hz := hb.size
    by_cases h8 : j ≤ 8
    · have HL := hid (letK_of l j h1 h8)
      have HN := hid hno
      clear hno
      obtain ⟨m, hm⟩ : ∃ m, m = letK j := ⟨_, rfl⟩
      have hrow : rowV j = .agg #[.int .u8 m, .string (unitK j), .bool (abK j), .bool (fourK j), .bool (phK j)] := by rw [hm]; rfl
      rw [← hm] at HL
      have HR := hid hrow
      clear hm hrow
      by_cases hml : m = l
      · have he : ofL l = j := HL.out.1 hml
        subst hml
        go_wp2_with (go_at_call 51; (with_reducible refine (H.out _ _ (by omega)).mono ?_); rintro e w' ⟨rfl, hb2⟩; rw [HR.out])
        go_ret2
        rw [he]
        refine ⟨by simp; omega, ?_⟩
        exact (hb.trans (hb2.mono hz)).alloc (by have := hb2.size; omega) _
      · have hmi : ¬ (m : Int) = (l : Int) := by omega
        have hno2 : ∀ i, 1 ≤ i → i < j + 1 → ofL l ≠ i := by
          intro i hi1 hi2
          by_cases e : i = j
          · subst e; exact fun e2 => hml (HL.out.2 e2)
          · exact HN.out i hi1 (by omega)
        have HN2 := hid hno2
        clear hno2 HN HL
        go_wp2_with (go_at_call 51; (with_reducible refine (H.out _ _ (by omega)).mono ?_); rintro e w' ⟨rfl, hb2⟩; rw [HR.out])
        go_roundw
        case rel => exact ⟨j + 1, by go_num, by omega, by omega, HN2.out, (hb.trans (hb2.mono hz)).alloc (by have := hb2.size; omega) _⟩
        case measure => simp [intOf] <;> omega
    · obtain rfl : j = 9 := by omega
      have he : ofL l = 0 := by
        by_cases h0 : ofL l = 0
        · exact h0
        · exact absurd rfl (hno (ofL l) (by omega) (by omega))
      go_wp2
      go_ret2
      rw [he]
      exact ⟨by simp, hb⟩

theorem get_val {s : ByteArray} {i : Nat} (h : i < s.size) : (s[i]'h).toNat = byteAt s i := by
  have := get_list h
  unfold byteAt
  rw [List.getD_eq_getElem?_getD, this]
  rfl
theorem byteAt_lt (s : ByteArray) (i : Nat) : byteAt s i < 256 := by unfold byteAt; exact UInt8.toNat_lt _
theorem tail_small (s : ByteArray) : smS (s.extract 1 s.size) = tailS s := by
  unfold smS tailS
  congr 1
  have hd : (s.extract 1 s.size).data.toList = (s.data.toList.drop 1).take (s.size - 1) := by simp [ByteArray.data_extract, List.extract]
  rw [hd, List.take_of_length_le (by simp)]

set_option maxRecDepth 100000 in
set_option maxHeartbeats 1000000 in
theorem Name_any (s : ByteArray) (w : World) : Calls Try.prog 52 #[.string s] w (RetV w (.tuple #[.int .u8 (nameK s), .bool (!decide (nameK s = 0))])) := by
  have hn : nameK s = if (decide (2 ≤ s.size) && decide (s.size ≤ 16) && tailS s) = true then ofL (byteAt s 0) else 0 := rfl
  have H1 := hid fun w => small_any (s.extract 1 s.size) w
  have H2 := hid fun w => vOf_any (byteAt s 0) (byteAt_lt s 0) w
  by_cases h1 : 2 ≤ s.size
  · by_cases h2 : s.size ≤ 16
    · rw [decide_eq_true h1, decide_eq_true h2, Bool.true_and, Bool.true_and] at hn
      have h0 : 0 < s.size := by omega
      have hg := get_val h0
      rw [tail_small s] at H1
      by_cases h3 : tailS s = true
      · rw [if_pos h3] at hn
        rw [hn]
        rw [h3] at H1
        clear hn
        go_enter Try.func52, Try.ntmps52
        go_wp2_with (first | (go_at_call 74; (with_reducible refine (H1.out _).mono ?_); rintro e w1 ⟨rfl, hb⟩) | (go_at_call 75; (with_reducible refine (H2.out _).mono ?_); rintro e w1 ⟨rfl, hb2⟩))
        go_ret2
        exact ⟨rfl, hb.trans (hb2.mono hb.size)⟩
      · rw [if_neg h3] at hn
        rw [hn]
        rw [Bool.not_eq_true] at h3
        rw [h3] at H1
        clear hn
        go_enter Try.func52, Try.ntmps52
        go_wp2_with (first | (go_at_call 74; (with_reducible refine (H1.out _).mono ?_); rintro e w1 ⟨rfl, hb⟩))
        go_ret2
        exact ⟨rfl, hb⟩
    · rw [decide_eq_false h2, Bool.and_false, Bool.false_and, if_neg (by simp)] at hn
      rw [hn]
      clear hn
      go_enter Try.func52, Try.ntmps52
      go_wp2
      go_ret2
      exact ⟨rfl, Below.refl _ w⟩
  · rw [decide_eq_false h1, Bool.false_and, Bool.false_and, if_neg (by simp)] at hn
    rw [hn]
    clear hn
    go_enter Try.func52, Try.ntmps52
    go_wp2
    go_ret2
    exact ⟨rfl, Below.refl _ w⟩

theorem exp_bits (b : Nat) : bits .and .u64 ((b : Int) / 4503599627370496) 2047 = ((b / 4503599627370496 % 2048 : Nat) : Int) := by
  have e1 : ((b : Int) / 4503599627370496) = ((b / 4503599627370496 : Nat) : Int) := by omega
  rw [e1]
  generalize b / 4503599627370496 = x
  show IntKind.u64.wrap ((BitVec.ofInt 64 (x : Int) &&& (BitVec.ofInt 64 2047)).toNat : Int) = _
  have e : (BitVec.ofInt 64 2047).toNat = 2 ^ 11 - 1 := by decide
  rw [BitVec.toNat_and, e, Nat.and_two_pow_sub_one_eq_mod, BitVec.ofInt_natCast, BitVec.toNat_ofNat, IntKind.wrap_u64]
  omega
theorem rest_bits (b : Nat) : IntKind.u64.wrap ((b : Int) * 4096) = ((b % 4503599627370496 * 4096 : Nat) : Int) := by
  rw [IntKind.wrap_u64]
  omega

set_option maxRecDepth 100000 in
set_option maxHeartbeats 1000000 in
theorem rKind_any (b : Nat) (w : World) : Calls Try.prog 54 #[.float .f64 b] w (RetV w (.int .i64 (kindF b))) := by
  have e1 := exp_bits b
  have e2 := rest_bits b
  have hk : kindF b = if b / 4503599627370496 % 2048 = 0 then (if b % 4503599627370496 * 4096 = 0 then 0 else 1) else if b / 4503599627370496 % 2048 < 2047 then 2 else if b % 4503599627370496 * 4096 = 0 then 3 else 4 := by
    have : (b % 4503599627370496 * 4096 = 0) = (b % 4503599627370496 = 0) := propext (by omega)
    simp only [this]
    rfl
  have hx : b / 4503599627370496 % 2048 < 2048 := Nat.mod_lt _ (by decide)
  generalize b / 4503599627370496 % 2048 = x at *
  generalize b % 4503599627370496 * 4096 = y at *
  have HK := hid hk
  clear hk
  by_cases h0 : x = 0
  · subst h0
    by_cases h1 : y = 0
    · subst h1
      go_enter Try.func54, Try.ntmps54
      go_wp2
      go_ret
      exact ⟨by rw [HK.out]; rfl, Below.refl _ w⟩
    · have h2 : ((y : Int) == 0) = false := by simp; omega
      go_enter Try.func54, Try.ntmps54
      go_wp2
      go_ret
      exact ⟨by rw [HK.out]; simp [h1], Below.refl _ w⟩
  · have h3 : ((x : Int) == 0) = false := by simp; omega
    by_cases h4 : x < 2047
    · go_enter Try.func54, Try.ntmps54
      go_wp2
      go_ret
      exact ⟨by rw [HK.out]; simp [h0, h4], Below.refl _ w⟩
    · by_cases h1 : y = 0
      · subst h1
        go_enter Try.func54, Try.ntmps54
        go_wp2
        go_ret
        exact ⟨by rw [HK.out]; simp [h0, h4], Below.refl _ w⟩
      · have h2 : ((y : Int) == 0) = false := by simp; omega
        go_enter Try.func54, Try.ntmps54
        go_wp2
        go_ret
        exact ⟨by rw [HK.out]; simp [h0, h4, h1], Below.refl _ w⟩
end Go.Proofs.Ytfnbohpfcdddgaa

