/- gridwork/value: what is told of a kind, of a name, of an element. Condition: a kind is a byte, a real has 64 bits. gridwork/value, real.Kind: nodes, names, the check of an element. Condition: a kind is a byte, a real has 64 bits. -/
import Derived.Test.YtgcakhmdmajplaaBaseM
import Derived.Test.YtgcakhmdmajplaaNElM
import Derived.Laws.RangeAny
namespace Go.Proofs.Ytgcakhmdmajplaa
open Go.RowKit

/-- Something is told, nothing of what was there is turned. -/
def RetV (w : World) (v : Value) (e : Ending) (w' : World) : Prop := e = .returned v ∧ Below w.heap.size w w'
def rowV (k : Nat) : Value := .agg #[.int .u8 (letK k), .string (unitK k), .bool (abK k), .bool (fourK k), .bool (phK k)]

theorem k9 (k : Nat) : k = 1 ∨ k = 2 ∨ k = 3 ∨ k = 4 ∨ k = 5 ∨ k = 6 ∨ k = 7 ∨ k = 8 ∨ (okK k = false ∧ rowV k = .agg #[.int .u8 0, .string ⟨#[]⟩, .bool false, .bool false, .bool false] ∧ k ≠ 1 ∧ k ≠ 2 ∧ k ≠ 3 ∧ k ≠ 4 ∧ k ≠ 5 ∧ k ≠ 6 ∧ k ≠ 7 ∧ k ≠ 8) := by
  by_cases h1 : k = 1; · omega
  by_cases h2 : k = 2; · omega
  by_cases h3 : k = 3; · omega
  by_cases h4 : k = 4; · omega
  by_cases h5 : k = 5; · omega
  by_cases h6 : k = 6; · omega
  by_cases h7 : k = 7; · omega
  by_cases h8 : k = 8; · omega
  have hl : letK k = 0 := by unfold letK; split <;> first | omega | rfl
  have hu : unitK k = ⟨#[]⟩ := by unfold unitK; split <;> first | omega | rfl
  refine .inr (.inr (.inr (.inr (.inr (.inr (.inr (.inr ⟨?_, ?_, h1, h2, h3, h4, h5, h6, h7, h8⟩)))))))
  · unfold okK; simp; omega
  · simp [rowV, hl, hu, abK, fourK, phK, h1, h2, h3, h4, h5, h6, h7, h8]

theorem info_vrow : (Try.prog.info? 83).map (fun i => (i.zero, i.size)) = some (some (.agg #[.int .u8 0, .string ⟨#[]⟩, .bool false, .bool false, .bool false]), 5) := by kernel_rfl

theorem results_row {fn : Func} {t p : Tmp} (h : fn.results = #[.cell p 83, .tmp t]) (tmps : Array Value) (w : World) (b : Nat) (c0 c1 c2 c3 c4 : Value) (hp : tmps.getD p undef = .pointer (some ⟨b, 0, none⟩)) (hc : w.heap[b]? = some (.cells #[c0, c1, c2, c3, c4] 83 (0, 0))) :
    (results fn tmps).run Try.prog w = .ok (.tuple #[.agg #[c0, c1, c2, c3, c4], tmps.getD t undef]) w := by
  have h0 : w.cell? ⟨b, 0, none⟩ = some c0 := by simp [World.cell?, hc]
  have h1 : w.cell? ⟨b, 1, none⟩ = some c1 := by simp [World.cell?, hc]
  have h2 : w.cell? ⟨b, 2, none⟩ = some c2 := by simp [World.cell?, hc]
  have h3 : w.cell? ⟨b, 3, none⟩ = some c3 := by simp [World.cell?, hc]
  have h4 : w.cell? ⟨b, 4, none⟩ = some c4 := by simp [World.cell?, hc]
  simp only [Array.getD_eq_getD_getElem?] at hp ⊢
  simp [results, h, hp, go_sem, h0, h1, h2, h3, h4, Sem.run_bind, Result.andThen]
theorem blk_new (w : World) (o : Obj) : (w.alloc o).heap[w.heap.size]? = some o := by
  show (w.heap.push _)[w.heap.size]? = _
  simp

set_option maxRecDepth 100000 in
set_option maxHeartbeats 1000000 in
theorem rowOf_any (k : Nat) (hk : k < 256) (w : World) : Calls Try.prog 34 #[.int .u8 k] w (RetV w (.tuple #[rowV k, .bool (okK k)])) := by
  rcases k9 k with rfl | rfl | rfl | rfl | rfl | rfl | rfl | rfl | ⟨ho, hr, h1, h2, h3, h4, h5, h6, h7, h8⟩
  all_goals try rw [ho, hr]
  all_goals
    go_enter Try.func34, Try.ntmps34
    go_wp2
    refine bodyPost_ret (results_row rfl _ _ w.heap.size _ _ _ _ _ rfl (blk_new _ _)) rfl ?_
    exact ⟨rfl, (Below.refl _ w).alloc (Nat.le_refl _) _⟩

theorem get_list {s : ByteArray} {i : Nat} (h : i < s.size) : s.data.toList[i]? = some (s[i]'h) := by
  have h2 : i < s.data.toList.length := by simpa using h
  rw [List.getElem?_eq_getElem h2]
  simp [ByteArray.getElem_eq_getElem_data]

set_option maxRecDepth 100000 in
set_option maxHeartbeats 1000000 in
theorem small_any (s : ByteArray) (w : World) : Calls Try.prog 51 #[.string s] w (RetV w (.bool (smS s))) := by
  go_enter Try.func51, Try.ntmps51
  go_wp2
  go_loopw [4] (fun _ w' => ∃ pos : Nat, w' = w.iter s pos ∧ pos ≤ s.size ∧ (s.data.toList.take pos).all (fun c => smB c.toNat) = true) (fun _ w' => s.size - w'.iterPos w.heap.size)
  case atStart => exact ⟨0, rfl, by omega, by simp⟩
  case round =>
    obtain ⟨pos, rfl, hle, hall⟩ := hrel
    by_cases hp : pos < s.size
    · have hg := get_list hp
      obtain ⟨c, hc⟩ : ∃ c, c = s[pos]'hp := ⟨_, rfl⟩
      rw [← hc] at hg
      have hbad : smB c.toNat = false → smS s = false := by
        intro h
        unfold smS
        rw [List.all_eq_false]
        exact ⟨c, List.mem_of_getElem? hg, by simp [h]⟩
      by_cases ha : c.toNat < 128
      · have hnx : ∀ ty, (Instr.next (.pointer (some ⟨w.heap.size, 0, none⟩)) true ty).run Try.prog (w.iter s pos) = .ok (.tuple #[.bool true, .int .i64 pos, .int .i32 c.toNat]) (w.iter s (pos + 1)) := fun ty => by rw [hc]; exact run_next_ascii w s pos ty hp (by rw [← hc]; exact ha)
        by_cases hsm : smB c.toNat = true
        · have h2 : (97 ≤ c.toNat ∧ c.toNat ≤ 122) ∨ (48 ≤ c.toNat ∧ c.toNat ≤ 57) ∨ c.toNat = 95 := by unfold smB at hsm; simp at hsm; omega
          have hnext : (s.data.toList.take (pos + 1)).all (fun c => smB c.toNat) = true := by
            rw [List.take_add_one, hg]
            simp at hall ⊢
            exact ⟨hall, hsm⟩
          obtain ⟨m, hm⟩ : ∃ m, m = c.toNat := ⟨_, rfl⟩
          rw [← hm] at hnx h2
          clear hc hg hbad hm hall hsm ha
          rcases h2 with ⟨h3, h4⟩ | ⟨h3, h4⟩ | rfl
          all_goals
            go_wp2
            go_roundw
            case rel => exact ⟨pos + 1, rfl, by omega, hnext⟩
            case measure => simp; omega
        · have hF := hid (hbad (by simpa using hsm))
          have h2 : ¬ ((97 ≤ c.toNat ∧ c.toNat ≤ 122) ∨ (48 ≤ c.toNat ∧ c.toNat ≤ 57) ∨ c.toNat = 95) := by unfold smB at hsm; simp at hsm; omega
          obtain ⟨m, hm⟩ : ∃ m, m = c.toNat := ⟨_, rfl⟩
          rw [← hm] at hnx h2
          clear hc hg hbad hm hall hsm ha
          rcases (by omega : m < 48 ∨ (57 < m ∧ m < 95) ∨ (95 < m ∧ m < 97) ∨ 122 < m) with h3 | ⟨h3, h4⟩ | ⟨h3, h4⟩ | h3
          all_goals
            clear h2
            have hq : ((m : Int) != 95) = true := by simp; try omega
            go_wp2
            go_ret
            rw [hF.out]
            exact ⟨rfl, (Below.refl _ w).alloc (Nat.le_refl _) _⟩
      · have hnx : ∀ ty, (Instr.next (.pointer (some ⟨w.heap.size, 0, none⟩)) true ty).run Try.prog (w.iter s pos) = _ := fun ty => run_next_any w s pos ty hp
        have hd := (decode_high s pos hp (by rw [← hc]; omega)).1
        have hF := hid (hbad (by unfold smB; simp; omega))
        obtain ⟨m, hm⟩ : ∃ m, m = (Utf8.decode s pos).1 := ⟨_, rfl⟩
        rw [← hm] at hnx hd
        clear hc hg hbad hm hall ha
        have hq : ((m : Int) != 95) = true := by simp; omega
        go_wp2
        go_ret
        rw [hF.out]
        exact ⟨rfl, (Below.refl _ w).alloc (Nat.le_refl _) _⟩
    · have hnx : ∀ ty, (Instr.next (.pointer (some ⟨w.heap.size, 0, none⟩)) true ty).run Try.prog (w.iter s pos) = _ := fun ty => run_next_end w s pos ty hp
      have hF : smS s = true := by
        unfold smS
        rwa [List.take_of_length_le (by simp; omega)] at hall
      have HF := hid hF
      clear hF hall
      go_wp2
      go_ret
      rw [HF.out]
      exact ⟨rfl, (Below.refl _ w).alloc (Nat.le_refl _) _⟩
end Go.Proofs.Ytgcakhmdmajplaa

namespace Go.Proofs.Ytgcakhmdmajplaa
open Go.RowKit

theorem size_bound (s : ByteArray) : s.size = s.data.toList.length := by simp

set_option maxRecDepth 100000 in
theorem Node_any (s : ByteArray) (w : World) : Calls Try.prog 36 #[.string s] w (RetV w (.bool (nodeS s))) := by
  have hn : nodeS s = (decide (0 < s.size) && decide (s.size ≤ 16) && smS s) := rfl
  rw [hn]
  have H := hid fun w => small_any s w
  by_cases h1 : 0 < s.size
  · by_cases h2 : s.size ≤ 16
    · rw [decide_eq_true h1, decide_eq_true h2]
      go_enter Try.func36, Try.ntmps36
      go_wp2_with (go_at_call 51; (with_reducible refine (H.out _).mono ?_); rintro e w1 ⟨rfl, hb⟩)
      go_ret
      exact ⟨by simp, hb⟩
    · rw [decide_eq_true h1, decide_eq_false h2]
      go_enter Try.func36, Try.ntmps36
      go_wp2
      go_ret
      exact ⟨by simp, Below.refl _ w⟩
  · rw [decide_eq_false h1]
    go_enter Try.func36, Try.ntmps36
    go_wp2
    go_ret
    exact ⟨by simp, Below.refl _ w⟩

theorem letK_of (l k : Nat) (h1 : 1 ≤ k) (h8 : k ≤ 8) : letK k = l ↔ ofL l = k := by
  rcases (by omega : k = 1 ∨ k = 2 ∨ k = 3 ∨ k = 4 ∨ k = 5 ∨ k = 6 ∨ k = 7 ∨ k = 8) with rfl | rfl | rfl | rfl | rfl | rfl | rfl | rfl
  all_goals
    unfold ofL letK
    constructor
    · intro h; subst h; rfl
    · intro h; split at h <;> first | rfl | omega
theorem ofL_le (l : Nat) : ofL l ≤ 8 := by unfold ofL; split <;> omega

set_option maxRecDepth 100000 in
set_option maxHeartbeats 1000000 in
theorem vOf_any (l : Nat) (hl : l < 256) (w : World) : Calls Try.prog 52 #[.int .u8 l] w (RetV w (.tuple #[.int .u8 (ofL l), .bool (!decide (ofL l = 0))])) := by
  have hr : ∀ (k : Nat) (w : World), k < 256 → Calls Try.prog 34 #[.int .u8 k] w (RetV w (.tuple #[rowV k, .bool (okK k)])) := fun k w h => rowOf_any k h w
  have H := hid hr
  have hle := ofL_le l
  clear hr
  go_enter Try.func52, Try.ntmps52
  go_wp2
  go_loopw [4] (fun k w' => ∃ j : Nat, k = .int .u8 j ∧ 1 ≤ j ∧ j ≤ 9 ∧ (∀ i, 1 ≤ i → i < j → ofL l ≠ i) ∧ Below w.heap.size w w') (fun k _ => 9 - (intOf k).toNat)
  case atStart => exact ⟨1, rfl, by omega, by omega, fun i _ _ => by omega, Below.refl _ _⟩
  case round =>
    obtain ⟨j, rfl, h1, h9, hno, hb⟩ := hrel
    have hz := hb.size
    by_cases h8 : j ≤ 8
    · have HL := hid (letK_of l j h1 h8)
      have HN := hid hno
      clear hno
      obtain ⟨m, hm⟩ : ∃ m, m = letK j := ⟨_, rfl⟩
      have hrow : rowV j = .agg #[.int .u8 m, .string (unitK j), .bool (abK j), .bool (fourK j), .bool (phK j)] := by rw [hm]; rfl
      rw [← hm] at HL
      have HR := hid hrow
      clear hm hrow
      by_cases hml : m = l
      · have he : ofL l = j := HL.out.1 hml
        subst hml
        go_wp2_with (go_at_call 34; (with_reducible refine (H.out _ _ (by omega)).mono ?_); rintro e w' ⟨rfl, hb2⟩; rw [HR.out])
        go_ret2
        rw [he]
        refine ⟨by simp; omega, ?_⟩
        exact (hb.trans (hb2.mono hz)).alloc (by have := hb2.size; omega) _
      · have hmi : ¬ (m : Int) = (l : Int) := by omega
        have hno2 : ∀ i, 1 ≤ i → i < j + 1 → ofL l ≠ i := by
          intro i hi1 hi2
          by_cases e : i = j
          · subst e; exact fun e2 => hml (HL.out.2 e2)
          · exact HN.out i hi1 (by omega)
        have HN2 := hid hno2
        clear hno2 HN HL
        go_wp2_with (go_at_call 34; (with_reducible refine (H.out _ _ (by omega)).mono ?_); rintro e w' ⟨rfl, hb2⟩; rw [HR.out])
        go_roundw
        case rel => exact ⟨j + 1, by go_num, by omega, by omega, HN2.out, (hb.trans (hb2.mono hz)).alloc (by have := hb2.size; omega) _⟩
        case measure => simp [intOf] <;> omega
    · obtain rfl : j = 9 := by omega
      have he : ofL l = 0 := by
        by_cases h0 : ofL l = 0
        · exact h0
        · exact absurd rfl (hno (ofL l) (by omega) (by omega))
      go_wp2
      go_ret2
      rw [he]
      exact ⟨by simp, hb⟩

theorem get_val {s : ByteArray} {i : Nat} (h : i < s.size) : (s[i]'h).toNat = byteAt s i := by
  have := get_list h
  unfold byteAt
  rw [List.getD_eq_getElem?_getD, this]
  rfl
theorem byteAt_lt (s : ByteArray) (i : Nat) : byteAt s i < 256 := by unfold byteAt; exact UInt8.toNat_lt _
theorem tail_small (s : ByteArray) : smS (s.extract 1 s.size) = tailS s := by
  unfold smS tailS
  congr 1
  have hd : (s.extract 1 s.size).data.toList = (s.data.toList.drop 1).take (s.size - 1) := by simp [ByteArray.data_extract, List.extract]
  rw [hd, List.take_of_length_le (by simp)]

set_option maxRecDepth 100000 in
set_option maxHeartbeats 1000000 in
theorem Name_any (s : ByteArray) (w : World) : Calls Try.prog 35 #[.string s] w (RetV w (.tuple #[.int .u8 (nameK s), .bool (!decide (nameK s = 0))])) := by
  have hn : nameK s = if (decide (2 ≤ s.size) && decide (s.size ≤ 16) && tailS s) = true then ofL (byteAt s 0) else 0 := rfl
  have H1 := hid fun w => small_any (s.extract 1 s.size) w
  have H2 := hid fun w => vOf_any (byteAt s 0) (byteAt_lt s 0) w
  by_cases h1 : 2 ≤ s.size
  · by_cases h2 : s.size ≤ 16
    · rw [decide_eq_true h1, decide_eq_true h2, Bool.true_and, Bool.true_and] at hn
      have h0 : 0 < s.size := by omega
      have hg := get_val h0
      rw [tail_small s] at H1
      by_cases h3 : tailS s = true
      · rw [if_pos h3] at hn
        rw [hn]
        rw [h3] at H1
        clear hn
        go_enter Try.func35, Try.ntmps35
        go_wp2_with (first | (go_at_call 51; (with_reducible refine (H1.out _).mono ?_); rintro e w1 ⟨rfl, hb⟩) | (go_at_call 52; (with_reducible refine (H2.out _).mono ?_); rintro e w1 ⟨rfl, hb2⟩))
        go_ret2
        exact ⟨rfl, hb.trans (hb2.mono hb.size)⟩
      · rw [if_neg h3] at hn
        rw [hn]
        rw [Bool.not_eq_true] at h3
        rw [h3] at H1
        clear hn
        go_enter Try.func35, Try.ntmps35
        go_wp2_with (first | (go_at_call 51; (with_reducible refine (H1.out _).mono ?_); rintro e w1 ⟨rfl, hb⟩))
        go_ret2
        exact ⟨rfl, hb⟩
    · rw [decide_eq_false h2, Bool.and_false, Bool.false_and, if_neg (by simp)] at hn
      rw [hn]
      clear hn
      go_enter Try.func35, Try.ntmps35
      go_wp2
      go_ret2
      exact ⟨rfl, Below.refl _ w⟩
  · rw [decide_eq_false h1, Bool.false_and, Bool.false_and, if_neg (by simp)] at hn
    rw [hn]
    clear hn
    go_enter Try.func35, Try.ntmps35
    go_wp2
    go_ret2
    exact ⟨rfl, Below.refl _ w⟩

theorem exp_bits (b : Nat) : bits .and .u64 ((b : Int) / 4503599627370496) 2047 = ((b / 4503599627370496 % 2048 : Nat) : Int) := by
  have e1 : ((b : Int) / 4503599627370496) = ((b / 4503599627370496 : Nat) : Int) := by omega
  rw [e1]
  generalize b / 4503599627370496 = x
  show IntKind.u64.wrap ((BitVec.ofInt 64 (x : Int) &&& (BitVec.ofInt 64 2047)).toNat : Int) = _
  have e : (BitVec.ofInt 64 2047).toNat = 2 ^ 11 - 1 := by decide
  rw [BitVec.toNat_and, e, Nat.and_two_pow_sub_one_eq_mod, BitVec.ofInt_natCast, BitVec.toNat_ofNat, IntKind.wrap_u64]
  omega
theorem rest_bits (b : Nat) : IntKind.u64.wrap ((b : Int) * 4096) = ((b % 4503599627370496 * 4096 : Nat) : Int) := by
  rw [IntKind.wrap_u64]
  omega

set_option maxRecDepth 100000 in
set_option maxHeartbeats 1000000 in
theorem rKind_any (b : Nat) (w : World) : Calls Try.prog 37 #[.float .f64 b] w (RetV w (.int .i64 (kindF b))) := by
  have e1 := exp_bits b
  have e2 := rest_bits b
  have hk : kindF b = if b / 4503599627370496 % 2048 = 0 then (if b % 4503599627370496 * 4096 = 0 then 0 else 1) else if b / 4503599627370496 % 2048 < 2047 then 2 else if b % 4503599627370496 * 4096 = 0 then 3 else 4 := by
    have : (b % 4503599627370496 * 4096 = 0) = (b % 4503599627370496 = 0) := propext (by omega)
    simp only [this]
    rfl
  have hx : b / 4503599627370496 % 2048 < 2048 := Nat.mod_lt _ (by decide)
  generalize b / 4503599627370496 % 2048 = x at *
  generalize b % 4503599627370496 * 4096 = y at *
  have HK := hid hk
  clear hk
  by_cases h0 : x = 0
  · subst h0
    by_cases h1 : y = 0
    · subst h1
      go_enter Try.func37, Try.ntmps37
      go_wp2
      go_ret
      exact ⟨by rw [HK.out]; rfl, Below.refl _ w⟩
    · have h2 : ((y : Int) == 0) = false := by simp; omega
      go_enter Try.func37, Try.ntmps37
      go_wp2
      go_ret
      exact ⟨by rw [HK.out]; simp [h1], Below.refl _ w⟩
  · have h3 : ((x : Int) == 0) = false := by simp; omega
    by_cases h4 : x < 2047
    · go_enter Try.func37, Try.ntmps37
      go_wp2
      go_ret
      exact ⟨by rw [HK.out]; simp [h0, h4], Below.refl _ w⟩
    · by_cases h1 : y = 0
      · subst h1
        go_enter Try.func37, Try.ntmps37
        go_wp2
        go_ret
        exact ⟨by rw [HK.out]; simp [h0, h4], Below.refl _ w⟩
      · have h2 : ((y : Int) == 0) = false := by simp; omega
        go_enter Try.func37, Try.ntmps37
        go_wp2
        go_ret
        exact ⟨by rw [HK.out]; simp [h0, h4, h1], Below.refl _ w⟩
end Go.Proofs.Ytgcakhmdmajplaa
