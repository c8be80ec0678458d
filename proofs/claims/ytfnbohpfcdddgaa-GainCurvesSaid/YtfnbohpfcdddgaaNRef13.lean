/- gridworkref13, gridworkref01.Kind: the reference's table of kinds, names, nodes. Condition: a kind, a letter is a byte. -/
import Derived.Test.YtfnbohpfcdddgaaNRows
namespace Go.Proofs.Ytfnbohpfcdddgaa
open Go.RowKit

theorem results_rrow {fn : Func} {t p : Tmp} (h : fn.results = #[.cell p 119, .tmp t]) (tmps : Array Value) (w : World) (b : Nat) (c0 c1 c2 c3 c4 c5 : Value) (hp : tmps.getD p undef = .pointer (some ⟨b, 0, none⟩)) (hc : w.heap[b]? = some (.cells #[c0, c1, c2, c3, c4, c5] 119 (0, 0))) :
    (results fn tmps).run Try.prog w = .ok (.tuple #[.agg #[c0, c1, c2, c3, c4, c5], tmps.getD t undef]) w := by
  have h0 : w.cell? ⟨b, 0, none⟩ = some c0 := by simp [World.cell?, hc]
  have h1 : w.cell? ⟨b, 1, none⟩ = some c1 := by simp [World.cell?, hc]
  have h2 : w.cell? ⟨b, 2, none⟩ = some c2 := by simp [World.cell?, hc]
  have h3 : w.cell? ⟨b, 3, none⟩ = some c3 := by simp [World.cell?, hc]
  have h4 : w.cell? ⟨b, 4, none⟩ = some c4 := by simp [World.cell?, hc]
  have h5 : w.cell? ⟨b, 5, none⟩ = some c5 := by simp [World.cell?, hc]
  simp only [Array.getD_eq_getD_getElem?] at hp ⊢
  simp [results, h, hp, go_sem, h0, h1, h2, h3, h4, h5, Sem.run_bind, Result.andThen]
def set6 (w : World) (b : Nat) (c0 c1 c2 c3 c4 c5 : Value) : World := (((((w.setCell ⟨b, 0, none⟩ c0).setCell ⟨b, 1, none⟩ c1).setCell ⟨b, 2, none⟩ c2).setCell ⟨b, 3, none⟩ c3).setCell ⟨b, 4, none⟩ c4).setCell ⟨b, 5, none⟩ c5
theorem set6_at {w : World} {b : Nat} {x0 x1 x2 x3 x4 x5 : Value} (h : w.heap[b]? = some (.cells #[x0, x1, x2, x3, x4, x5] 119 (0, 0))) (c0 c1 c2 c3 c4 c5 : Value) : (set6 w b c0 c1 c2 c3 c4 c5).heap[b]? = some (.cells #[c0, c1, c2, c3, c4, c5] 119 (0, 0)) := by
  simp [set6, World.setCell, Array.getElem?_modify, h]
theorem below_set {B : Nat} {w w' : World} (h : Below B w w') (b j : Nat) (v : Value) (hB : B ≤ b) : Below B w (w'.setCell ⟨b, j, none⟩ v) := by
  refine ⟨h.os, h.tape, h.output, by simpa [World.setCell] using h.size, fun k hk => ?_⟩
  have : (w'.setCell ⟨b, j, none⟩ v).heap[k]? = w'.heap[k]? := by
    simp only [World.setCell, Array.getElem?_modify]
    rw [if_neg (by omega)]
  rw [this, h.block k hk]
theorem below_set6 {B : Nat} {w w' : World} (h : Below B w w') (b : Nat) (c0 c1 c2 c3 c4 c5 : Value) (hB : B ≤ b) : Below B w (set6 w' b c0 c1 c2 c3 c4 c5) :=
  below_set (below_set (below_set (below_set (below_set (below_set h b 0 c0 hB) b 1 c1 hB) b 2 c2 hB) b 3 c3 hB) b 4 c4 hB) b 5 c5 hB

set_option maxRecDepth 100000 in
set_option maxHeartbeats 1000000 in
theorem rrow_any (k : Nat) (hk : k < 256) (w : World) : Calls Try.prog 56 #[.int .u8 k] w (RetV w (.tuple #[rrowV k, .bool (okK k)])) := by
  have H := hid fun w => Rows_any w
  go_enter Try.func56, Try.ntmps56
  go_wp2_with (go_at_call 76; (with_reducible refine (H.out _).mono ?_); rintro e1 w1 ⟨b, rfl, hT, hbb, hb1⟩)
  have hra : w1.heap[w.heap.size]? = some (.cells #[.int .u8 0, .int .u8 0, .string ⟨#[]⟩, .bool false, .bool false, .bool false] 119 (0, 0)) := by
    rw [hb1.block w.heap.size (by simp), blk_new]
  have hbl : Below w.heap.size w w1 := ((Below.refl _ w).alloc (Nat.le_refl _) _).trans (hb1.mono (by simp))
  have hz := hbl.size
  have hf : ∀ j, w1.frozen? ⟨w.heap.size, j, none⟩ = false := by intro j; simp [World.frozen?, hra]
  have h0 : w1.cell? ⟨w.heap.size, 0, none⟩ = some (.int .u8 0) := by simp [World.cell?, hra]
  have h1 : w1.cell? ⟨w.heap.size, 1, none⟩ = some (.int .u8 0) := by simp [World.cell?, hra]
  have h2 : w1.cell? ⟨w.heap.size, 2, none⟩ = some (.string ⟨#[]⟩) := by simp [World.cell?, hra]
  have h3 : w1.cell? ⟨w.heap.size, 3, none⟩ = some (.bool false) := by simp [World.cell?, hra]
  have h4 : w1.cell? ⟨w.heap.size, 4, none⟩ = some (.bool false) := by simp [World.cell?, hra]
  have h5 : w1.cell? ⟨w.heap.size, 5, none⟩ = some (.bool false) := by simp [World.cell?, hra]
  have HRA := hid hra
  have HT := hid hT
  clear hra hT hb1
  go_loopw [5] (fun j w' => ∃ i : Nat, j = .int .i64 i ∧ i ≤ 8 ∧ (∀ m, m < i → k ≠ m + 1) ∧ w' = w1) (fun j _ => 9 - (intOf j).toNat)
  case atStart => exact ⟨0, rfl, by omega, fun i _ => by omega, rfl⟩
  case round =>
    obtain ⟨i, rfl, h8, hno, rfl⟩ := hrel
    by_cases hi : i < 8
    · obtain ⟨t0, t1, t2, t3, t4, t5⟩ := HT.out.cells (k := i + 1) (by omega) (by omega)
      simp only [Nat.add_sub_cancel] at t0 t1 t2 t3 t4 t5
      have HN := hid hno
      clear hno
      by_cases hki : k = i + 1
      · subst hki
        go_wp2
        refine bodyPost_ret (results_rrow rfl _ _ w.heap.size _ _ _ _ _ _ rfl (by exact set6_at HRA.out _ _ _ _ _ _)) rfl ?_
        have ho : okK (i + 1) = true := by unfold okK; simp; omega
        refine ⟨by simp [rrowV, ho], ?_⟩
        exact below_set6 hbl w.heap.size _ _ _ _ _ _ (by omega)
      · have hne : ¬ ((i + 1 : Nat) : Int) = (k : Int) := by omega
        have hno2 : ∀ m, m < i + 1 → k ≠ m + 1 := by
          intro m hm
          by_cases e : m = i
          · subst e; exact hki
          · exact HN.out m (by omega)
        have HN2 := hid hno2
        clear hno2 HN
        go_wp2
        go_roundw
        case rel => exact ⟨i + 1, by go_num, by omega, HN2.out, by first | trivial | rfl⟩
        case measure => simp [intOf] <;> omega
    · obtain rfl : i = 8 := by omega
      have ho : okK k = false := by
        unfold okK
        by_cases h : 1 ≤ k ∧ k ≤ 8
        · exact absurd (by omega) (hno (k - 1) (by omega))
        · simp; omega
      go_wp2
      refine bodyPost_ret (results_rrow rfl _ _ w.heap.size _ _ _ _ _ _ rfl (by exact set6_at HRA.out _ _ _ _ _ _)) rfl ?_
      have hl : rrowV k = .agg #[.int .u8 0, .int .u8 0, .string ⟨#[]⟩, .bool false, .bool false, .bool false] := by
        rcases k9 k with rfl | rfl | rfl | rfl | rfl | rfl | rfl | rfl | ⟨_, hr, _⟩
        all_goals first | cases ho | skip
        simp only [rowV, Value.agg.injEq] at hr
        simp at hr
        simp [rrowV, ho, hr]
      refine ⟨by rw [ho, hl]; rfl, ?_⟩
      exact below_set6 hbl w.heap.size _ _ _ _ _ _ (by omega)

set_option maxRecDepth 100000 in
set_option maxHeartbeats 1000000 in
theorem rOf_any (l : Nat) (hl : l < 256) (w : World) : Calls Try.prog 78 #[.int .u8 l] w (RetV w (.tuple #[.int .u8 (ofL l), .bool (!decide (ofL l = 0))])) := by
  have H := hid fun w => Rows_any w
  have hle := ofL_le l
  go_enter Try.func78, Try.ntmps78
  go_wp2_with (go_at_call 76; (with_reducible refine (H.out _).mono ?_); rintro e1 w1 ⟨b, rfl, hT, hbb, hb1⟩)
  have HT := hid hT
  clear hT
  go_loopw [5] (fun j w' => ∃ i : Nat, j = .int .i64 i ∧ i ≤ 8 ∧ (∀ m, m < i → ofL l ≠ m + 1) ∧ w' = w1) (fun j _ => 9 - (intOf j).toNat)
  case atStart => exact ⟨0, rfl, by omega, fun i _ => by omega, rfl⟩
  case round =>
    obtain ⟨i, rfl, h8, hno, rfl⟩ := hrel
    by_cases hi : i < 8
    · obtain ⟨t0, t1, t2, t3, t4, t5⟩ := HT.out.cells (k := i + 1) (by omega) (by omega)
      simp only [Nat.add_sub_cancel] at t0 t1 t2 t3 t4 t5
      have HN := hid hno
      have HL := hid (letK_of l (i + 1) (by omega) (by omega))
      clear hno
      obtain ⟨m, hm⟩ : ∃ m, m = letK (i + 1) := ⟨_, rfl⟩
      rw [← hm] at t1 HL
      clear hm
      by_cases hki : m = l
      · have he : ofL l = i + 1 := HL.out.1 hki
        subst hki
        go_wp2
        go_ret2
        exact ⟨by simp, hb1⟩
      · have hne : ¬ (m : Int) = (l : Int) := by omega
        have hno2 : ∀ m, m < i + 1 → ofL l ≠ m + 1 := by
          intro m2 hm
          by_cases e : m2 = i
          · subst e; exact fun e2 => hki (HL.out.2 e2)
          · exact HN.out m2 (by omega)
        have HN2 := hid hno2
        clear hno2 HN
        go_wp2
        go_roundw
        case rel => exact ⟨i + 1, by go_num, by omega, HN2.out, by first | trivial | rfl⟩
        case measure => simp [intOf] <;> omega
    · obtain rfl : i = 8 := by omega
      have he : ofL l = 0 := by
        by_cases h : ofL l = 0
        · exact h
        · exact absurd (by omega) (hno (ofL l - 1) (by omega))
      go_wp2
      go_ret2
      rw [he]
      exact ⟨by simp, hb1⟩

set_option maxRecDepth 100000 in
set_option maxHeartbeats 1000000 in
theorem rbytes_any (s : ByteArray) (w : World) (hs : s.size ≤ 16) : Calls Try.prog 77 #[.string s] w (fun e w' => e = .returned (.bool (smS s)) ∧ w' = w) := by
  go_enter Try.func77, Try.ntmps77
  go_wp2
  go_loopw [3] (fun j w' => ∃ pos : Nat, j = .int .i64 pos ∧ pos ≤ s.size ∧ (s.data.toList.take pos).all (fun c => smB c.toNat) = true ∧ w' = w) (fun j _ => s.size + 1 - (intOf j).toNat)
  case atStart => exact ⟨0, rfl, by omega, by simp, rfl⟩
  case round =>
    obtain ⟨pos, rfl, hle, hall, rfl⟩ := hrel
    by_cases hp : pos < s.size
    · have hg := get_list hp
      obtain ⟨c, hc⟩ : ∃ c, c = s[pos]'hp := ⟨_, rfl⟩
      rw [← hc] at hg
      have hc2 : (s[pos]'hp).toNat = c.toNat := by rw [hc]
      have hc3 := UInt8.toNat_lt c
      have hbad : smB c.toNat = false → smS s = false := by
        intro h
        unfold smS
        rw [List.all_eq_false]
        exact ⟨c, List.mem_of_getElem? hg, by simp [h]⟩
      by_cases hsm : smB c.toNat = true
      · have h2 : (97 ≤ c.toNat ∧ c.toNat ≤ 122) ∨ (48 ≤ c.toNat ∧ c.toNat ≤ 57) ∨ c.toNat = 95 := by unfold smB at hsm; simp at hsm; omega
        have hnext : (s.data.toList.take (pos + 1)).all (fun c => smB c.toNat) = true := by
          rw [List.take_add_one, hg]
          simp at hall ⊢
          exact ⟨hall, hsm⟩
        obtain ⟨m, hm⟩ : ∃ m, m = c.toNat := ⟨_, rfl⟩
        rw [← hm] at hc2 h2 hc3
        clear hc hg hbad hm hall hsm
        rcases h2 with ⟨h3, h4⟩ | ⟨h3, h4⟩ | rfl
        all_goals
          go_wp2
          go_roundw
          case rel => exact ⟨pos + 1, by go_num, by omega, hnext, by first | trivial | rfl⟩
          case measure => simp [intOf] <;> omega
      · have hF := hid (hbad (by simpa using hsm))
        have h2 : ¬ ((97 ≤ c.toNat ∧ c.toNat ≤ 122) ∨ (48 ≤ c.toNat ∧ c.toNat ≤ 57) ∨ c.toNat = 95) := by unfold smB at hsm; simp at hsm; omega
        obtain ⟨m, hm⟩ : ∃ m, m = c.toNat := ⟨_, rfl⟩
        rw [← hm] at hc2 h2 hc3
        clear hc hg hbad hm hall hsm
        rcases (by omega : m < 48 ∨ (57 < m ∧ m < 95) ∨ (95 < m ∧ m < 97) ∨ 122 < m) with h3 | ⟨h3, h4⟩ | ⟨h3, h4⟩ | h3
        all_goals
          clear h2
          have hq : ((m : Int) == 95) = false := by simp; try omega
          go_wp2
          all_goals first | (go_ret; rw [hF.out]; exact ⟨rfl, by first | trivial | rfl⟩) | (exfalso; simp at *; omega)
    · have hF : smS s = true := by
        unfold smS
        rwa [List.take_of_length_le (by simp; omega)] at hall
      have HF := hid hF
      clear hF hall
      go_wp2
      go_ret
      rw [HF.out]
      exact ⟨rfl, by first | trivial | rfl⟩

set_option maxRecDepth 100000 in
theorem rNode_any (s : ByteArray) (w : World) : Calls Try.prog 58 #[.string s] w (RetV w (.bool (nodeS s))) := by
  have hn : nodeS s = (decide (0 < s.size) && decide (s.size ≤ 16) && smS s) := rfl
  rw [hn]
  by_cases h1 : 0 < s.size
  · by_cases h2 : s.size ≤ 16
    · have H := hid fun w => rbytes_any s w h2
      rw [decide_eq_true h1, decide_eq_true h2]
      go_enter Try.func58, Try.ntmps58
      go_wp2_with (go_at_call 77; (with_reducible refine (H.out _).mono ?_); rintro e w' ⟨rfl, rfl⟩)
      go_ret
      exact ⟨by simp, Below.refl _ _⟩
    · rw [decide_eq_true h1, decide_eq_false h2]
      go_enter Try.func58, Try.ntmps58
      go_wp2
      go_ret
      exact ⟨by simp, Below.refl _ w⟩
  · rw [decide_eq_false h1]
    go_enter Try.func58, Try.ntmps58
    go_wp2
    go_ret
    exact ⟨by simp, Below.refl _ w⟩

set_option maxRecDepth 100000 in
set_option maxHeartbeats 1000000 in
theorem rName_any (s : ByteArray) (w : World) : Calls Try.prog 57 #[.string s] w (RetV w (.tuple #[.int .u8 (nameK s), .bool (!decide (nameK s = 0))])) := by
  have hn : nameK s = if (decide (2 ≤ s.size) && decide (s.size ≤ 16) && tailS s) = true then ofL (byteAt s 0) else 0 := rfl
  have H2 := hid fun w => rOf_any (byteAt s 0) (byteAt_lt s 0) w
  by_cases h1 : 2 ≤ s.size
  · by_cases h2 : s.size ≤ 16
    · have H1 := hid fun w => rbytes_any (s.extract 1 s.size) w (by simp; omega)
      rw [decide_eq_true h1, decide_eq_true h2, Bool.true_and, Bool.true_and] at hn
      have h0 : 0 < s.size := by omega
      have hg := get_val h0
      rw [tail_small s] at H1
      by_cases h3 : tailS s = true
      · rw [if_pos h3] at hn
        rw [hn]
        rw [h3] at H1
        clear hn
        go_enter Try.func57, Try.ntmps57
        go_wp2_with (first | (go_at_call 77; (with_reducible refine (H1.out _).mono ?_); rintro e w1 ⟨rfl, rfl⟩) | (go_at_call 78; (with_reducible refine (H2.out _).mono ?_); rintro e w1 ⟨rfl, hb2⟩))
        go_ret2
        exact ⟨rfl, hb2⟩
      · rw [if_neg h3] at hn
        rw [hn]
        rw [Bool.not_eq_true] at h3
        rw [h3] at H1
        clear hn
        go_enter Try.func57, Try.ntmps57
        go_wp2_with (first | (go_at_call 77; (with_reducible refine (H1.out _).mono ?_); rintro e w1 ⟨rfl, rfl⟩))
        go_ret2
        exact ⟨rfl, Below.refl _ _⟩
    · rw [decide_eq_false h2, Bool.and_false, Bool.false_and, if_neg (by simp)] at hn
      rw [hn]
      clear hn
      go_enter Try.func57, Try.ntmps57
      go_wp2
      go_ret2
      exact ⟨rfl, Below.refl _ w⟩
  · rw [decide_eq_false h1, Bool.false_and, Bool.false_and, if_neg (by simp)] at hn
    rw [hn]
    clear hn
    go_enter Try.func57, Try.ntmps57
    go_wp2
    go_ret2
    exact ⟨rfl, Below.refl _ w⟩

end Go.Proofs.Ytfnbohpfcdddgaa

