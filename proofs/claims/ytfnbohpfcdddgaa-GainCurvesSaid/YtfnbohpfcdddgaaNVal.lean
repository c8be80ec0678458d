/- gridwork/value: what is told of a kind, of a name, of an element. Condition: a kind is a byte, a real has 64 bits. -/
import Derived.Test.YtfnbohpfcdddgaaBase
import Derived.Test.YtfnbohpfcdddgaaNEl
import Derived.Laws.RangeAny
namespace Go.Proofs.Ytfnbohpfcdddgaa
open Go.RowKit

/-- Something is told, nothing of what was there is turned. -/
def RetV (w : World) (v : Value) (e : Ending) (w' : World) : Prop := e = .returned v ∧ Below w.heap.size w w'
def rowV (k : Nat) : Value := .agg #[.int .u8 (letK k), .string (unitK k), .bool (abK k), .bool (fourK k), .bool (phK k)]

theorem k9 (k : Nat) : k = 1 ∨ k = 2 ∨ k = 3 ∨ k = 4 ∨ k = 5 ∨ k = 6 ∨ k = 7 ∨ k = 8 ∨ (okK k = false ∧ rowV k = .agg #[.int .u8 0, .string ⟨#[]⟩, .bool false, .bool false, .bool false] ∧ k ≠ 1 ∧ k ≠ 2 ∧ k ≠ 3 ∧ k ≠ 4 ∧ k ≠ 5 ∧ k ≠ 6 ∧ k ≠ 7 ∧ k ≠ 8) := by
  by_cases h1 : k = 1; · omega
  by_cases h2 : k = 2; · omega
  by_cases h3 : k = 3; · omega
  by_cases h4 : k = 4; · omega
  by_cases h5 : k = 5; · omega
  by_cases h6 : k = 6; · omega
  by_cases h7 : k = 7; · omega
  by_cases h8 : k = 8; · omega
  have hl : letK k = 0 := by unfold letK; split <;> first | omega | rfl
  have hu : unitK k = ⟨#[]⟩ := by unfold unitK; split <;> first | omega | rfl
  refine .inr (.inr (.inr (.inr (.inr (.inr (.inr (.inr ⟨?_, ?_, h1, h2, h3, h4, h5, h6, h7, h8⟩)))))))
  · unfold okK; simp; omega
  · simp [rowV, hl, hu, abK, fourK, phK, h1, h2, h3, h4, h5, h6, h7, h8]

theorem info_vrow : (Try.prog.info? 111).map (fun i => (i.zero, i.size)) = some (some (.agg #[.int .u8 0, .string ⟨#[]⟩, .bool false, .bool false, .bool false]), 5) := by kernel_rfl

theorem results_row {fn : Func} {t p : Tmp} (h : fn.results = #[.cell p 111, .tmp t]) (tmps : Array Value) (w : World) (b : Nat) (c0 c1 c2 c3 c4 : Value) (hp : tmps.getD p undef = .pointer (some ⟨b, 0, none⟩)) (hc : w.heap[b]? = some (.cells #[c0, c1, c2, c3, c4] 111 (0, 0))) :
    (results fn tmps).run Try.prog w = .ok (.tuple #[.agg #[c0, c1, c2, c3, c4], tmps.getD t undef]) w := by
  have h0 : w.cell? ⟨b, 0, none⟩ = some c0 := by simp [World.cell?, hc]
  have h1 : w.cell? ⟨b, 1, none⟩ = some c1 := by simp [World.cell?, hc]
  have h2 : w.cell? ⟨b, 2, none⟩ = some c2 := by simp [World.cell?, hc]
  have h3 : w.cell? ⟨b, 3, none⟩ = some c3 := by simp [World.cell?, hc]
  have h4 : w.cell? ⟨b, 4, none⟩ = some c4 := by simp [World.cell?, hc]
  simp only [Array.getD_eq_getD_getElem?] at hp ⊢
  simp [results, h, hp, go_sem, h0, h1, h2, h3, h4, Sem.run_bind, Result.andThen]
theorem blk_new (w : World) (o : Obj) : (w.alloc o).heap[w.heap.size]? = some o := by
  show (w.heap.push _)[w.heap.size]? = _
  simp

set_option maxRecDepth 100000 in
set_option maxHeartbeats 1000000 in
theorem rowOf_any (k : Nat) (hk : k < 256) (w : World) : Calls Try.prog 51 #[.int .u8 k] w (RetV w (.tuple #[rowV k, .bool (okK k)])) := by
  rcases k9 k with rfl | rfl | rfl | rfl | rfl | rfl | rfl | rfl | ⟨ho, hr, h1, h2, h3, h4, h5, h6, h7, h8⟩
  all_goals try rw [ho, hr]
  all_goals
    go_enter Try.func51, Try.ntmps51
    go_wp2
    refine bodyPost_ret (results_row rfl _ _ w.heap.size _ _ _ _ _ rfl (blk_new _ _)) rfl ?_
    exact ⟨rfl, (Below.refl _ w).alloc (Nat.le_refl _) _⟩

theorem get_list {s : ByteArray} {i : Nat} (h : i < s.size) : s.data.toList[i]? = some (s[i]'h) := by
  have h2 : i < s.data.toList.length := by simpa using h
  rw [List.getElem?_eq_getElem h2]
  simp [ByteArray.getElem_eq_getElem_data]

set_option maxRecDepth 100000 in
set_option maxHeartbeats 1000000 in
theorem small_any (s : ByteArray) (w : World) : Calls Try.prog 74 #[.string s] w (RetV w (.bool (smS s))) := by
  go_enter Try.func74, Try.ntmps74
  go_wp2
  go_loopw [4] (fun _ w' => ∃ pos : Nat, w' = w.iter s pos ∧ pos ≤ s.size ∧ (s.data.toList.take pos).all (fun c => smB c.toNat) = true) (fun _ w' => s.size - w'.iterPos w.heap.size)
  case atStart => exact ⟨0, rfl, by omega, by simp⟩
  case round =>
    obtain ⟨pos, rfl, hle, hall⟩ := hrel
    by_cases hp : pos < s.size
    · have hg := get_list hp
      obtain ⟨c, hc⟩ : ∃ c, c = s[pos]'hp := ⟨_, rfl⟩
      rw [← hc] at hg
      have hbad : smB c.toNat = false → smS s = false := by
        intro h
        unfold smS
        rw [List.all_eq_false]
        exact ⟨c, List.mem_of_getElem? hg, by simp [h]⟩
      by_cases ha : c.toNat < 128
      · have hnx : ∀ ty, (Instr.next (.pointer (some ⟨w.heap.size, 0, none⟩)) true ty).run Try.prog (w.iter s pos) = .ok (.tuple #[.bool true, .int .i64 pos, .int .i32 c.toNat]) (w.iter s (pos + 1)) := fun ty => by rw [hc]; exact run_next_ascii w s pos ty hp (by rw [← hc]; exact ha)
        by_cases hsm : smB c.toNat = true
        · have h2 : (97 ≤ c.toNat ∧ c.toNat ≤ 122) ∨ (48 ≤ c.toNat ∧ c.toNat ≤ 57) ∨ c.toNat = 95 := by unfold smB at hsm; simp at hsm; omega
          have hnext : (s.data.toList.take (pos + 1)).all (fun c => smB c.toNat) = true := by
            rw [List.take_add_one, hg]
            simp at hall ⊢
            exact ⟨hall, hsm⟩
          obtain ⟨m, hm⟩ : ∃ m, m = c.toNat := ⟨_, rfl⟩
          rw [← hm] at hnx h2
          clear hc hg hbad hm hall hsm ha
          rcases h2 with ⟨h3, h4⟩ | ⟨h3, h4⟩ | rfl
          all_goals
            go_wp2
            go_roundw
            case rel => exact ⟨pos + 1, rfl, by omega, hnext⟩
            case measure => simp; omega
        · have hF := hid (hbad (by simpa using hsm))
          have h2 : ¬ ((97 ≤ c.toNat ∧ c.toNat ≤ 122) ∨ (48 ≤ c.toNat ∧ c.toNat ≤ 57) ∨ c.toNat = 95) := by unfold smB at hsm; simp at hsm; omega
          obtain ⟨m, hm⟩ : ∃ m, m = c.toNat := ⟨_, rfl⟩
          rw [← hm] at hnx h2
          clear hc hg hbad hm hall hsm ha
          rcases (by omega : m < 48 ∨ (57 < m ∧ m < 95) ∨ (95 < m ∧ m < 97) ∨ 122 < m) with h3 | ⟨h3, h4⟩ | ⟨h3, h4⟩ | h3
          all_goals
            clear h2
            have hq : ((m : Int) != 95) = true := by simp; try omega
            go_wp2
            go_ret
            rw [hF.out]
            exact ⟨rfl, (Below.refl _ w).alloc (Nat.le_refl _) _⟩
      · have hnx : ∀ ty, (Instr.next (.pointer (some ⟨w.heap.size, 0, none⟩)) true ty).run Try.prog (w.iter s pos) = _ := fun ty => run_next_any w s pos ty hp
        have hd := (decode_high s pos hp (by rw [← hc]; omega)).1
        have hF := hid (hbad (by unfold smB; simp; omega))
        obtain ⟨m, hm⟩ : ∃ m, m = (Utf8.decode s pos).1 := ⟨_, rfl⟩
        rw [← hm] at hnx hd
        clear hc hg hbad hm hall ha
        have hq : ((m : Int) != 95) = true := by simp; omega
        go_wp2
        go_ret
        rw [hF.out]
        exact ⟨rfl, (Below.refl _ w).alloc (Nat.le_refl _) _⟩
    · have hnx : ∀ ty, (Instr.next (.pointer (some ⟨w.heap.size, 0, none⟩)) true ty).run Try.prog (w.iter s pos) = _ := fun ty => run_next_end w s pos ty hp
      have hF : smS s = true := by
        unfold smS
        rwa [List.take_of_length_le (by simp; omega)] at hall
      have HF := hid hF
      clear hF hall
      go_wp2
      go_ret
      rw [HF.out]
      exact ⟨rfl, (Below.refl _ w).alloc (Nat.le_refl _) _⟩
end Go.Proofs.Ytfnbohpfcdddgaa

