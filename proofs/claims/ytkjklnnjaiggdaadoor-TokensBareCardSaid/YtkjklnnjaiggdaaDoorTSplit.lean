/- strings.Split at byte 10, Trim and TrimLeft of blanks. Condition: the length; bytealg.MaxLen holds a number. -/
import Derived.Test.YtkjklnnjaiggdaaDoorTTexts
import Derived.Lib.SplitLaws
import Derived.Shelf.Strings.SlTrimAscii
namespace Go.Proofs.YtkjklnnjaiggdaaDoor
open Go.RowKit

def pieces (s : List UInt8) : List (List UInt8) := Lib.splitK [10] 0 (s.count 10) s
theorem pieces_no {s : List UInt8} (h : 10 ∉ s) : pieces s = [s] := by
  unfold pieces
  rw [List.count_eq_zero_of_not_mem h]
  rfl
theorem pieces_cut {a b : List UInt8} (h : 10 ∉ a) : pieces (a ++ 10 :: b) = a :: pieces b := by
  unfold pieces
  rw [List.count_append, List.count_eq_zero_of_not_mem h, List.count_cons_self, Nat.zero_add, Lib.splitK, Lib.index_one, index_at h, if_neg (by simp only [beq_iff_eq]; omega)]
  simp
theorem pieces_lines : ∀ (n : Nat) (s : List UInt8), s.length ≤ n → pieces s = lines s ++ [[]] ∨ (pieces s = lines s ∧ ∃ x L, pieces s = L ++ [x] ∧ x ≠ []) := by
  intro n
  induction n with
  | zero =>
    intro s h
    have : s = [] := List.eq_nil_of_length_eq_zero (by omega)
    subst this
    exact .inl rfl
  | succ n ih =>
    intro s h
    rcases index_cut s with ⟨h1, _⟩ | ⟨a, b, rfl, h1, _⟩
    · by_cases hs : s = []
      · subst hs; exact .inl rfl
      · refine .inr ⟨by rw [pieces_no h1, lines_no h1 hs], s, [], by rw [pieces_no h1]; rfl, hs⟩
    · rw [pieces_cut h1, lines_cut h1]
      rcases ih b (by simp at h; omega) with h2 | ⟨h2, x, L, h3, h4⟩
      · exact .inl (by rw [h2]; rfl)
      · exact .inr ⟨by rw [h2], x, a :: L, by rw [h3]; rfl, h4⟩
theorem splitB_pieces (s : List UInt8) : Lib.splitB ⟨#[10]⟩ 0 (Lib.countB (mk s) ⟨#[10]⟩) (mk s) = (pieces s).map mk ∧ Lib.countB (mk s) ⟨#[10]⟩ + 1 = (pieces s).length := by
  have hc : Lib.countB (mk s) ⟨#[10]⟩ = s.count 10 := Lib.count_one 10 s
  have h1 : (Lib.splitB ⟨#[10]⟩ 0 (s.count 10) (mk s)).map (·.data.toList) = pieces s := Lib.splitB_data ⟨#[10]⟩ 0 (s.count 10) (mk s)
  rw [hc]
  refine ⟨?_, ?_⟩
  · rw [← h1, List.map_map]
    have : (mk ∘ fun x : ByteArray => x.data.toList) = id := by funext x; exact mk_of x
    rw [this, List.map_id]
  · have : ∀ (n : Nat) (s : List UInt8), s.length ≤ n → s.count 10 + 1 = (pieces s).length := by
      intro n
      induction n with
      | zero =>
        intro s h
        have : s = [] := List.eq_nil_of_length_eq_zero (by omega)
        subst this
        rfl
      | succ n ih =>
        intro s h
        rcases index_cut s with ⟨h1, _⟩ | ⟨a, b, rfl, h1, _⟩
        · rw [pieces_no h1, List.count_eq_zero_of_not_mem h1]; rfl
        · rw [pieces_cut h1, List.count_append, List.count_eq_zero_of_not_mem h1, List.count_cons_self, List.length_cons, ← ih b (by simp at h; omega)]
          omega
    exact this s.length s (Nat.le_refl _)
theorem Split_any (s : List UInt8) (m : Int) (w : World) (hs : s.length ≤ 4000000000) (hm : w.cell? ⟨0, 0, none⟩ = some (.int .i64 m)) :
    Calls Tryd.prog 8 #[.string (mk s), .string ⟨#[10]⟩] w fun e w' => e = .returned (.slice (some ⟨w.heap.size, 0, none⟩) (pieces s).length (pieces s).length) ∧ w' = w.alloc (.cells (((pieces s).map fun l => Value.string (mk l)).toArray) 9) := by
  have h := Tryd.strings_Split (mk s) ⟨#[10]⟩ m w (by rw [mk_size]; omega) hm (Nat.le_refl _)
  obtain ⟨h1, h2⟩ := splitB_pieces s
  rw [h1, h2, List.map_map] at h
  exact h
theorem trim_info : (Tryd.prog.info? 61).map (fun i => (i.zero, i.size)) = some (some (.agg (Array.replicate 256 (.bool false))), 256) := by kernel_rfl
theorem trim_ascii : ∀ (j : Nat) b, (⟨#[32, 9, 13]⟩ : ByteArray).data.toList[j]? = some b → b.toNat < 128 := by
  intro j b h
  match j, h with
  | 0, h => cases h; decide
  | 1, h => cases h; decide
  | 2, h => cases h; decide
  | j + 3, h => simp at h
theorem blank_set (c : UInt8) : [32, 9, 13].contains c = blankB c := by
  rw [Bool.eq_iff_iff]
  simp [blankB, or_assoc]
theorem dropWhile_all {α : Type} {p : α → Bool} {l : List α} (h : ∀ x ∈ l, p x = true) : l.dropWhile p = [] := by
  induction l with
  | nil => rfl
  | cons x l ih => rw [List.dropWhile_cons, h x (.head _), if_pos rfl, ih fun y hy => h y (.tail _ hy)]
theorem trimL_set {a r : List UInt8} (hb : ∀ c ∈ a, blankB c = true) (hr : ∀ c, r.head? = some c → blankB c = false) : Lib.trimLeftS (a ++ r) [32, 9, 13] = r := by
  unfold Lib.trimLeftS
  induction a with
  | nil =>
    cases r with
    | nil => rfl
    | cons c r =>
      rw [List.nil_append, List.dropWhile_cons, blank_set, hr c rfl]
      rfl
  | cons c a ih =>
    rw [List.cons_append, List.dropWhile_cons, blank_set, hb c (.head _), if_pos rfl]
    exact ih (fun x hx => hb x (.tail _ hx))
theorem Trim_any (l : List UInt8) (w : World) (hl : l.length ≤ 4000000000) (hb : ∀ c ∈ l, blankB c = true) : Calls Tryd.prog 12 #[.string (mk l), .string ⟨#[32, 9, 13]⟩] w fun e w' => e = .returned (.string (mk [])) ∧ Below w.heap.size w w' := by
  have h := Any.strings_Trim_laid Tryd.lays160 trim_info (mk l) ⟨#[32, 9, 13]⟩ w (by rw [mk_size]; omega) (by decide) trim_ascii
  have e : Lib.trimS (mk l).data.toList (⟨#[32, 9, 13]⟩ : ByteArray).data.toList = [] := by
    show Lib.trimS l [32, 9, 13] = []
    unfold Lib.trimS Lib.trimRightS Lib.trimLeftS
    have h1 : l.reverse.dropWhile ([32, 9, 13].contains ·) = [] := by
      refine dropWhile_all fun c hc => ?_
      rw [blank_set]
      exact hb c (List.mem_reverse.1 hc)
    rw [h1]
    rfl
  rw [e] at h
  exact h
theorem Trim_emp (l : List UInt8) (w : World) (hl : l.length ≤ 4000000000) (hb : ∀ c ∈ l, blankB c = true) : Calls Tryd.prog 12 #[.string (mk l), .string ⟨#[32, 9, 13]⟩] w fun e w' => ∃ r : ByteArray, e = .returned (.string r) ∧ r.toList.isEmpty = true ∧ Below w.heap.size w w' := by
  refine (Trim_any l w hl hb).mono ?_
  rintro e w' ⟨rfl, h⟩
  exact ⟨_, rfl, by rw [mk_list]; rfl, h⟩
theorem TrimLeft_any (a r : List UInt8) (w : World) (hb : ∀ c ∈ a, blankB c = true) (hr : ∀ c, r.head? = some c → blankB c = false) : Calls Tryd.prog 13 #[.string (mk (a ++ r)), .string ⟨#[32, 9, 13]⟩] w fun e w' => e = .returned (.string (mk r)) ∧ Below w.heap.size w w' := by
  have h := Any.strings_TrimLeft_laid Tryd.lays161 trim_info (mk (a ++ r)) ⟨#[32, 9, 13]⟩ w (by decide) trim_ascii
  have e : Lib.trimLeftS (mk (a ++ r)).data.toList (⟨#[32, 9, 13]⟩ : ByteArray).data.toList = r := by
    exact trimL_set hb hr
  rw [e] at h
  exact h
/-- What is behind the last word: blanks, then nothing or a remark. -/
theorem back_rest {l : List UInt8} {e : Nat} (he : e ≤ (bareW l).length) (hb : ∀ m, e ≤ m → m < (bareW l).length → blankB ((bareW l).getD m 0) = true) :
    ∃ rb : ByteArray, (∀ w, Calls Tryd.prog 13 #[.string ((mk l).extract e l.length), .string ⟨#[32, 9, 13]⟩] w fun e w' => e = .returned (.string rb) ∧ Below w.heap.size w w') ∧
      (rb.toList.isEmpty = true ∨ (rb.toList.isEmpty = false ∧ ∃ h : 0 < rb.size, (rb[0]'h).toNat = 42 ∨ (rb[0]'h).toNat = 59)) := by
  have hbl := bareW_len l
  have hx : (mk l).extract e l.length = mk ((l.drop e).take ((bareW l).length - e) ++ l.drop (bareW l).length) := by
    rw [mk_ext]
    congr 1
    rw [List.take_of_length_le (by simp)]
    conv => lhs; rw [← List.take_append_drop ((bareW l).length - e) (l.drop e)]
    rw [List.drop_drop, show e + ((bareW l).length - e) = (bareW l).length by omega]
  refine ⟨mk (l.drop (bareW l).length), fun w => ?_, ?_⟩
  · rw [hx]
    refine TrimLeft_any _ _ w ?_ ?_
    · intro c hc
      obtain ⟨k, hk⟩ := List.getElem?_of_mem hc
      have hkl : k < (bareW l).length - e := by have := (List.getElem?_eq_some_iff.1 hk).1; simp at this; omega
      rw [List.getElem?_take, if_pos hkl, List.getElem?_drop, (bareW_getD (l := l) (m := e + k) (by omega)).1] at hk
      cases hk
      exact hb _ (by omega) (by omega)
    · intro c hc
      rw [List.head?_drop] at hc
      have hlt := (List.getElem?_eq_some_iff.1 hc).1
      obtain ⟨d, h1, h2⟩ := bareW_end hlt
      rw [h1] at hc
      cases hc
      unfold remB at h2
      simp only [Bool.or_eq_true, beq_iff_eq] at h2
      rcases h2 with rfl | rfl <;> decide
  · by_cases hlt : (bareW l).length < l.length
    · obtain ⟨d, h1, h2⟩ := bareW_end hlt
      right
      obtain ⟨r, hr⟩ : ∃ r, l.drop (bareW l).length = d :: r := by
        rw [List.drop_eq_getElem_cons hlt]
        rw [List.getElem?_eq_getElem hlt] at h1
        exact ⟨_, by rw [Option.some.inj h1]⟩
      rw [hr]
      refine ⟨by rw [mk_list]; rfl, by simp, ?_⟩
      have : ((mk (d :: r))[0]'(by simp)) = d := rfl
      rw [this]
      unfold remB at h2
      simp only [Bool.or_eq_true, beq_iff_eq] at h2
      rcases h2 with rfl | rfl
      · exact .inl rfl
      · exact .inr rfl
    · left
      rw [List.drop_eq_nil_of_le (by omega), mk_list]
      rfl
end Go.Proofs.YtkjklnnjaiggdaaDoor
