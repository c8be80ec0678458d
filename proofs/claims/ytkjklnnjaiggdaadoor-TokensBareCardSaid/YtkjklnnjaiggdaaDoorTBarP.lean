/- Blanks more and remarks change no word. No program, no condition. -/
import Derived.Test.YtkjklnnjaiggdaaDoorTSplit
import Derived.Lib.Replace
namespace Go.Proofs.YtkjklnnjaiggdaaDoor

theorem cut_at (x : UInt8) (l : List UInt8) : x ∉ l ∨ ∃ a b, l = a ++ x :: b ∧ x ∉ a := by
  induction l with
  | nil => exact .inl (by simp)
  | cons c l ih =>
    by_cases hc : c = x
    · subst hc; exact .inr ⟨[], l, rfl, by simp⟩
    · rcases ih with h | ⟨a, b, rfl, h⟩
      · exact .inl (by simp only [List.mem_cons, not_or]; exact ⟨fun e => hc e.symm, h⟩)
      · exact .inr ⟨c :: a, b, rfl, by simp only [List.mem_cons, not_or]; exact ⟨fun e => hc e.symm, h⟩⟩
theorem idx_at {x : UInt8} {a b : List UInt8} (h : x ∉ a) : Lib.indexByte (a ++ x :: b) x = a.length := by
  induction a with
  | nil => simp [Lib.indexByte]
  | cons c a ih =>
    simp only [List.mem_cons, not_or] at h
    have := ih h.2
    have h2 : ((a.length : Int) == -1) = false := by simp only [beq_eq_false_iff_ne]; omega
    have h3 : (c == x) = false := by simp only [beq_eq_false_iff_ne]; exact fun e => h.1 e.symm
    rw [List.cons_append, Lib.indexByte, h3, this, h2]
    simp
def repB (x : UInt8) (new : List UInt8) (l : List UInt8) : List UInt8 := l.flatMap fun c => if c = x then new else [c]
theorem repB_no {x : UInt8} {new l : List UInt8} (h : x ∉ l) : repB x new l = l := by
  unfold repB
  induction l with
  | nil => rfl
  | cons c l ih =>
    simp only [List.mem_cons, not_or] at h
    rw [List.flatMap_cons, if_neg (fun e => h.1 e.symm), ih h.2]
    rfl
theorem replaceK_all (x : UInt8) (new : List UInt8) : ∀ (n : Nat) (l : List UInt8), l.length ≤ n → Lib.replaceK [x] new (l.count x) l = repB x new l := by
  intro n
  induction n with
  | zero =>
    intro l h
    have : l = [] := List.eq_nil_of_length_eq_zero (by omega)
    subst this
    rfl
  | succ n ih =>
    intro l h
    rcases cut_at x l with h1 | ⟨a, b, rfl, h1⟩
    · rw [List.count_eq_zero_of_not_mem h1, repB_no h1]; rfl
    · have hc : (a ++ x :: b).count x = b.count x + 1 := by rw [List.count_append, List.count_eq_zero_of_not_mem h1, List.count_cons_self]; omega
      rw [hc, Lib.replaceK_hit [x] new _ _ a.length (by rw [Lib.index_one, idx_at h1])]
      have hd : (a ++ x :: b).drop (a.length + [x].length) = b := by
        rw [show a ++ x :: b = (a ++ [x]) ++ b by simp, show a.length + [x].length = (a ++ [x]).length by simp, List.drop_left]
      rw [hd, ih b (by simp at h; omega)]
      have ha := repB_no (new := new) h1
      unfold repB at ha ⊢
      rw [List.flatMap_append, ha, List.flatMap_cons, if_pos rfl]
      simp
theorem replaceAll_one (x : UInt8) (new l : List UInt8) (hn : new ≠ [x]) : Lib.replaceAll l [x] new = repB x new l := by
  unfold Lib.replaceAll Lib.replace
  rw [if_neg (by simpa using fun e => hn e.symm)]
  unfold Lib.replaceNum
  rw [if_pos (.inl (by decide)), Lib.count_one]
  exact replaceK_all x new l.length l (Nat.le_refl _)

/-- The words' texts so far, the open word's bytes. -/
abbrev StT := List (List UInt8) × Option (List UInt8)
def closeT (st : StT) : List (List UInt8) := match st.2 with
  | none => st.1
  | some u => st.1 ++ [u]
def stepT (st : StT) (c : UInt8) : Except Int StT :=
  if blankB c then .ok (closeT st, none)
  else if badB c then .error 240
  else match st.2 with
    | none => .ok (st.1, some [c])
    | some u => if 80 ≤ u.length then .error 3 else .ok (st.1, some (u ++ [c]))
def scanT : StT → List UInt8 → Except Int StT
  | st, [] => .ok st
  | st, c :: r => match stepT st c with
    | .error e => .error e
    | .ok st => scanT st r
/-- A line's words and its error, by texts alone. -/
def outT (b : List UInt8) : List (List UInt8) × Int := match scanT ([], none) b with
  | .error e => ([], e)
  | .ok st => (closeT st, 0)

def textW (l : List UInt8) (p : Nat × Nat) : List UInt8 := (l.drop p.1).take (p.2 - p.1)
/-- The two ways of telling where one stands agree. -/
def AgreeT (l : List UInt8) (k : Nat) (st : St) (sT : StT) : Prop := sT.1 = st.1.map (textW l) ∧ (match st.2, sT.2 with
  | none, none => True
  | some f, some u => f < k ∧ u = textW l (f, k) ∧ u.length = k - f
  | _, _ => False)
theorem textW_next {l : List UInt8} {f k : Nat} {c : UInt8} (hf : f ≤ k) (hc : l[k]? = some c) : textW l (f, k + 1) = textW l (f, k) ++ [c] := by
  unfold textW
  simp only
  rw [show k + 1 - f = (k - f) + 1 by omega, List.take_add_one, List.getElem?_drop, show f + (k - f) = k by omega, hc]
  rfl
theorem textW_len {l : List UInt8} {f k : Nat} (hk : k ≤ l.length) : (textW l (f, k)).length = k - f := by
  unfold textW
  simp
  omega
theorem agree_step {l : List UInt8} {k : Nat} {c : UInt8} {st : St} {sT : StT} (h : AgreeT l k st sT) (hc : l[k]? = some c) :
    match stepW st k c, stepT sT c with
    | .error e, .error e' => e = e'
    | .ok st', .ok sT' => AgreeT l (k + 1) st' sT'
    | _, _ => False := by
  obtain ⟨ws, o⟩ := st
  obtain ⟨ts, u⟩ := sT
  obtain ⟨h1, h2⟩ := h
  simp only at h1 h2
  have hkl := (List.getElem?_eq_some_iff.1 hc).1
  unfold stepW stepT
  by_cases hb : blankB c = true
  · rw [if_pos hb, if_pos hb]
    refine ⟨?_, trivial⟩
    cases o with
    | none =>
      cases u with
      | none => exact h1
      | some u => exact h2.elim
    | some f =>
      cases u with
      | none => exact h2.elim
      | some u => simp only [closeW, closeT, List.map_append, List.map_cons, List.map_nil]; rw [h1, h2.2.1]
  · rw [if_neg hb, if_neg hb]
    by_cases hd : badB c = true
    · rw [if_pos hd, if_pos hd]
    · rw [if_neg hd, if_neg hd]
      cases o with
      | none =>
        cases u with
        | none => exact ⟨h1, by omega, by rw [textW_next (Nat.le_refl _) hc]; simp [textW], by simp⟩
        | some u => exact h2.elim
      | some f =>
        cases u with
        | none => exact h2.elim
        | some u =>
          simp only at h2 ⊢
          obtain ⟨h3, h4, h5⟩ := h2
          rw [h5]
          by_cases h80 : 80 ≤ k - f
          · rw [if_pos h80, if_pos h80]
          · rw [if_neg h80, if_neg h80]
            exact ⟨h1, by omega, by rw [textW_next (by omega) hc, h4], by simp; omega⟩
theorem agree_scan {l : List UInt8} : ∀ (b : List UInt8) (k : Nat) (st : St) (sT : StT), AgreeT l k st sT → (∀ j, j < b.length → l[k + j]? = b[j]?) →
    match scanW k st b, scanT sT b with
    | .error e, .error e' => e = e'
    | .ok st', .ok sT' => AgreeT l (k + b.length) st' sT'
    | _, _ => False := by
  intro b
  induction b with
  | nil => intro k st sT h _; exact h
  | cons c b ih =>
    intro k st sT h hl
    have hc : l[k]? = some c := by simpa using hl 0 (by simp)
    have hs := agree_step h hc
    rw [scanW, scanT]
    revert hs
    cases stepW st k c with
    | error e =>
      cases stepT sT c with
      | error e' => exact fun h => h
      | ok s => exact fun h => h.elim
    | ok st' =>
      cases stepT sT c with
      | error e' => exact fun h => h.elim
      | ok sT' =>
        intro hs
        have := ih (k + 1) st' sT' hs (fun j hj => by have := hl (j + 1) (by simp; omega); simpa [Nat.add_assoc, Nat.add_comm 1] using this)
        rw [show k + (c :: b).length = k + 1 + b.length by simp; omega]
        exact this
/-- The words' texts and the error, by texts alone. -/
theorem outT_of (l : List UInt8) : (wordT l, errW l) = outT (bareW l) := by
  have hp := bareW_len l
  have h := agree_scan (l := l) (bareW l) 0 ([], none) ([], none) ⟨rfl, trivial⟩ (by
    intro j hj
    rw [Nat.zero_add]
    obtain ⟨c, h1, h2, _⟩ := bareW_at hj
    rw [h1]
    rw [List.getD_eq_getElem?_getD, List.getElem?_eq_getElem hj] at h2
    rw [List.getElem?_eq_getElem hj]
    simp at h2
    rw [h2])
  unfold outT wordT wordsW errW
  rw [scanW_all]
  revert h
  cases scanW 0 ([], none) (bareW l) with
  | error e =>
    cases scanT ([], none) (bareW l) with
    | error e' => intro h; simp only at h ⊢; rw [h]; rfl
    | ok s => exact fun h => h.elim
  | ok st =>
    cases scanT ([], none) (bareW l) with
    | error e' => exact fun h => h.elim
    | ok sT =>
      obtain ⟨ws, o⟩ := st
      obtain ⟨ts, u⟩ := sT
      intro h
      obtain ⟨h1, h2⟩ := h
      simp only at h1 h2 ⊢
      cases o with
      | none =>
        cases u with
        | none => simp only [closeW, closeT]; rw [h1]; rfl
        | some u => exact h2.elim
      | some f =>
        cases u with
        | none => exact h2.elim
        | some u =>
          simp only [closeW, closeT, List.map_append, List.map_cons, List.map_nil]
          rw [h1, h2.2.1, Nat.zero_add]
          rfl

theorem scanT_app (a b : List UInt8) : ∀ st : StT, scanT st (a ++ b) = match scanT st a with
    | .error e => .error e
    | .ok st => scanT st b := by
  induction a with
  | nil => intro st; rfl
  | cons c a ih =>
    intro st
    rw [List.cons_append, scanT, scanT]
    cases stepT st c with
    | error e => rfl
    | ok st' => exact ih st'
theorem stepT_blank (st : StT) {c : UInt8} (h : blankB c = true) : stepT st c = .ok (closeT st, none) := by unfold stepT; rw [if_pos h]
def blanks3 : List UInt8 := [32, 13, 32]
theorem scanT_rep (l : List UInt8) : ∀ st : StT, scanT st (repB 32 blanks3 l) = scanT st l := by
  induction l with
  | nil => intro st; rfl
  | cons c l ih =>
    intro st
    unfold repB at ih ⊢
    rw [List.flatMap_cons]
    by_cases hc : c = 32
    · subst hc
      rw [if_pos rfl]
      have e : blanks3 ++ l.flatMap (fun c => if c = 32 then blanks3 else [c]) = 32 :: 13 :: 32 :: l.flatMap (fun c => if c = 32 then blanks3 else [c]) := rfl
      rw [e, scanT, stepT_blank _ (by decide), scanT]
      simp only
      rw [scanT, stepT_blank _ (by decide)]
      simp only
      rw [scanT, stepT_blank _ (by decide), stepT_blank _ (by decide)]
      simp only [closeT]
      exact ih _
    · rw [if_neg hc, List.singleton_append, scanT, scanT]
      cases stepT st c with
      | error e => rfl
      | ok st' => exact ih st'
theorem outT_blank (b : List UInt8) : outT (b ++ [32]) = outT b := by
  unfold outT
  rw [scanT_app]
  cases scanT ([], none) b with
  | error e => rfl
  | ok st =>
    simp only
    rw [scanT, stepT_blank _ (by decide)]
    rfl
theorem outT_front (b : List UInt8) : outT (9 :: 32 :: b) = outT b := by
  unfold outT
  rw [scanT, stepT_blank _ (by decide)]
  simp only
  rw [scanT, stepT_blank _ (by decide)]
  rfl
theorem bareW_cons (c : UInt8) (l : List UInt8) : bareW (c :: l) = if remB c then [] else c :: bareW l := by
  unfold bareW
  rw [List.takeWhile_cons]
  cases remB c <;> rfl
theorem bareW_rep (p t : List UInt8) : ∃ x, bareW (repB 32 blanks3 p ++ t) = repB 32 blanks3 (bareW p) ++ x ∧ (x = [] ∨ x = bareW t) := by
  induction p with
  | nil => exact ⟨bareW t, rfl, .inr rfl⟩
  | cons c p ih =>
    obtain ⟨x, h1, h2⟩ := ih
    unfold repB at h1 ⊢
    rw [List.flatMap_cons]
    by_cases hc : c = 32
    · subst hc
      refine ⟨x, ?_, h2⟩
      rw [if_pos rfl, bareW_cons 32 p, if_neg (by decide), List.flatMap_cons, if_pos rfl, List.append_assoc, List.append_assoc, ← h1]
      show bareW (32 :: 13 :: 32 :: _) = _
      rw [bareW_cons, if_neg (by decide), bareW_cons, if_neg (by decide), bareW_cons, if_neg (by decide)]
      rfl
    · rw [if_neg hc]
      by_cases hr : remB c = true
      · refine ⟨[], ?_, .inl rfl⟩
        rw [bareW_cons c p, if_pos hr]
        show bareW (c :: _) = _
        rw [bareW_cons, if_pos hr]
        rfl
      · refine ⟨x, ?_, h2⟩
        rw [bareW_cons c p, if_neg hr, List.flatMap_cons, if_neg hc, List.append_assoc, List.append_assoc, ← h1]
        show bareW (c :: _) = _
        rw [bareW_cons, if_neg hr]
        rfl
/-- A line with more blanks, a remark behind it. -/
def fatL (p : List UInt8) (t : List UInt8) : List UInt8 := 9 :: 32 :: (repB 32 blanks3 p ++ t)
theorem fatL_same (p t : List UInt8) (ht : t = [] ∨ ∃ r, t = 32 :: 59 :: r) : (wordT (fatL p t), errW (fatL p t)) = (wordT p, errW p) := by
  rw [outT_of, outT_of]
  have hb : bareW (fatL p t) = 9 :: 32 :: bareW (repB 32 blanks3 p ++ t) := by
    unfold fatL
    rw [bareW_cons, if_neg (by decide), bareW_cons, if_neg (by decide)]
  rw [hb, outT_front]
  obtain ⟨x, h1, h2⟩ := bareW_rep p t
  rw [h1]
  have hrep : outT (repB 32 blanks3 (bareW p)) = outT (bareW p) := by unfold outT; rw [scanT_rep]
  have hx : x = [] ∨ x = [32] := by
    rcases h2 with h | h
    · exact .inl h
    · rcases ht with rfl | ⟨r, rfl⟩
      · exact .inl h
      · right
        rw [h, bareW_cons, if_neg (by decide), bareW_cons, if_pos (by decide)]
  rcases hx with rfl | rfl
  · rw [List.append_nil, hrep]
  · rw [outT_blank, hrep]
/-- Lines joined by byte 10. -/
def joinN : List (List UInt8) → List UInt8
  | [] => []
  | [x] => x
  | x :: y :: r => x ++ 10 :: joinN (y :: r)
theorem joinN_snoc (y : List UInt8) : ∀ xs : List (List UInt8), xs ≠ [] → joinN (xs ++ [y]) = joinN xs ++ 10 :: y := by
  intro xs
  induction xs with
  | nil => intro h; exact absurd rfl h
  | cons x xs ih =>
    intro _
    cases xs with
    | nil => rfl
    | cons z xs =>
      show x ++ 10 :: joinN ((z :: xs) ++ [y]) = _
      rw [ih (by simp)]
      show _ = (x ++ 10 :: joinN (z :: xs)) ++ 10 :: y
      simp
theorem lines_joinN : ∀ xs : List (List UInt8), (∀ x ∈ xs, 10 ∉ x) → (∀ y, xs.getLast? = some y → y ≠ []) → lines (joinN xs) = xs := by
  intro xs
  induction xs with
  | nil => intro _ _; rfl
  | cons x xs ih =>
    intro h1 h2
    cases xs with
    | nil => exact lines_no (h1 x (.head _)) (h2 x rfl)
    | cons z xs =>
      show lines (x ++ 10 :: joinN (z :: xs)) = _
      rw [lines_cut (h1 x (.head _)), ih (fun a ha => h1 a (.tail _ ha)) (fun y hy => h2 y (by rw [List.getLast?_cons_cons]; exact hy))]
theorem repB_mem {x : UInt8} {new l : List UInt8} {c : UInt8} (h : c ∈ repB x new l) : c ∈ new ∨ (c ∈ l ∧ c ≠ x) := by
  unfold repB at h
  obtain ⟨d, hd, hc⟩ := List.mem_flatMap.1 h
  split at hc
  · exact .inl hc
  · rename_i hne
    rw [List.mem_singleton] at hc
    subst hc
    exact .inr ⟨hd, hne⟩
theorem pieces_mem : ∀ (n : Nat) (s : List UInt8), s.length ≤ n → ∀ p ∈ pieces s, 10 ∉ p ∧ p.length ≤ s.length := by
  intro n
  induction n with
  | zero =>
    intro s h p hp
    have : s = [] := List.eq_nil_of_length_eq_zero (by omega)
    subst this
    rw [pieces_no (by simp)] at hp
    simp at hp
    subst hp
    simp
  | succ n ih =>
    intro s h p hp
    rcases index_cut s with ⟨h1, _⟩ | ⟨a, b, rfl, h1, _⟩
    · rw [pieces_no h1] at hp
      simp at hp
      subst hp
      exact ⟨h1, Nat.le_refl _⟩
    · rw [pieces_cut h1] at hp
      rcases List.mem_cons.1 hp with rfl | hp
      · exact ⟨h1, by simp⟩
      · have := ih b (by simp at h; omega) p hp
        exact ⟨this.1, by simp; omega⟩
end Go.Proofs.YtkjklnnjaiggdaaDoor
