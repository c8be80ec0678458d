/- The words of a line, plainly: where they stand; what is joined is cut again. No program, no condition. -/
import Derived.Test.YtkjklnnjaiggdaaDoorTJoin
namespace Go.Proofs.YtkjklnnjaiggdaaDoor

/-- The states one behind the other. -/
def scanW : Nat → St → List UInt8 → Except Int St
  | _, st, [] => .ok st
  | k, st, c :: r => match stepW st k c with
    | .error e => .error e
    | .ok st => scanW (k + 1) st r
theorem scanW_from (b : List UInt8) : ∀ (n k : Nat), k + n = b.length → stW b b.length = match stW b k with
    | .error e => .error e
    | .ok st => scanW k st (b.drop k) := by
  intro n
  induction n with
  | zero =>
    intro k hk
    have : k = b.length := by omega
    subst this
    rw [List.drop_length]
    cases stW b b.length <;> rfl
  | succ n ih =>
    intro k hk
    rw [ih (k + 1) (by omega)]
    have hd : b.drop k = b.getD k 0 :: b.drop (k + 1) := by
      rw [List.drop_eq_getElem_cons (by omega), List.getD_eq_getElem?_getD, List.getElem?_eq_getElem (by omega)]
      rfl
    rw [hd]
    simp only [stW]
    cases stW b k with
    | error e => rfl
    | ok st => rfl
theorem scanW_all (b : List UInt8) : stW b b.length = scanW 0 ([], none) b := scanW_from b b.length 0 (by omega)
theorem scanW_app (a b : List UInt8) : ∀ (k : Nat) (st : St), scanW k st (a ++ b) = match scanW k st a with
    | .error e => .error e
    | .ok st => scanW (k + a.length) st b := by
  induction a with
  | nil => intro k st; rfl
  | cons c a ih =>
    intro k st
    rw [List.cons_append, scanW, scanW]
    cases stepW st k c with
    | error e => rfl
    | ok st' =>
      simp only
      rw [ih]
      simp [Nat.add_assoc, Nat.add_comm 1]

def goodB (c : UInt8) : Bool := !blankB c && !badB c && !remB c
/-- A word that may stand in a line. -/
def GoodT (t : List UInt8) : Prop := 0 < t.length ∧ t.length ≤ 80 ∧ ∀ c ∈ t, goodB c = true
theorem goodB_not {c : UInt8} (h : goodB c = true) : blankB c = false ∧ badB c = false ∧ remB c = false := by
  simp only [goodB, Bool.and_eq_true, Bool.not_eq_true'] at h
  exact ⟨h.1.1, h.1.2, h.2⟩
theorem scanW_in {t : List UInt8} : ∀ (n f : Nat) (ws : List (Nat × Nat)), n + t.length ≤ 80 → (∀ c ∈ t, goodB c = true) → scanW (f + n) (ws, some f) t = .ok (ws, some f) := by
  induction t with
  | nil => intro n f ws _ _; rfl
  | cons c t ih =>
    intro n f ws hn hg
    obtain ⟨h1, h2, _⟩ := goodB_not (hg c (.head _))
    simp only [List.length_cons] at hn
    rw [scanW]
    have : stepW (ws, some f) (f + n) c = .ok (ws, some f) := by
      unfold stepW
      rw [if_neg (by simp [h1]), if_neg (by simp [h2])]
      simp only
      rw [if_neg (by omega)]
    rw [this]
    exact ih (n + 1) f ws (by omega) (fun x hx => hg x (.tail _ hx))
theorem scanW_word {t : List UInt8} (h : GoodT t) (k : Nat) (ws : List (Nat × Nat)) : scanW k (ws, none) t = .ok (ws, some k) := by
  obtain ⟨h0, h80, hg⟩ := h
  cases t with
  | nil => simp at h0
  | cons c t =>
    obtain ⟨h1, h2, _⟩ := goodB_not (hg c (.head _))
    rw [scanW]
    have : stepW (ws, none) k c = .ok (ws, some k) := by
      unfold stepW
      rw [if_neg (by simp [h1]), if_neg (by simp [h2])]
    rw [this]
    exact scanW_in 1 k ws (by simp at h80; omega) (fun x hx => hg x (.tail _ hx))
/-- Words with blanks between. -/
def joinW : List (List UInt8) → List UInt8
  | [] => []
  | t :: r => t ++ r.flatMap fun t => 32 :: t
def posJ : Nat → List (List UInt8) → List (Nat × Nat)
  | _, [] => []
  | k, t :: r => (k, k + t.length) :: posJ (k + t.length + 1) r
theorem joinW_cons2 (t u : List UInt8) (r : List (List UInt8)) : joinW (t :: u :: r) = t ++ 32 :: joinW (u :: r) := by simp [joinW]
theorem scanW_join : ∀ (r : List (List UInt8)) (t : List UInt8) (k : Nat) (ws : List (Nat × Nat)), (∀ u ∈ t :: r, GoodT u) → ∃ st, scanW k (ws, none) (joinW (t :: r)) = .ok st ∧ closeW st (k + (joinW (t :: r)).length) = ws ++ posJ k (t :: r) := by
  intro r
  induction r with
  | nil =>
    intro t k ws h
    refine ⟨(ws, some k), ?_, ?_⟩
    · simpa [joinW] using scanW_word (h t (.head _)) k ws
    · simp [joinW, closeW, posJ]
  | cons u r ih =>
    intro t k ws h
    obtain ⟨st, h1, h2⟩ := ih u (k + t.length + 1) (ws ++ [(k, k + t.length)]) (fun x hx => h x (.tail _ hx))
    refine ⟨st, ?_, ?_⟩
    · rw [joinW_cons2, scanW_app, scanW_word (h t (.head _)) k ws]
      simp only
      rw [scanW]
      have : stepW (ws, some k) (k + t.length) 32 = .ok (ws ++ [(k, k + t.length)], none) := by
        unfold stepW
        rw [if_pos (by decide)]
        rfl
      rw [this]
      exact h1
    · rw [joinW_cons2, List.length_append, List.length_cons, show k + (t.length + ((joinW (u :: r)).length + 1)) = k + t.length + 1 + (joinW (u :: r)).length by omega, h2]
      simp [posJ]
theorem joinW_mem {r : List (List UInt8)} (h : ∀ u ∈ r, GoodT u) : ∀ c ∈ joinW r, remB c = false ∧ c ≠ 10 := by
  have hg : ∀ u ∈ r, ∀ c ∈ u, remB c = false ∧ c ≠ 10 := by
    intro u hu c hc
    obtain ⟨h1, h2, h3⟩ := goodB_not ((h u hu).2.2 c hc)
    exact ⟨h3, by rintro rfl; exact absurd h2 (by decide)⟩
  intro c hc
  cases r with
  | nil => simp [joinW] at hc
  | cons t r =>
    simp only [joinW, List.mem_append, List.mem_flatMap, List.mem_cons] at hc
    rcases hc with hc | ⟨u, hu, rfl | hc⟩
    · exact hg t (.head _) c hc
    · exact ⟨by decide, by decide⟩
    · exact hg u (.tail _ hu) c hc
theorem takeWhile_all {α : Type} {p : α → Bool} {l : List α} (h : ∀ x ∈ l, p x = true) : l.takeWhile p = l := by
  induction l with
  | nil => rfl
  | cons x l ih => rw [List.takeWhile_cons, h x (.head _), if_pos rfl, ih fun y hy => h y (.tail _ hy)]
theorem joinW_bare {r : List (List UInt8)} (h : ∀ u ∈ r, GoodT u) : bareW (joinW r) = joinW r := by
  unfold bareW
  exact takeWhile_all fun c hc => by simp [(joinW_mem h c hc).1]
theorem posJ_text : ∀ (r : List (List UInt8)) (pre : List UInt8) , (posJ pre.length r).map (fun p => ((pre ++ joinW r).drop p.1).take (p.2 - p.1)) = r := by
  intro r
  induction r with
  | nil => intro pre; rfl
  | cons t r ih =>
    intro pre
    cases r with
    | nil =>
      simp [posJ, joinW]
    | cons u r =>
      rw [posJ, List.map_cons]
      have h := ih (pre ++ t ++ [32])
      rw [joinW_cons2]
      have e : pre ++ (t ++ 32 :: joinW (u :: r)) = pre ++ t ++ [32] ++ joinW (u :: r) := by simp
      have hl : (pre ++ t ++ [32]).length = pre.length + t.length + 1 := by simp; omega
      rw [hl] at h
      rw [← e] at h
      rw [h]
      congr 1
      simp
theorem errW_ne {b : List UInt8} : ∀ {k : Nat}, stW b k ≠ .error 0 := by
  intro k
  induction k with
  | zero => intro h; cases h
  | succ k ih =>
    intro h
    simp only [stW] at h
    split at h
    · rename_i e he
      cases h
      exact ih he
    · simp only [stepW] at h
      split at h
      · cases h
      · split at h
        · simp at h
        · split at h
          · cases h
          · split at h
            · simp at h
            · cases h
/-- Where the word before ends. -/
def endB (ws : List (Nat × Nat)) (j : Nat) : Nat := match j with
  | 0 => 0
  | j + 1 => (ws.getD j (0, 0)).2
/-- A word where it stands: behind blanks, of good bytes. -/
def WordAt (b : List UInt8) (ws : List (Nat × Nat)) (j : Nat) (p : Nat × Nat) : Prop :=
  endB ws j ≤ p.1 ∧ (0 < j → endB ws j < p.1) ∧ (∀ m, endB ws j ≤ m → m < p.1 → blankB (b.getD m 0) = true) ∧ p.1 < p.2 ∧ p.2 ≤ p.1 + 80 ∧ (∀ m, p.1 ≤ m → m < p.2 → blankB (b.getD m 0) = false ∧ badB (b.getD m 0) = false)
def Placed (b : List UInt8) (ws : List (Nat × Nat)) : Prop := ∀ j p, ws[j]? = some p → WordAt b ws j p
theorem endB_app (ws : List (Nat × Nat)) (p : Nat × Nat) (j : Nat) (h : j ≤ ws.length) : endB (ws ++ [p]) j = endB ws j := by
  cases j with
  | zero => rfl
  | succ j => simp only [endB, List.getD_eq_getElem?_getD]; rw [List.getElem?_append_left (by omega)]
theorem placed_snoc {b : List UInt8} {ws : List (Nat × Nat)} {p : Nat × Nat} (h : Placed b ws) (hp : WordAt b ws ws.length p) : Placed b (ws ++ [p]) := by
  intro j q hq
  rcases getElem?_snoc hq with ⟨h1, h2⟩ | ⟨rfl, rfl⟩
  · have := h j q h2
    unfold WordAt at this ⊢
    rw [endB_app _ _ _ (by omega)]
    exact this
  · unfold WordAt at hp ⊢
    rw [endB_app _ _ _ (Nat.le_refl _)]
    exact hp
/-- What stands behind k bytes. -/
theorem stW_placed {b : List UInt8} : ∀ {k : Nat} {ws : List (Nat × Nat)} {o : Option Nat}, stW b k = .ok (ws, o) → Placed b ws ∧ endB ws ws.length ≤ k ∧
    (match o with
     | none => (0 < ws.length → endB ws ws.length < k) ∧ ∀ m, endB ws ws.length ≤ m → m < k → blankB (b.getD m 0) = true
     | some f => endB ws ws.length ≤ f ∧ (0 < ws.length → endB ws ws.length < f) ∧ (∀ m, endB ws ws.length ≤ m → m < f → blankB (b.getD m 0) = true) ∧ f < k ∧ k ≤ f + 80 ∧ (∀ m, f ≤ m → m < k → blankB (b.getD m 0) = false ∧ badB (b.getD m 0) = false)) := by
  intro k
  induction k with
  | zero =>
    intro ws o h
    simp only [stW, Except.ok.injEq, Prod.mk.injEq] at h
    obtain ⟨rfl, rfl⟩ := h
    refine ⟨fun j p hp => by simp at hp, by simp [endB], fun h => by simp at h, fun m _ h => by omega⟩
  | succ k ih =>
    intro ws o h
    simp only [stW] at h
    split at h
    · cases h
    · rename_i st hst
      obtain ⟨vs, q⟩ := st
      obtain ⟨i1, i2, i3⟩ := ih hst
      simp only [stepW] at h
      split at h
      · rename_i hbl
        simp only [Except.ok.injEq, Prod.mk.injEq] at h
        obtain ⟨rfl, rfl⟩ := h
        cases q with
        | none =>
          simp only [closeW]
          simp only at i3
          refine ⟨i1, by omega, fun h => by have := i3.1 h; omega, fun m h1 h2 => ?_⟩
          by_cases hm : m = k
          · rw [hm]; exact hbl
          · exact i3.2 m h1 (by omega)
        | some f =>
          simp only [closeW]
          simp only at i3
          obtain ⟨j1, j2, j3, j4, j5, j6⟩ := i3
          have he : endB (vs ++ [(f, k)]) (vs ++ [(f, k)]).length = k := by
            rw [List.length_append, List.length_singleton]
            simp [endB]
          refine ⟨placed_snoc i1 ⟨j1, j2, j3, j4, j5, j6⟩, by rw [he]; omega, fun _ => by rw [he]; omega, fun m h1 h2 => ?_⟩
          rw [he] at h1
          rw [show m = k by omega]
          exact hbl
      · rename_i hbl
        split at h
        · cases h
        · rename_i hbad
          simp only [Bool.not_eq_true] at hbl hbad
          cases q with
          | none =>
            simp only [Except.ok.injEq, Prod.mk.injEq] at h
            obtain ⟨rfl, rfl⟩ := h
            simp only at i3
            refine ⟨i1, by omega, by omega, i3.1, fun m h1 h2 => i3.2 m h1 h2, by omega, by omega, fun m h1 h2 => ?_⟩
            rw [show m = k by omega]
            exact ⟨hbl, hbad⟩
          | some f =>
            simp only at h i3
            split at h
            · cases h
            · rename_i h80
              simp only [Except.ok.injEq, Prod.mk.injEq] at h
              obtain ⟨rfl, rfl⟩ := h
              obtain ⟨j1, j2, j3, j4, j5, j6⟩ := i3
              refine ⟨i1, by omega, j1, j2, j3, by omega, by omega, fun m h1 h2 => ?_⟩
              by_cases hm : m = k
              · rw [hm]; exact ⟨hbl, hbad⟩
              · exact j6 m h1 (by omega)
/-- The words of a line without a fault: each in its place, blanks alone behind the last one. -/
theorem wordsW_placed {l : List UInt8} (h : errW l = 0) : Placed (bareW l) (wordsW l) ∧ endB (wordsW l) (wordsW l).length ≤ (bareW l).length ∧ ∀ m, endB (wordsW l) (wordsW l).length ≤ m → m < (bareW l).length → blankB ((bareW l).getD m 0) = true := by
  unfold errW at h
  unfold wordsW
  split at h
  · rename_i e he
    subst h
    exfalso
    exact errW_ne he
  · rename_i st hst
    obtain ⟨vs, q⟩ := st
    obtain ⟨i1, i2, i3⟩ := stW_placed hst
    cases q with
    | none => exact ⟨i1, i2, i3.2⟩
    | some f =>
      simp only at i3
      obtain ⟨j1, j2, j3, j4, j5, j6⟩ := i3
      have he : endB (vs ++ [(f, (bareW l).length)]) (vs ++ [(f, (bareW l).length)]).length = (bareW l).length := by
        rw [List.length_append, List.length_singleton]
        simp [endB]
      refine ⟨placed_snoc i1 ⟨j1, j2, j3, j4, j5, j6⟩, by simp only [closeW]; rw [he]; omega, fun m h1 h2 => ?_⟩
      simp only [closeW] at h1
      rw [he] at h1
      omega
/-- What is joined is cut into the same words. -/
theorem joinW_cut {r : List (List UInt8)} (h : ∀ u ∈ r, GoodT u) : errW (joinW r) = 0 ∧ (wordsW (joinW r)).map (fun p => ((joinW r).drop p.1).take (p.2 - p.1)) = r := by
  cases r with
  | nil => exact ⟨rfl, rfl⟩
  | cons t r =>
    obtain ⟨st, h1, h2⟩ := scanW_join r t 0 [] h
    have hst : stW (joinW (t :: r)) (joinW (t :: r)).length = .ok st := by rw [scanW_all, h1]
    refine ⟨by unfold errW; rw [joinW_bare h, hst], ?_⟩
    unfold wordsW
    rw [joinW_bare h, hst]
    simp only
    rw [Nat.zero_add] at h2
    rw [h2]
    simpa using posJ_text (t :: r) []

/-- The words' texts. -/
def wordT (l : List UInt8) : List (List UInt8) := (wordsW l).map fun p => (l.drop p.1).take (p.2 - p.1)
def texts (rows : List (List Tok)) : List (List (List UInt8)) := rows.map fun r => r.map fun t => t.1
theorem rowT_texts (i : Nat) (l : List UInt8) : (rowT i l).map (fun t => t.1) = wordT l := by simp [rowT, wordT]
theorem rowJ_texts (r : List Tok) : rowJ r = joinW (r.map fun t => t.1) := by
  cases r with
  | nil => rfl
  | cons t r => simp [rowJ, joinW, List.flatMap_map]
theorem joinT_texts {a b : List (List Tok)} (h : texts a = texts b) : joinT a = joinT b := by
  have : ∀ rows : List (List Tok), joinT rows = (texts rows).flatMap fun r => joinW r ++ [10] := by
    intro rows
    unfold joinT texts
    rw [List.flatMap_map]
    congr 1
    funext r
    rw [rowJ_texts]
  rw [this, this, h]
theorem bareW_getD {l : List UInt8} {m : Nat} (h : m < (bareW l).length) : l[m]? = some ((bareW l).getD m 0) ∧ remB ((bareW l).getD m 0) = false := by
  obtain ⟨c, h1, h2, h3⟩ := bareW_at h
  rw [h2]
  exact ⟨h1, h3⟩
theorem wordT_good {l : List UInt8} (h : errW l = 0) : ∀ t ∈ wordT l, GoodT t := by
  intro t ht
  obtain ⟨hp, _, _⟩ := wordsW_placed h
  obtain ⟨p, hm, rfl⟩ := List.mem_map.1 ht
  obtain ⟨j, hj⟩ := List.getElem?_of_mem hm
  obtain ⟨_, _, _, h4, h5, h6⟩ := hp j p hj
  have he := (wordsW_ends l p hm).2
  have hb := bareW_len l
  have hlen : ((l.drop p.1).take (p.2 - p.1)).length = p.2 - p.1 := by simp; omega
  refine ⟨by omega, by omega, fun c hc => ?_⟩
  obtain ⟨n, hn⟩ := List.getElem?_of_mem hc
  have hnl : n < p.2 - p.1 := by
    have := (List.getElem?_eq_some_iff.1 hn).1
    omega
  rw [List.getElem?_take, if_pos hnl, List.getElem?_drop] at hn
  obtain ⟨g1, g2⟩ := bareW_getD (l := l) (m := p.1 + n) (by omega)
  rw [g1] at hn
  cases hn
  obtain ⟨k1, k2⟩ := h6 (p.1 + n) (by omega) (by omega)
  simp only [goodB, k1, k2, g2]
  rfl
theorem lines_join {rows : List (List Tok)} (h : ∀ r ∈ rows, 10 ∉ rowJ r) : lines (joinT rows) = rows.map rowJ := by
  induction rows with
  | nil => rfl
  | cons r rows ih =>
    have e : joinT (r :: rows) = rowJ r ++ 10 :: joinT rows := by simp [joinT]
    rw [e, lines_cut (h r (.head _)), ih fun x hx => h x (.tail _ hx)]
    rfl
theorem cutFrom_none {L : List (List UInt8)} : ∀ {i : Nat}, cutFrom i L = none → ∀ l ∈ L, errW l = 0 := by
  induction L with
  | nil => intro i _ l hl; cases hl
  | cons x L ih =>
    intro i h l hl
    rw [cutFrom] at h
    split at h
    · rename_i hx
      rcases List.mem_cons.1 hl with rfl | hl
      · exact hx
      · exact ih h l hl
    · cases h
theorem cutFrom_none' {L : List (List UInt8)} (h : ∀ l ∈ L, errW l = 0) (i : Nat) : cutFrom i L = none := by
  have := cutFrom_app h i []
  rw [List.append_nil] at this
  exact this
theorem cutFrom_err {L : List (List UInt8)} : ∀ {i : Nat} {e : Int} {j : Nat}, cutFrom i L = some (e, j) → e ≠ 0 := by
  induction L with
  | nil => intro i e j h; cases h
  | cons x L ih =>
    intro i e j h
    rw [cutFrom] at h
    split at h
    · exact ih h
    · rename_i hx
      simp only [Option.some.injEq, Prod.mk.injEq] at h
      rw [← h.1]
      exact hx
/-- A text is cut, or refused with a fault. -/
theorem cutOut_ok (s : List UInt8) : (cutOut s = ((lines s).mapIdx rowT, 0, 0) ∧ s.length ≤ 65536 ∧ ∀ l ∈ lines s, errW l = 0) ∨ ∃ x y, cutOut s = ([], x, y) ∧ x ≠ 0 := by
  unfold cutOut
  by_cases hl : 65536 < s.length
  · rw [if_pos hl]
    exact .inr ⟨3, -1, rfl, by decide⟩
  · rw [if_neg hl]
    cases hc : cutFrom 0 (lines s) with
    | none => exact .inl ⟨rfl, by omega, cutFrom_none hc⟩
    | some p =>
      obtain ⟨e, i⟩ := p
      exact .inr ⟨e, i, rfl, cutFrom_err hc⟩
theorem mapIdx_mem {α β : Type} {f : Nat → α → β} {L : List α} {y : β} (h : y ∈ L.mapIdx f) : ∃ i x, x ∈ L ∧ y = f i x := by
  simp only [List.mem_mapIdx] at h
  obtain ⟨i, hi, rfl⟩ := h
  exact ⟨i, L[i], List.getElem_mem hi, rfl⟩
theorem texts_mapIdx (L : List (List UInt8)) : texts (L.mapIdx rowT) = L.map wordT := by
  unfold texts
  apply List.ext_getElem?
  intro i
  rw [List.getElem?_map, List.getElem?_mapIdx, List.getElem?_map]
  cases L[i]? with
  | none => rfl
  | some l => exact congrArg some (rowT_texts i l)
/-- There and back. -/
theorem back_cut {L : List (List UInt8)} (h : ∀ l ∈ L, errW l = 0) (hl : (joinT (L.mapIdx rowT)).length ≤ 65536) :
    ∃ rows, cutOut (joinT (L.mapIdx rowT)) = (rows, 0, 0) ∧ texts rows = texts (L.mapIdx rowT) ∧ joinT rows = joinT (L.mapIdx rowT) ∧ rows.length = L.length := by
  have hg : ∀ r ∈ L.mapIdx rowT, ∀ t ∈ r.map (fun t => t.1), GoodT t := by
    intro r hr
    obtain ⟨i, l, hm, rfl⟩ := mapIdx_mem hr
    rw [rowT_texts]
    exact wordT_good (h l hm)
  have h10 : ∀ r ∈ L.mapIdx rowT, 10 ∉ rowJ r := by
    intro r hr hc
    rw [rowJ_texts] at hc
    exact (joinW_mem (hg r hr) 10 hc).2 rfl
  have hlines := lines_join h10
  have herr : ∀ l ∈ (L.mapIdx rowT).map rowJ, errW l = 0 := by
    intro l hl
    obtain ⟨r, hr, rfl⟩ := List.mem_map.1 hl
    rw [rowJ_texts]
    exact (joinW_cut (hg r hr)).1
  have htx : texts (((L.mapIdx rowT).map rowJ).mapIdx rowT) = texts (L.mapIdx rowT) := by
    rw [texts_mapIdx]
    unfold texts
    rw [List.map_map]
    refine List.map_congr_left fun r hr => ?_
    show wordT (rowJ r) = _
    rw [rowJ_texts]
    exact (joinW_cut (hg r hr)).2
  refine ⟨((L.mapIdx rowT).map rowJ).mapIdx rowT, ?_, htx, joinT_texts htx, by simp⟩
  unfold cutOut
  rw [if_neg (by omega), hlines, cutFrom_none' herr]
theorem back_long {s : List UInt8} (h : 65536 < s.length) : cutOut s = ([], 3, -1) := by unfold cutOut; rw [if_pos h]
end Go.Proofs.YtkjklnnjaiggdaaDoor
