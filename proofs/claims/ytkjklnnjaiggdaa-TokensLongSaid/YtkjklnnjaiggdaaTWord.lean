/- A line cut into words, in the reference. Condition: the line is no longer than 65,536 bytes. -/
import Derived.Test.YtkjklnnjaiggdaaTBare
namespace Go.Proofs.Ytkjklnnjaiggdaa
open Go.RowKit

theorem toks_len (t : ByteArray) (line : Int) (ws : List (Nat × Nat)) : (toks t line ws).length = ws.length * 3 := by
  unfold toks
  induction ws with
  | nil => rfl
  | cons p ws ih => simp only [List.flatMap_cons, List.length_append, ih, tokC, List.length_cons, List.length_nil]; omega
theorem toks_snoc (t : ByteArray) (line : Int) (ws : List (Nat × Nat)) (p : Nat × Nat) : toks t line (ws ++ [p]) = toks t line ws ++ tokC t line p := by simp [toks]
/-- The open word's text is stored. -/
theorem toks_set (t : ByteArray) (line : Int) (ws : List (Nat × Nat)) (f k k' : Nat) : (toks t line (ws ++ [(f, k)])).set (ws.length * 3) (.string (t.extract f k')) = toks t line (ws ++ [(f, k')]) := by
  rw [toks_snoc, toks_snoc, ← toks_len t line ws, List.set_append_right _ _ (Nat.le_refl _), Nat.sub_self]
  rfl
theorem toks_at (t : ByteArray) (line : Int) (ws : List (Nat × Nat)) (p : Nat × Nat) (j : Nat) : (toks t line (ws ++ [p]))[ws.length * 3 + j]? = (tokC t line p)[j]? := by
  rw [toks_snoc, ← toks_len t line ws, List.getElem?_append_right (by omega)]
  congr 1
  omega

/-- Up to k: the words, the open one as far as it goes. -/
def WordsLoop (w : World) (b : ByteArray) (line : Int) (out i : Value) (wr : World) : Prop := ∃ (k : Nat) (ws : List (Nat × Nat)) (o : Option Nat), i = .int .i64 k ∧ k ≤ b.size ∧ stW b.data.toList k = .ok (ws, o) ∧
  wr.ownsRow w.heap.size 32 3 out (closeW (ws, o) k).length (toks b line (closeW (ws, o) k)) ∧ Below w.heap.size w wr

set_option maxRecDepth 100000 in
set_option maxHeartbeats 400000 in
theorem words_loop (t b : ByteArray) (line : Int) (w : World) (ht : t.size ≤ 65536) (hbs : b.size ≤ 65536) (hb0 : b = t.extract 0 (bareW t.data.toList).length) (ws : List (Nat × Nat)) (err : Int)
    (hok : ∀ st, stW b.data.toList b.size = .ok st → ws = closeW st b.size ∧ err = 0) (her : ∀ e, stW b.data.toList b.size = .error e → ws = [] ∧ err = e) :
    Calls Try.prog 13 #[.string t, .int .i64 line] w (RetW w ws.length (toks b line ws) err) := by
  have HO := hid hok
  have HR := hid her
  have HB := hid hb0
  clear hok her hb0
  go_enter Try.func13, Try.ntmps13
  go_wp2_with (go_at_call 22; refine (bare_any t _ ht).mono ?_; rintro e w' ⟨rfl, rfl⟩; rw [← HB.out])
  go_loopw [6, 7] (WordsLoop w b line) (fun _ i _ => b.size + 1 - (intOf i).toNat)
  case atStart => exact ⟨0, [], none, rfl, by omega, rfl, World.ownsRow_nil _ _ _ _, Below.refl _ _⟩
  case round =>
    obtain ⟨k, ws1, o, rfl, hk, hst, hown, hb⟩ := hrel
    have hz := hb.size
    obtain ⟨hfr, hcnt⟩ := stW_from hst
    have HS := hid hst
    by_cases hkl : k < b.size
    · obtain ⟨c, hc⟩ : ∃ c, b.data.toList[k]? = some c := ⟨b.data.toList[k]'(by simpa using hkl), by simp⟩
      obtain ⟨hks, hck⟩ := byte_at hc
      have hcb : b.data.toList.getD k 0 = c := by rw [List.getD_eq_getElem?_getD, hc]; rfl
      have hnext : stW b.data.toList (k + 1) = stepW (ws1, o) k c := by
        simp only [stW, HS.out, hcb]
      have HN := hid hnext
      have hbn := blankB_nat c
      have hbadn : badB c = (decide (c.toNat < 33) || decide (126 < c.toNat)) := rfl
      obtain ⟨m, hm⟩ : ∃ m, m = c.toNat := ⟨_, rfl⟩
      have hm256 : m < 256 := by rw [hm]; exact c.toNat_lt
      rw [← hm] at hck hbn hbadn
      clear hnext hc hcb hst
      by_cases hbk : blankB c = true
      · have hnx : stepW (ws1, o) k c = .ok (closeW (ws1, o) k, none) := by unfold stepW; rw [if_pos hbk]
        have HX := hid hnx
        rw [hbk] at hbn
        have HC := hid (show closeW (closeW (ws1, o) k, none) (k + 1) = closeW (ws1, o) k from rfl)
        clear hnx hbadn hm hbk
        go_wp2_with (go_at_call 23; with_reducible refine (blank_n m _ hbn _).mono ?_; rintro e w' ⟨rfl, rfl⟩)
        go_roundw
        case rel => exact ⟨k + 1, closeW (ws1, o) k, none, by go_num, by omega, by rw [HN.out, HX.out], by rw [HC.out]; exact hown, hb⟩
        case measure => simp [intOf] <;> omega
      · simp only [Bool.not_eq_true] at hbk
        rw [hbk] at hbn
        by_cases hbad : badB c = true
        · have hnx : stepW (ws1, o) k c = .error 240 := by unfold stepW; rw [if_neg (by simp [hbk]), if_pos hbad]
          obtain ⟨e1, e2⟩ := HR.out 240 (stW_error (by rw [HN.out, hnx]) _ (by omega))
          subst e1 e2
          have hb2 : m < 33 ∨ (33 ≤ m ∧ 126 < m) := by
            rw [hbadn] at hbad
            simp only [Bool.or_eq_true, decide_eq_true_eq] at hbad
            omega
          clear hbad hbadn hbk hm hnx
          rcases hb2 with hb2 | ⟨hb2, hb3⟩
          all_goals
            go_wp2_with (go_at_call 23; with_reducible refine (blank_n m _ hbn _).mono ?_; rintro e w' ⟨rfl, rfl⟩)
            go_ret2
            exact ⟨_, rfl, World.ownsRow_nil _ _ _ _, hb⟩
        · have hb2 : 33 ≤ m ∧ m ≤ 126 := by
            rw [hbadn] at hbad
            simp only [Bool.or_eq_true, decide_eq_true_eq] at hbad
            omega
          obtain ⟨hb2, hb3⟩ := hb2
          cases o with
          | none =>
            have hnx : stepW (ws1, none) k c = .ok (ws1, some k) := by unfold stepW; rw [if_neg (by simp [hbk]), if_neg hbad]
            have HX := hid hnx
            have HC := hid (show closeW (ws1, none) k = ws1 from rfl)
            simp only [HC.out] at hown
            have HW := hid (show toks b line (closeW (ws1, some k) (k + 1)) = toks b line ws1 ++ [.string (b.extract k (k + 1)), .int .i64 line, .int .i64 (k : Int)] by simp [toks, tokC, closeW])
            cases k with
            | zero =>
              clear hnx hbad hbadn hbk hm
              go_wp2_with (first | (go_at_call 23; with_reducible refine (blank_n m _ hbn _).mono ?_; rintro e w' ⟨rfl, rfl⟩) | (at_builtin; refine wpList_appS rfl _ _ 30 rfl w.heap.size 32 _ 3 32 (by decide) Try.underlying30 info_tok tok_z _ ws1.length _ [.string _, .int .i64 _, .int .i64 _] rfl rfl rfl (by simp [Value.oneCell']) (by exact hown) (by first | omega | (simp; omega)) (by first | omega | (simp; omega)) (by first | omega | (simp; omega)) ?_; intro v' w' h1 h2 h3))
              go_roundw
              case rel => exact ⟨0 + 1, ws1, some 0, by go_num, by omega, by rw [HN.out, HX.out], by rw [HW.out]; simpa [closeW] using h1, hb.trans h2⟩
              case measure => simp [intOf] <;> omega
            | succ j =>
              have hbj := (stW_none HS.out).1 rfl
              obtain ⟨c2, hc2⟩ : ∃ c2, b.data.toList[j]? = some c2 := ⟨b.data.toList[j]'(by simp; omega), by simp⟩
              obtain ⟨hjs, hcj⟩ := byte_at hc2
              rw [show b.data.toList.getD j 0 = c2 by rw [List.getD_eq_getElem?_getD, hc2]; rfl, ← blankB_nat c2] at hbj
              generalize c2.toNat = m2 at *
              clear hnx hbad hbadn hbk hm hc2
              go_wp2_with (first | (go_at_call 23; first | (with_reducible refine (blank_n m _ hbn _).mono ?_; rintro e w' ⟨rfl, rfl⟩) | (with_reducible refine (blank_n m2 _ hbj _).mono ?_; rintro e w' ⟨rfl, rfl⟩)) | (at_builtin; refine wpList_appS rfl _ _ 30 rfl w.heap.size 32 _ 3 32 (by decide) Try.underlying30 info_tok tok_z _ ws1.length _ [.string _, .int .i64 _, .int .i64 _] rfl rfl rfl (by simp [Value.oneCell']) (by exact hown) (by first | omega | (simp; omega)) (by first | omega | (simp; omega)) (by first | omega | (simp; omega)) ?_; intro v' w' h1 h2 h3))
              go_roundw
              case rel => exact ⟨j + 1 + 1, ws1, some (j + 1), by go_num, by omega, by rw [HN.out, HX.out], by rw [HW.out]; simpa [closeW] using h1, hb.trans h2⟩
              case measure => simp [intOf] <;> omega
          | some f =>
            have hfk := hfr f rfl
            obtain ⟨j, rfl⟩ : ∃ j, k = j + 1 := ⟨k - 1, by omega⟩
            have hbj : blankB (b.data.toList.getD j 0) = false := by
              rw [← Bool.not_eq_true]
              intro h
              exact absurd ((stW_none HS.out).2 h) (by simp)
            obtain ⟨c2, hc2⟩ : ∃ c2, b.data.toList[j]? = some c2 := ⟨b.data.toList[j]'(by simp; omega), by simp⟩
            obtain ⟨hjs, hcj⟩ := byte_at hc2
            rw [show b.data.toList.getD j 0 = c2 by rw [List.getD_eq_getElem?_getD, hc2]; rfl, ← blankB_nat c2] at hbj
            generalize c2.toNat = m2 at *
            have hcl : closeW (ws1, some f) (j + 1) = ws1 ++ [(f, j + 1)] := rfl
            rw [hcl, List.length_append, List.length_singleton] at hown
            obtain ⟨g, cap, cur, rfl, hg, _, _, _, _, _⟩ := hown.2.resolve_left (by rintro ⟨_, h⟩; omega)
            have hc0 := hown.cellAt (ws1.length * 3 + 2) (by omega)
            rw [toks_at] at hc0
            simp only [tokC, List.getElem?_cons_succ, List.getElem?_cons_zero] at hc0
            have hf0 := hown.frozenAt (ws1.length * 3)
            obtain ⟨hst', hgr⟩ := hown.stored (ws1.length * 3) (.string (b.extract f (j + 1 + 1)))
            rw [toks_set] at hst'
            have hcg : (wr.setCell ⟨g, ws1.length * 3, none⟩ (.string (b.extract f (j + 1 + 1)))).cell? ⟨g, ws1.length * 3, none⟩ = some (.string (b.extract f (j + 1 + 1))) := by
              have := hst'.cellAt (ws1.length * 3) (by omega)
              rw [this, show ws1.length * 3 = ws1.length * 3 + 0 from rfl, toks_at]
              rfl
            have HT := hid hst'
            have HG := hid hgr
            have hc1 := hown.cellAt (ws1.length * 3 + 0) (by omega)
            rw [toks_at] at hc1
            simp only [tokC, List.getElem?_cons_zero, Nat.add_zero] at hc1
            obtain ⟨y, hy⟩ : ∃ y, b.extract f (j + 1 + 1) = y := ⟨_, rfl⟩
            have hys : y.size = j + 2 - f := by rw [← hy, ByteArray.size_extract]; omega
            rw [hy] at hcg
            have HY := hid hy
            have hgl := hown.lt g rfl
            have hws : ws1.length ≤ 65536 := by simp at hcnt; omega
            clear hst' hgr hcl hbadn hm hc2 hown hy hfr hcnt
            by_cases h80 : 80 ≤ j + 1 - f
            · have h80' : (80 : Int) < ((j + 2 - f : Nat) : Int) := by omega
              have hnx : stepW (ws1, some f) (j + 1) c = .error 3 := by unfold stepW; rw [if_neg (by simp [hbk]), if_neg hbad]; simp only [if_pos h80]
              obtain ⟨e1, e2⟩ := HR.out 3 (stW_error (by rw [HN.out, hnx]) _ (by omega))
              subst e1 e2
              clear hnx hbad hbk
              go_wp2_with (first | (go_at_call 23; first | (with_reducible refine (blank_n m _ hbn _).mono ?_; rintro e w' ⟨rfl, rfl⟩) | (with_reducible refine (blank_n m2 _ hbj _).mono ?_; rintro e w' ⟨rfl, rfl⟩)))
              go_ret2
              exact ⟨_, rfl, World.ownsRow_nil _ _ _ _, hb.grown HG.out (by omega) (fun k hk => by cases hk; exact hg)⟩
            · have h80' : ((j + 2 - f : Nat) : Int) ≤ 80 := by omega
              have hnx : stepW (ws1, some f) (j + 1) c = .ok (ws1, some f) := by unfold stepW; rw [if_neg (by simp [hbk]), if_neg hbad]; simp only [if_neg h80]
              have HX := hid hnx
              clear hnx hbad hbk
              go_wp2_with (first | (go_at_call 23; first | (with_reducible refine (blank_n m _ hbn _).mono ?_; rintro e w' ⟨rfl, rfl⟩) | (with_reducible refine (blank_n m2 _ hbj _).mono ?_; rintro e w' ⟨rfl, rfl⟩)))
              go_roundw
              case rel => exact ⟨j + 1 + 1, ws1, some f, by go_num, by omega, by rw [HN.out, HX.out], by simpa [closeW] using HT.out, hb.grown HG.out (by omega) (fun k hk => by cases hk; exact hg)⟩
              case measure => simp [intOf] <;> omega
    · obtain rfl : k = b.size := by omega
      obtain ⟨e1, e2⟩ := HO.out (ws1, o) HS.out
      subst e1 e2
      clear hst
      go_wp2
      go_ret2
      exact ⟨_, rfl, hown, hb⟩

theorem bare_bytes (t : ByteArray) : (t.extract 0 (bareW t.data.toList).length).data.toList = bareW t.data.toList := by
  rw [ByteArray.data_extract, Array.toList_extract]
  simp only [List.extract_eq_take_drop, List.drop_zero, Nat.sub_zero]
  exact (List.prefix_iff_eq_take.1 (List.takeWhile_prefix (l := t.data.toList) fun c => !remB c)).symm
theorem closeW_ends {b : List UInt8} : ∀ {k : Nat} {st : St}, stW b k = .ok st → ∀ p ∈ closeW st k, p.1 < p.2 ∧ p.2 ≤ k := by
  intro k
  induction k with
  | zero =>
    intro st h p hp
    simp only [stW, Except.ok.injEq] at h
    subst h
    simp [closeW] at hp
  | succ k ih =>
    intro st h p hp
    simp only [stW] at h
    split at h
    · cases h
    · rename_i st0 hst
      obtain ⟨vs, q⟩ := st0
      have i := ih hst
      have hq := stW_from hst
      simp only [stepW] at h
      split at h
      · simp only [Except.ok.injEq] at h
        subst h
        have := i p hp
        omega
      · split at h
        · cases h
        · cases q with
          | none =>
            simp only [Except.ok.injEq] at h
            subst h
            simp only [closeW, List.mem_append, List.mem_singleton] at hp i
            rcases hp with hp | rfl
            · have := i p hp; omega
            · simp
          | some f =>
            simp only at h
            split at h
            · cases h
            · simp only [Except.ok.injEq] at h
              subst h
              have hf := hq.1 f rfl
              simp only [closeW, List.mem_append, List.mem_singleton] at hp i
              rcases hp with hp | rfl
              · have := i p (.inl hp); omega
              · simp; omega
theorem wordsW_ends (t : List UInt8) : ∀ p ∈ wordsW t, p.1 < p.2 ∧ p.2 ≤ (bareW t).length := by
  intro p hp
  unfold wordsW at hp
  split at hp
  · cases hp
  · rename_i st h
    exact closeW_ends h p hp
theorem toks_bare (t : ByteArray) (n : Nat) (line : Int) (ws : List (Nat × Nat)) (h : ∀ p ∈ ws, p.2 ≤ n) : toks (t.extract 0 n) line ws = toks t line ws := by
  unfold toks
  induction ws with
  | nil => rfl
  | cons p ws ih =>
    simp only [List.flatMap_cons]
    rw [ih fun q hq => h q (.tail _ hq)]
    congr 1
    unfold tokC
    rw [ByteArray.extract_extract, Nat.zero_add, Nat.zero_add, Nat.min_eq_left (h p (.head _))]

theorem words_any (t : ByteArray) (line : Int) (w : World) (ht : t.size ≤ 65536) :
    Calls Try.prog 13 #[.string t, .int .i64 line] w (RetW w (wordsW t.data.toList).length (toks t line (wordsW t.data.toList)) (errW t.data.toList)) := by
  have h1 := bare_bytes t
  have h2 : (t.extract 0 (bareW t.data.toList).length).size = (bareW t.data.toList).length := by
    have : (t.extract 0 (bareW t.data.toList).length).data.toList.length = _ := congrArg List.length h1
    simpa using this
  have h3 := bareW_len t.data.toList
  rw [← toks_bare t (bareW t.data.toList).length line _ fun p hp => (wordsW_ends _ p hp).2]
  refine words_loop t (t.extract 0 (bareW t.data.toList).length) line w ht ?_ rfl (wordsW t.data.toList) (errW t.data.toList) ?_ ?_
  · rw [h2]; simp at h3; omega
  · intro st h
    rw [h1, h2] at h
    unfold wordsW errW
    rw [h2, h]
    exact ⟨rfl, rfl⟩
  · intro e h
    rw [h1, h2] at h
    unfold wordsW errW
    rw [h]
    exact ⟨rfl, rfl⟩
end Go.Proofs.Ytkjklnnjaiggdaa
