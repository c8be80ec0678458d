/- Rows of rows that a call makes: each row in a block of its own. No condition. -/
import Derived.Test.YtfalbdlfopfgcaaGreatDoorTLine
import Derived.Maps.AppendAt
namespace Go.Proofs.YtfalbdlfopfgcaaGreatDoor
open Go.RowKit

/-- A word as told: text, line, column. -/
abbrev Tok := List UInt8 × Int × Int
def tokV (t : Tok) : List Value := [.string (mk t.1), .int .i64 t.2.1, .int .i64 t.2.2]
def cellsOf (r : List Tok) : List Value := r.flatMap tokV
/-- The words of a line, as told. -/
def rowT (i : Nat) (l : List UInt8) : List Tok := (wordsW l).map fun p => ((l.drop p.1).take (p.2 - p.1), (i : Int), (p.1 : Int))
theorem rowT_cells (i : Nat) (l : List UInt8) : toks (mk l) i (wordsW l) = cellsOf (rowT i l) := by
  unfold toks cellsOf rowT
  rw [List.flatMap_map]
  congr 1
  funext p
  unfold tokC tokV
  rw [mk_ext]
theorem rowT_len (i : Nat) (l : List UInt8) : (rowT i l).length = (wordsW l).length := by simp [rowT]
theorem cellsOf_len (r : List Tok) : (cellsOf r).length = r.length * 3 := by
  unfold cellsOf
  induction r with
  | nil => rfl
  | cons p ws ih => simp only [List.flatMap_cons, List.length_append, ih, tokV, List.length_cons, List.length_nil]; omega
theorem cellsOf_at : ∀ {r : List Tok} {k j : Nat} {t : Tok}, r[k]? = some t → j < 3 → (cellsOf r)[k * 3 + j]? = (tokV t)[j]? := by
  intro r
  induction r with
  | nil => intro k j t h; simp at h
  | cons p r ih =>
    intro k j t h hj
    have hc : cellsOf (p :: r) = tokV p ++ cellsOf r := by simp [cellsOf]
    rw [hc]
    cases k with
    | zero =>
      simp only [List.getElem?_cons_zero, Option.some.injEq] at h
      subst h
      rw [List.getElem?_append_left (by simp [tokV]; omega)]
      congr 1
      omega
    | succ k =>
      rw [List.getElem?_append_right (by simp [tokV]; omega)]
      rw [← ih (k := k) (j := j) (t := t) (by simpa using h) hj]
      congr 1
      simp [tokV]
      omega

theorem owns_mono {w : World} {base base' : Nat} {e : TypeId} {size : Nat} {v : Value} {n : Nat} {xs : List Value} (h : w.ownsRow base e size v n xs) (hb : base' ≤ base) : w.ownsRow base' e size v n xs := by
  refine ⟨h.1, ?_⟩
  rcases h.2 with h2 | ⟨g, cap, cur, rfl, hbg, r⟩
  · exact .inl h2
  · exact .inr ⟨g, cap, cur, rfl, by omega, r⟩

/-- V is a row of rows that read as 'rows', each in a block of its own, all from 'base' on. -/
structure Grid (w : World) (base : Nat) (V : Value) (rows : List (List Tok)) (vs : List Value) : Prop where
  len : vs.length = rows.length
  out : w.ownsRow base 35 1 V rows.length vs
  row : ∀ (i : Nat) (v : Value) (r : List Tok), vs[i]? = some v → rows[i]? = some r → w.ownsRow base 33 3 v r.length (cellsOf r)
  off : ∀ (i : Nat) (v : Value), vs[i]? = some v → v.ownBlock = none ∨ v.ownBlock ≠ V.ownBlock
  apart : ∀ (i j : Nat) (v u : Value), i ≠ j → vs[i]? = some v → vs[j]? = some u → v.ownBlock = none ∨ v.ownBlock ≠ u.ownBlock

theorem Grid.nil (w : World) (base : Nat) : Grid w base (.slice none 0 0) [] [] :=
  ⟨rfl, World.ownsRow_nil _ _ _ _, by simp, by simp, by simp⟩
theorem Grid.below {w w' : World} {base : Nat} {V : Value} {rows : List (List Tok)} {vs : List Value} (h : Grid w base V rows vs) (hb : Below w.heap.size w w') : Grid w' base V rows vs :=
  ⟨h.len, owns_below h.out hb, fun i v r h1 h2 => owns_below (h.row i v r h1 h2) hb, h.off, h.apart⟩
theorem Grid.mono {w : World} {base b' : Nat} {V : Value} {rows : List (List Tok)} {vs : List Value} (h : Grid w base V rows vs) (hb : b' ≤ base) : Grid w b' V rows vs :=
  ⟨h.len, owns_mono h.out hb, fun i v r h1 h2 => owns_mono (h.row i v r h1 h2) hb, h.off, h.apart⟩
theorem Grid.drewN {w : World} {base : Nat} {V : Value} {rows : List (List Tok)} {vs : List Value} (h : Grid w base V rows vs) (n : Nat) : Grid (w.drewN n) base V rows vs :=
  ⟨h.len, h.out, fun i v r h1 h2 => h.row i v r h1 h2, h.off, h.apart⟩
/-- Blocks below the base may turn. -/
theorem Grid.kept {w w' : World} {base : Nat} {V : Value} {rows : List (List Tok)} {vs : List Value} (h : Grid w base V rows vs) (hb : ∀ g, base ≤ g → g < w.heap.size → w'.heap[g]? = w.heap[g]?) : Grid w' base V rows vs := by
  have hk : ∀ {e size : Nat} {v : Value} {n : Nat} {xs : List Value}, w.ownsRow base e size v n xs → w'.ownsRow base e size v n xs := by
    intro e size v n xs h
    refine ⟨h.1, ?_⟩
    rcases h.2 with h2 | ⟨g, cap, cur, rfl, hbg, hg, r⟩
    · exact .inl h2
    · exact .inr ⟨g, cap, cur, rfl, hbg, by rw [hb g hbg (Array.getElem?_eq_some_iff.1 hg).1]; exact hg, r⟩
  exact ⟨h.len, hk h.out, fun i v r h1 h2 => hk (h.row i v r h1 h2), h.off, h.apart⟩

theorem info_row : (Tryz.prog.info? 35).map (fun i => (i.zero, i.size, i.bytes)) = some (some (.slice none 0 0), 1, 24) := by kernel_rfl

theorem getElem?_snoc {α : Type} {xs : List α} {x v : α} {i : Nat} (h : (xs ++ [x])[i]? = some v) : (i < xs.length ∧ xs[i]? = some v) ∨ (i = xs.length ∧ v = x) := by
  by_cases hi : i < xs.length
  · rw [List.getElem?_append_left hi] at h; exact .inl ⟨hi, h⟩
  · rw [List.getElem?_append_right (by omega)] at h
    have hlt := (List.getElem?_eq_some_iff.1 h).1
    simp only [List.length_singleton] at hlt
    have : i - xs.length = 0 := by omega
    rw [this] at h
    simp only [List.getElem?_cons_zero, Option.some.injEq] at h
    exact .inr ⟨by omega, h.symm⟩

theorem blk_alloc_lt' (w : World) (o : Obj) (k : Nat) (h : k < w.heap.size) : (w.alloc o).heap[k]? = w.heap[k]? := by
  show (w.heap.push o)[k]? = _
  rw [Array.getElem?_push, if_neg (by omega)]

/-- 'out = append(out, row)', the row made since. -/
theorem wpList_appG {ops : Array Oper} {rest : List Oper} {o : Oper} {a : Act} {Q : Exit → Act → World → Prop} {w0 : World} (hgd : o.guard = none) (s x : Operand) (t : TypeId)
    (ho : o.op = .call { callee := .builtin .append, args := #[s, x], argTypes := #[t, t] })
    (ht : Tryz.prog.underlying t = some (.slice 35))
    (w00 : World) (base : Nat) (V : Value) (rows : List (List Tok)) (vs : List Value) (hG : Grid w00 base V rows vs) (hbase : base ≤ w00.heap.size) (hB : Below w00.heap.size w00 w0)
    (v : Value) (r : List Tok) (hv : w0.ownsRow w00.heap.size 33 3 v r.length (cellsOf r)) (hvo : v.oneCell' = true)
    (hs : a.eval s = V) (hx : a.eval x = .slice (some ⟨w0.heap.size, 0, none⟩) 1 1) (hsz : rows.length ≤ 70000)
    (h : ∀ V' w', Grid w' base V' (rows ++ [r]) (vs ++ [v]) → Below base w00 w' → w0.heap.size ≤ w'.heap.size → wpList Tryz.prog ops Q rest (a.put o.dst V') w') : wpList Tryz.prog ops Q (o :: rest) a (w0.alloc (.cells #[v] 35)) := by
  obtain ⟨i, hi, hz0, hz1, hz2⟩ := info_parts info_row
  have hG0 := hG.below hB
  have hsz0 := hB.size
  have hG1 : Grid (w0.alloc (.cells #[v] 35)) base V rows vs := hG0.kept (fun g _ hg => blk_alloc_lt' w0 _ g hg)
  refine wpList_append_own_at _ hgd s x t ho base 35 i (.slice none 0 0) 1 24 ht hi hz0 hz1 hz2 rfl (by decide) V rows.length vs hs hG1.out ⟨w0.heap.size, 0, none⟩ 1 1 [v] hx rfl (cell_new w0 v 35) (by simpa using hvo) (by unfold maxLen; omega) (by omega) (by simp; omega) ?_
  intro V' w' h1 h2 _ h4
  have hv1 : (w0.alloc (.cells #[v] 35)).ownsRow w00.heap.size 33 3 v r.length (cellsOf r) := hv.alloc _
  have hV : ∀ k, V.ownBlock = some k → base ≤ k ∧ k < w00.heap.size := fun k hk => hG.out.lt k hk
  have hvk : ∀ k, v.ownBlock = some k → w00.heap.size ≤ k ∧ k < w0.heap.size := fun k hk => hv.lt k hk
  have hbl : Below base w00 w' := by
    have hB' : Below base w00 w0 := ⟨hB.os, hB.tape, hB.output, hB.size, fun k hk => hB.block k (by omega)⟩
    exact (hB'.alloc (by omega) _).grown h2 (by simp; omega) (fun k hk => (hV k hk).1)
  refine h V' w' ⟨by simp [hG.len], by simpa using h1, ?_, ?_, ?_⟩ hbl (by have := h2.size; simp at this; omega)
  · intro i u q hu hq
    rcases getElem?_snoc hu with ⟨hi1, hu1⟩ | ⟨hi1, rfl⟩
    · rcases getElem?_snoc hq with ⟨hi2, hq1⟩ | ⟨hi2, rfl⟩
      · exact (hG1.row i u q hu1 hq1).kept h2 (hG.off i u hu1)
      · have := hG.len; omega
    · rcases getElem?_snoc hq with ⟨hi2, hq1⟩ | ⟨hi2, rfl⟩
      · have := hG.len; omega
      · refine (owns_mono hv1 hbase).kept h2 ?_
        cases hu : u.ownBlock with
        | none => exact .inl rfl
        | some k =>
          refine .inr fun e => ?_
          have h5 := hvk k hu
          have h6 := hV k e.symm
          omega
  · intro i u hu
    cases hub : u.ownBlock with
    | none => exact .inl rfl
    | some k =>
      refine .inr fun e => ?_
      rcases getElem?_snoc hu with ⟨hi1, hu1⟩ | ⟨hi1, rfl⟩
      · have hlt := (hG0.row i u _ hu1 (List.getElem?_eq_getElem (by have := hG.len; omega))).lt k hub
        rcases h4 with h4 | h4
        · rw [h4] at e
          rcases hG.off i u hu1 with h7 | h7
          · rw [h7] at hub; cases hub
          · exact h7 (hub.trans e)
        · rw [h4] at e
          cases e
          simp at hlt
          omega
      · have h5 := hvk k hub
        rcases h4 with h4 | h4
        · rw [h4] at e
          have h6 := hV k e.symm
          omega
        · rw [h4] at e
          cases e
          simp at h5
          omega
  · intro i j u q hij hu hq
    cases hub : u.ownBlock with
    | none => exact .inl rfl
    | some k =>
      refine .inr fun e => ?_
      rcases getElem?_snoc hu with ⟨hi1, hu1⟩ | ⟨hi1, rfl⟩
      · rcases getElem?_snoc hq with ⟨hi2, hq1⟩ | ⟨hi2, rfl⟩
        · rcases hG.apart i j u q hij hu1 hq1 with h7 | h7
          · rw [h7] at hub; cases hub
          · exact h7 (hub.trans e)
        · have h5 := hvk k e.symm
          have hlt := (hG.row i u _ hu1 (List.getElem?_eq_getElem (by have := hG.len; omega))).lt k hub
          omega
      · rcases getElem?_snoc hq with ⟨hi2, hq1⟩ | ⟨hi2, rfl⟩
        · have h5 := hvk k hub
          have hlt := (hG.row j q _ hq1 (List.getElem?_eq_getElem (by have := hG.len; omega))).lt k e.symm
          omega
        · omega
end Go.Proofs.YtfalbdlfopfgcaaGreatDoor

