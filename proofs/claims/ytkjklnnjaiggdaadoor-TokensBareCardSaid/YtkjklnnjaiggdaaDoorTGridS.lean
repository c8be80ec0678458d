/- Rows of rows of strings that a call makes: each row in a block of its own. No condition. -/
import Derived.Test.YtkjklnnjaiggdaaDoorTGrid
namespace Go.Proofs.YtkjklnnjaiggdaaDoor
open Go.RowKit

def cellsS (r : List (List UInt8)) : List Value := r.map fun t => .string (mk t)

/-- V is a row of rows that read as 'rows', each in a block of its own, all from 'base' on. -/
structure GridS (w : World) (base : Nat) (V : Value) (rows : List (List (List UInt8))) (vs : List Value) : Prop where
  len : vs.length = rows.length
  out : w.ownsRow base 30 1 V rows.length vs
  row : ∀ (i : Nat) (v : Value) (r : List (List UInt8)), vs[i]? = some v → rows[i]? = some r → w.ownsRow base 9 1 v r.length (cellsS r)
  off : ∀ (i : Nat) (v : Value), vs[i]? = some v → v.ownBlock = none ∨ v.ownBlock ≠ V.ownBlock
  apart : ∀ (i j : Nat) (v u : Value), i ≠ j → vs[i]? = some v → vs[j]? = some u → v.ownBlock = none ∨ v.ownBlock ≠ u.ownBlock

theorem GridS.nil (w : World) (base : Nat) : GridS w base (.slice none 0 0) [] [] :=
  ⟨rfl, World.ownsRow_nil _ _ _ _, by simp, by simp, by simp⟩
theorem GridS.below {w w' : World} {base : Nat} {V : Value} {rows : List (List (List UInt8))} {vs : List Value} (h : GridS w base V rows vs) (hb : Below w.heap.size w w') : GridS w' base V rows vs :=
  ⟨h.len, owns_below h.out hb, fun i v r h1 h2 => owns_below (h.row i v r h1 h2) hb, h.off, h.apart⟩
theorem GridS.mono {w : World} {base b' : Nat} {V : Value} {rows : List (List (List UInt8))} {vs : List Value} (h : GridS w base V rows vs) (hb : b' ≤ base) : GridS w b' V rows vs :=
  ⟨h.len, owns_mono h.out hb, fun i v r h1 h2 => owns_mono (h.row i v r h1 h2) hb, h.off, h.apart⟩
theorem GridS.drewN {w : World} {base : Nat} {V : Value} {rows : List (List (List UInt8))} {vs : List Value} (h : GridS w base V rows vs) (n : Nat) : GridS (w.drewN n) base V rows vs :=
  ⟨h.len, h.out, fun i v r h1 h2 => h.row i v r h1 h2, h.off, h.apart⟩
/-- Blocks below the base may turn. -/
theorem GridS.kept {w w' : World} {base : Nat} {V : Value} {rows : List (List (List UInt8))} {vs : List Value} (h : GridS w base V rows vs) (hb : ∀ g, base ≤ g → g < w.heap.size → w'.heap[g]? = w.heap[g]?) : GridS w' base V rows vs := by
  have hk : ∀ {e size : Nat} {v : Value} {n : Nat} {xs : List Value}, w.ownsRow base e size v n xs → w'.ownsRow base e size v n xs := by
    intro e size v n xs h
    refine ⟨h.1, ?_⟩
    rcases h.2 with h2 | ⟨g, cap, cur, rfl, hbg, hg, r⟩
    · exact .inl h2
    · exact .inr ⟨g, cap, cur, rfl, hbg, by rw [hb g hbg (Array.getElem?_eq_some_iff.1 hg).1]; exact hg, r⟩
  exact ⟨h.len, hk h.out, fun i v r h1 h2 => hk (h.row i v r h1 h2), h.off, h.apart⟩

theorem info_rowS : (Tryd.prog.info? 30).map (fun i => (i.zero, i.size, i.bytes)) = some (some (.slice none 0 0), 1, 24) := by kernel_rfl

/-- 'out = append(out, row)', the row made since. -/
theorem wpList_appGS {ops : Array Oper} {rest : List Oper} {o : Oper} {a : Act} {Q : Exit → Act → World → Prop} {w0 : World} (hgd : o.guard = none) (s x : Operand) (t : TypeId)
    (ho : o.op = .call { callee := .builtin .append, args := #[s, x], argTypes := #[t, t] })
    (ht : Tryd.prog.underlying t = some (.slice 30))
    (w00 : World) (base : Nat) (V : Value) (rows : List (List (List UInt8))) (vs : List Value) (hG : GridS w00 base V rows vs) (hbase : base ≤ w00.heap.size) (hB : Below w00.heap.size w00 w0)
    (v : Value) (r : List (List UInt8)) (hv : w0.ownsRow w00.heap.size 9 1 v r.length (cellsS r)) (hvo : v.oneCell' = true)
    (hs : a.eval s = V) (hx : a.eval x = .slice (some ⟨w0.heap.size, 0, none⟩) 1 1) (hsz : rows.length ≤ 70000)
    (h : ∀ V' w', GridS w' base V' (rows ++ [r]) (vs ++ [v]) → Below base w00 w' → w0.heap.size ≤ w'.heap.size → wpList Tryd.prog ops Q rest (a.put o.dst V') w') : wpList Tryd.prog ops Q (o :: rest) a (w0.alloc (.cells #[v] 30)) := by
  obtain ⟨i, hi, hz0, hz1, hz2⟩ := info_parts info_rowS
  have hG0 := hG.below hB
  have hsz0 := hB.size
  have hG1 : GridS (w0.alloc (.cells #[v] 30)) base V rows vs := hG0.kept (fun g _ hg => blk_alloc_lt' w0 _ g hg)
  refine wpList_append_own_at _ hgd s x t ho base 30 i (.slice none 0 0) 1 24 ht hi hz0 hz1 hz2 rfl (by decide) V rows.length vs hs hG1.out ⟨w0.heap.size, 0, none⟩ 1 1 [v] hx rfl (cell_new w0 v 30) (by simpa using hvo) (by unfold maxLen; omega) (by omega) (by simp; omega) ?_
  intro V' w' h1 h2 _ h4
  have hv1 : (w0.alloc (.cells #[v] 30)).ownsRow w00.heap.size 9 1 v r.length (cellsS r) := hv.alloc _
  have hV : ∀ k, V.ownBlock = some k → base ≤ k ∧ k < w00.heap.size := fun k hk => hG.out.lt k hk
  have hvk : ∀ k, v.ownBlock = some k → w00.heap.size ≤ k ∧ k < w0.heap.size := fun k hk => hv.lt k hk
  have hbl : Below base w00 w' := by
    have hB' : Below base w00 w0 := ⟨hB.os, hB.tape, hB.output, hB.size, fun k hk => hB.block k (by omega)⟩
    exact (hB'.alloc (by omega) _).grown h2 (by simp; omega) (fun k hk => (hV k hk).1)
  refine h V' w' ⟨by simp [hG.len], by simpa using h1, ?_, ?_, ?_⟩ hbl (by have := h2.size; simp at this; omega)
  · intro i u q hu hq
    rcases getElem?_snoc hu with ⟨hi1, hu1⟩ | ⟨hi1, rfl⟩
    · rcases getElem?_snoc hq with ⟨hi2, hq1⟩ | ⟨hi2, rfl⟩
      · exact (hG1.row i u q hu1 hq1).kept h2 (hG.off i u hu1)
      · have := hG.len; omega
    · rcases getElem?_snoc hq with ⟨hi2, hq1⟩ | ⟨hi2, rfl⟩
      · have := hG.len; omega
      · refine (owns_mono hv1 hbase).kept h2 ?_
        cases hu : u.ownBlock with
        | none => exact .inl rfl
        | some k =>
          refine .inr fun e => ?_
          have h5 := hvk k hu
          have h6 := hV k e.symm
          omega
  · intro i u hu
    cases hub : u.ownBlock with
    | none => exact .inl rfl
    | some k =>
      refine .inr fun e => ?_
      rcases getElem?_snoc hu with ⟨hi1, hu1⟩ | ⟨hi1, rfl⟩
      · have hlt := (hG0.row i u _ hu1 (List.getElem?_eq_getElem (by have := hG.len; omega))).lt k hub
        rcases h4 with h4 | h4
        · rw [h4] at e
          rcases hG.off i u hu1 with h7 | h7
          · rw [h7] at hub; cases hub
          · exact h7 (hub.trans e)
        · rw [h4] at e
          cases e
          simp at hlt
          omega
      · have h5 := hvk k hub
        rcases h4 with h4 | h4
        · rw [h4] at e
          have h6 := hV k e.symm
          omega
        · rw [h4] at e
          cases e
          simp at h5
          omega
  · intro i j u q hij hu hq
    cases hub : u.ownBlock with
    | none => exact .inl rfl
    | some k =>
      refine .inr fun e => ?_
      rcases getElem?_snoc hu with ⟨hi1, hu1⟩ | ⟨hi1, rfl⟩
      · rcases getElem?_snoc hq with ⟨hi2, hq1⟩ | ⟨hi2, rfl⟩
        · rcases hG.apart i j u q hij hu1 hq1 with h7 | h7
          · rw [h7] at hub; cases hub
          · exact h7 (hub.trans e)
        · have h5 := hvk k e.symm
          have hlt := (hG.row i u _ hu1 (List.getElem?_eq_getElem (by have := hG.len; omega))).lt k hub
          omega
      · rcases getElem?_snoc hq with ⟨hi2, hq1⟩ | ⟨hi2, rfl⟩
        · have h5 := hvk k hub
          have hlt := (hG.row j q _ hq1 (List.getElem?_eq_getElem (by have := hG.len; omega))).lt k e.symm
          omega
        · omega
end Go.Proofs.YtkjklnnjaiggdaaDoor
