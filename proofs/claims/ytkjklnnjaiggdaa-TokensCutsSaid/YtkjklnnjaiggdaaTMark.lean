/- Rows of rows written to and appended to, while others stand by. No condition. -/
import Derived.Test.YtkjklnnjaiggdaaTLives
namespace Go.Proofs.Ytkjklnnjaiggdaa
open Go.RowKit

/-- V's rows are turned; what lies from bb on stays, but for what is new since W0. -/
structure Marks (W0 : World) (ba bb : Nat) (V : Value) (rows : List (List Tok)) (vs : List Value) (wr : World) : Prop where
  grid : Grid wr ba V rows vs
  offs : ∀ g, V.ownBlock = some g → g < bb
  offr : ∀ (i : Nat) (v : Value) (g : Nat), vs[i]? = some v → v.ownBlock = some g → g < bb ∨ W0.heap.size ≤ g
  mid : ∀ k, bb ≤ k → k < W0.heap.size → wr.heap[k]? = W0.heap[k]?
  below : Below ba W0 wr

/-- A word stored: three cells. -/
def put3 (w : World) (b k : Nat) (t : Tok) : World := ((w.setCell ⟨b, k * 3, none⟩ (.string (mk t.1))).setCell ⟨b, k * 3 + 1, none⟩ (.int .i64 t.2.1)).setCell ⟨b, k * 3 + 2, none⟩ (.int .i64 t.2.2)
theorem put3_other (w : World) (b k : Nat) (t : Tok) (g : Nat) (h : g ≠ b) : (put3 w b k t).heap[g]? = w.heap[g]? := by
  unfold put3
  rw [blk_set _ _ _ _ h, blk_set _ _ _ _ h, blk_set _ _ _ _ h]
theorem put3_size (w : World) (b k : Nat) (t : Tok) : (put3 w b k t).heap.size = w.heap.size := by simp [put3, World.setCell]

theorem cellsOf_set {r : List Tok} {k : Nat} {t : Tok} (hk : k < r.length) : (((cellsOf r).set (k * 3) (.string (mk t.1))).set (k * 3 + 1) (.int .i64 t.2.1)).set (k * 3 + 2) (.int .i64 t.2.2) = cellsOf (r.set k t) := by
  induction r generalizing k with
  | nil => simp at hk
  | cons p r ih =>
    cases k with
    | zero => simp [cellsOf, tokV]
    | succ k =>
      have := ih (k := k) (by simpa using hk)
      simp only [cellsOf, List.flatMap_cons, tokV, List.set_cons_succ, List.cons_append, List.nil_append, Nat.succ_mul] at this ⊢
      rw [this]

theorem getElem?_set' {α : Type} {xs : List α} {i j : Nat} {x v : α} (h : (xs.set i x)[j]? = some v) : (j = i ∧ v = x) ∨ (j ≠ i ∧ xs[j]? = some v) := by
  rw [List.getElem?_set] at h
  split at h
  · rename_i e
    split at h
    · cases h; exact .inl ⟨e.symm, rfl⟩
    · cases h
  · rename_i e
    exact .inr ⟨fun h => e h.symm, h⟩

theorem owns_other {w w' : World} {ba e size m b : Nat} {u : Value} {xs : List Value} (ho : w.ownsRow ba e size u m xs) (hw : ∀ g, g ≠ b → w'.heap[g]? = w.heap[g]?) (hne : u.ownBlock = none ∨ u.ownBlock ≠ some b) : w'.ownsRow ba e size u m xs := by
  refine ⟨ho.1, ?_⟩
  rcases ho.2 with h2 | ⟨g, c, cur, rfl, hbg, hg, r2⟩
  · exact .inl h2
  · refine .inr ⟨g, c, cur, rfl, hbg, ?_, r2⟩
    rw [hw g (by rcases hne with h | h; cases h; exact fun e => h (by simp [Value.ownBlock, e]))]
    exact hg

theorem marksPut {W0 : World} {ba bb : Nat} {V : Value} {rows : List (List Tok)} {vs : List Value} {wr : World} (h : Marks W0 ba bb V rows vs wr) {i k b : Nat} {r : List Tok} {n cap : Nat} (hr : rows[i]? = some r) (hv : vs[i]? = some (.slice (some ⟨b, 0, none⟩) n cap)) (hk : k < r.length) (t : Tok) :
    Marks W0 ba bb V (rows.set i (r.set k t)) vs (put3 wr b k t) := by
  have hrow := h.grid.row i _ r hv hr
  have hlt := hrow.lt b rfl
  have hbo := h.offr i _ b hv rfl
  have hn : n = r.length := by
    rcases hrow.2 with ⟨e, _⟩ | ⟨g, c, cur, e, _⟩
    · cases e
    · cases e; rfl
  subst hn
  have hother : ∀ {e size m : Nat} {u : Value} {xs : List Value}, wr.ownsRow ba e size u m xs → (u.ownBlock = none ∨ u.ownBlock ≠ some b) → (put3 wr b k t).ownsRow ba e size u m xs := by
    intro e size m u xs ho hne
    exact owns_other ho (put3_other _ _ _ _) hne
  have hself : (put3 wr b k t).ownsRow ba 32 3 (.slice (some ⟨b, 0, none⟩) r.length cap) r.length (cellsOf (r.set k t)) := by
    have s1 := (hrow.stored (k * 3) (.string (mk t.1))).1
    have s2 := (s1.stored (k * 3 + 1) (.int .i64 t.2.1)).1
    have s3 := (s2.stored (k * 3 + 2) (.int .i64 t.2.2)).1
    rw [cellsOf_set hk] at s3
    exact s3
  refine ⟨⟨by simp [h.grid.len], ?_, ?_, h.grid.off, h.grid.apart⟩, h.offs, h.offr, ?_, ?_⟩
  · rw [List.length_set]
    refine hother h.grid.out ?_
    have := h.grid.off i _ hv
    rcases this with e | e
    · cases e
    · exact .inr fun e2 => e e2.symm
  · intro j u q hu hq
    rcases getElem?_set' hq with ⟨rfl, rfl⟩ | ⟨hj, hq⟩
    · rw [hv] at hu
      cases hu
      rw [List.length_set]
      exact hself
    · refine hother (h.grid.row j u q hu hq) ?_
      rcases h.grid.apart j i u _ hj hu hv with e | e
      · exact .inl e
      · exact .inr e
  · intro g h1 h2
    rw [put3_other _ _ _ _ _ (by omega)]
    exact h.mid g h1 h2
  · have := h.below.size
    refine ⟨h.below.os, h.below.tape, h.below.output, by rw [put3_size]; exact this, fun g hg => ?_⟩
    rw [put3_other _ _ _ _ _ (by omega)]
    exact h.below.block g hg
/-- A row appended to; the new row's value stored. -/
theorem marksPush {W0 : World} {ba bb : Nat} {V : Value} {rows : List (List Tok)} {vs : List Value} {wr w2 : World} (h : Marks W0 ba bb V rows vs wr) {i g : Nat} {n cap : Nat} {r : List Tok} {v v' : Value} {t : Tok} (hr : rows[i]? = some r) (hv : vs[i]? = some v) (hV : V = .slice (some ⟨g, 0, none⟩) n cap)
    (o : Obj) (hown : w2.ownsRow ba 32 3 v' (r.length + 1) (cellsOf (r ++ [t]))) (hg : (wr.alloc o).grownBy w2 v.ownBlock) (hat : v'.ownBlock = v.ownBlock ∨ v'.ownBlock = some (wr.alloc o).heap.size) :
    Marks W0 ba bb V (rows.set i (r ++ [t])) (vs.set i v') (w2.setCell ⟨g, i, none⟩ v') := by
  subst hV
  have hgl := h.grid.out.lt g rfl
  have hgb := h.offs g rfl
  have hsz := h.below.size
  have hasz : (wr.alloc o).heap.size = wr.heap.size + 1 := by simp
  have hgs := hg.size
  have hvo := h.grid.off i v hv
  have hvl : ∀ k, v.ownBlock = some k → ba ≤ k ∧ k < wr.heap.size := (h.grid.row i v r hv hr).lt
  have hv'g : v'.ownBlock = none ∨ v'.ownBlock ≠ some g := by
    rcases hat with e | e
    · rw [e]; exact hvo
    · rw [e]; exact .inr fun e2 => by cases e2; omega
  have hset : ∀ k, k ≠ g → (w2.setCell ⟨g, i, none⟩ v').heap[k]? = w2.heap[k]? := fun k hk => blk_set _ _ _ _ hk
  refine ⟨⟨by simp [h.grid.len], ?_, ?_, ?_, ?_⟩, h.offs, ?_, ?_, ?_⟩
  · have h1 : w2.ownsRow ba 30 1 (.slice (some ⟨g, 0, none⟩) n cap) rows.length vs := by
      refine (h.grid.out.alloc o).kept hg ?_
      rcases hvo with e | e
      · exact .inr (by rw [e]; simp [Value.ownBlock])
      · exact .inr fun e2 => e e2.symm
    have hn : n = rows.length := by
      rcases h1.2 with ⟨e, _⟩ | ⟨g, c, cur, e, _⟩
      · cases e
      · cases e; rfl
    subst hn
    rw [List.length_set]
    exact (h1.stored i v').1
  · intro j u q hu hq
    rcases getElem?_set' hu with ⟨rfl, rfl⟩ | ⟨hj, hu⟩
    · rcases getElem?_set' hq with ⟨_, rfl⟩ | ⟨hj, _⟩
      · rw [List.length_append, List.length_singleton]
        exact owns_other hown hset hv'g
      · exact absurd rfl hj
    · rcases getElem?_set' hq with ⟨hj2, _⟩ | ⟨_, hq⟩
      · exact absurd hj2 hj
      · exact owns_other (((h.grid.row j u q hu hq).alloc o).kept hg (h.grid.apart j i u v hj hu hv)) hset (h.grid.off j u hu)
  · intro j u hu
    rcases getElem?_set' hu with ⟨rfl, rfl⟩ | ⟨hj, hu⟩
    · exact hv'g
    · exact h.grid.off j u hu
  · intro j k u q hjk hu hq
    rcases getElem?_set' hu with ⟨rfl, rfl⟩ | ⟨hj, hu'⟩
    · rcases getElem?_set' hq with ⟨rfl, _⟩ | ⟨hk, hq⟩
      · exact absurd rfl hjk
      · rcases hat with e | e
        · rw [e]; exact h.grid.apart j k v q hjk hv hq
        · rw [e]
          refine .inr fun e2 => ?_
          have := (h.grid.row k q _ hq (List.getElem?_eq_getElem (by have := (List.getElem?_eq_some_iff.1 hq).1; have := h.grid.len; omega))).lt _ e2.symm
          omega
    · rcases getElem?_set' hq with ⟨rfl, rfl⟩ | ⟨hk, hq⟩
      · rcases hat with e | e
        · rw [e]; exact h.grid.apart j k u v hjk hu' hv
        · rw [e]
          refine .inr fun e2 => ?_
          have := (h.grid.row j u _ hu' (List.getElem?_eq_getElem (by have := (List.getElem?_eq_some_iff.1 hu').1; have := h.grid.len; omega))).lt _ e2
          omega
      · exact h.grid.apart j k u q hjk hu' hq
  · intro j u k hu hk
    rcases getElem?_set' hu with ⟨rfl, rfl⟩ | ⟨hj, hu⟩
    · rcases hat with e | e
      · exact h.offr j v k hv (e.symm.trans hk)
      · rw [e] at hk; cases hk; exact .inr (by omega)
    · exact h.offr j u k hu hk
  · intro k h1 h2
    rw [hset k (by omega), hg.block k (by omega) (fun e => by have := h.offr i v k hv e.symm; omega), blk_alloc_lt' _ _ _ (by omega)]
    exact h.mid k h1 h2
  · refine ⟨hg.os.trans h.below.os, hg.tape.trans h.below.tape, hg.output.trans h.below.output, by simp [World.setCell]; omega, fun k hk => ?_⟩
    rw [hset k (by omega), hg.block k (by omega) (fun e => by have := hvl k e.symm; omega), blk_alloc_lt' _ _ _ (by omega)]
    exact h.below.block k hk
end Go.Proofs.Ytkjklnnjaiggdaa
