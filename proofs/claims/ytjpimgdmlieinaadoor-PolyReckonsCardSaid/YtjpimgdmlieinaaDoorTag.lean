/- Rows that stand side by side, told apart by a tag a block: an element appended to one of them, a cell stored into one of them; the others stay, and so does a beginning of the same row. No condition. -/
import Derived.Test.YtjpimgdmlieinaaDoorSl
import Derived.Deep.AppendLies
namespace Go.Proofs.YtjpimgdmlieinaaDoor
open Go.RowKit

/-- An element appended to a row; what a row keeps that is told apart, or is its own beginning. -/
theorem run_append_keep {P : Program} (w : World) (base : Nat) (t ty e : TypeId) (i : TypeInfo) (z : Value) (bytes : Nat) (ht : P.underlying t = some (.slice e)) (hi : P.info? e = some i) (hz : i.zero = some z)
    (hsize : i.size = 1) (hby : i.bytes = bytes) (hzs : z.cells.size = 1)
    (v : Value) (n : Nat) (xs : List Value) (hown : w.ownsRow base e 1 v n xs)
    (a : Addr) (c : Nat) (u : Value) (hnews : w.cell? (a.add 0) = some u) (h1 : u.oneCell' = true)
    (h63 : n + 1 ≤ maxLen) (hbytes : (n + 1) * bytes ≤ 140737488355328) (hbase : base ≤ w.heap.size) :
    ∃ v' w', (Builtin.append_ #[t, t] ty #[v, .slice (some a) 1 c]).run P w = .ok v' w' ∧ w'.ownsRow base e 1 v' (n + 1) (xs ++ [u]) ∧ w.grownBy w' v.ownBlock ∧ (v'.ownBlock = v.ownBlock ∨ v'.ownBlock = some w.heap.size) ∧
      ∀ n0 xs0 v0, w.ownsRow base e 1 v0 n0 xs0 → n0 ≤ n → w'.ownsRow base e 1 v0 n0 xs0 := by
  have hn1 : ∀ j (u' : Value), [u][j]? = some u' → w.cell? (a.add j) = some u' := by
    intro j u' hj
    match j, hj with
    | 0, hj =>
      simp at hj
      subst hj
      exact hnews
  have ho1 : ∀ u' ∈ [u], u'.oneCell' = true := by
    intro u' hu
    rw [List.mem_singleton] at hu
    rw [hu]
    exact h1
  obtain ⟨v', w', hr, h2, h3, _, h5⟩ := run_append_own_at (P := P) w base t ty e i z 1 bytes ht hi hz hsize hby hzs (by omega) v n xs hown a 1 c [u] (by simp) hn1 ho1 h63 hbytes hbase
  refine ⟨v', w', hr, h2, h3, h5, ?_⟩
  intro n0 xs0 v0 h0 hn0
  by_cases hne : v0.ownBlock = none ∨ v0.ownBlock ≠ v.ownBlock
  · exact h0.kept h3 hne
  · have hvb : v0.ownBlock = v.ownBlock := by
      by_cases h : v0.ownBlock = v.ownBlock
      · exact h
      · exact absurd (.inr h) hne
    refine ⟨h0.1, ?_⟩
    rcases h0.2 with h0n | ⟨g, cap0, cur0, rfl, hb0, hg0, hnc0, hcm0, hcs0, ht0⟩
    · exact .inl h0n
    · refine .inr ⟨g, cap0, ?_⟩
      rcases hown.2 with ⟨rfl, _⟩ | ⟨g1, cap, cur, rfl, hbg, hg, hnc, hcm, hcs, htake⟩
      · simp [Value.ownBlock] at hvb
      · simp [Value.ownBlock] at hvb
        subst hvb
        rw [hg] at hg0
        cases hg0
        rw [Nat.mul_one] at *
        by_cases hroom : n + 1 ≤ cap
        · have hr2 := run_append_room (P := P) w t ty e i ht hi g n cap cur0 hg a 1 c [u] (by simp [hsize]) hn1 ho1 hroom (by rw [hsize]; simp; omega)
          rw [hr] at hr2
          simp only [Result.ok.injEq] at hr2
          obtain ⟨_, rfl⟩ := hr2
          refine ⟨_, rfl, hb0, setRow_heap w g cur0 _ e _ hg, hnc0, hcm0, ?_, ?_⟩
          · simp only [List.size_toArray, List.length_append, List.length_take, List.length_drop, Array.length_toList, hsize]
            simp
            omega
          · rw [← ht0]
            simp only [hsize, Nat.mul_one]
            rw [List.append_assoc, List.take_append_of_le_length (by simp; omega), List.take_take, Nat.min_eq_left hn0]
        · have holds : ∀ j u, xs[j]? = some u → w.cell? ((⟨g, 0, none⟩ : Addr).add j) = some u := hown.cells (g := g) rfl
          have hr2 := run_append_grow (P := P) w t ty e i z ht hi hz ⟨g, 0, none⟩ n cap xs (by rw [hsize]; simpa using hown.1) holds a 1 c [u] (by simp [hsize]) hn1 (by omega) (by simp only [maxLen] at h63; omega) (growslice_fits (by omega) (by rw [hby]; exact hbytes))
          rw [hr] at hr2
          simp only [Result.ok.injEq] at hr2
          obtain ⟨_, rfl⟩ := hr2
          refine ⟨cur0, rfl, hb0, ?_, hnc0, hcm0, by omega, by rw [Nat.mul_one]; exact ht0⟩
          exact (heap_alloc_old w.drew _ (Array.getElem?_eq_some_iff.1 hg).1).trans hg

/-- A row of the call's own, in a block that bears the tag t. -/
def TR (own : Nat → Nat) (w : World) (B : Nat) (e : TypeId) (v : Value) (n : Nat) (xs : List Value) (t : Nat) : Prop := w.ownsRow B e 1 v n xs ∧ ∀ b, v.ownBlock = some b → own b = t
variable {own : Nat → Nat} {w w' : World} {B : Nat} {e : TypeId} {v : Value} {n t g cap : Nat} {xs : List Value}
theorem TR.drewN (h : TR own w B e v n xs t) (k : Nat) : TR own (w.drewN k) B e v n xs t := h
theorem TR.alloc (h : TR own w B e v n xs t) (o : Obj) : TR own (w.alloc o) B e v n xs t := ⟨h.1.alloc o, h.2⟩
theorem TR.form (h : TR own w B e v n xs t) (hn : 0 < n) : ∃ b cap, v = .slice (some ⟨b, 0, none⟩) n cap ∧ B ≤ b ∧ b < w.heap.size ∧ own b = t := by
  obtain ⟨g, cap, rfl, h1, h2⟩ := h.1.form hn
  exact ⟨g, cap, rfl, h1, h2, h.2 g rfl⟩
theorem TR.cell (h : TR own w B e (.slice (some ⟨g, 0, none⟩) n cap) n xs t) {j : Nat} {u : Value} (hj : xs[j]? = some u) : w.cell? ⟨g, j, none⟩ = some u := by
  have hl : j < n := by have := (List.getElem?_eq_some_iff.1 hj).1; have := h.1.1; omega
  rw [h.1.cellAt j (by omega)]
  exact hj
theorem TR.frozen (h : TR own w B e (.slice (some ⟨g, 0, none⟩) n cap) n xs t) (j : Nat) : w.frozen? ⟨g, j, none⟩ = false := h.1.frozenAt j
/-- A cell stored into a row of another tag. -/
theorem TR.other (h : TR own w B e v n xs t) {b j : Nat} {x : Value} (hb : own b ≠ t) : TR own (w.setCell ⟨b, j, none⟩ x) B e v n xs t := by
  refine ⟨⟨h.1.1, ?_⟩, h.2⟩
  rcases h.1.2 with h2 | ⟨g, c, cur, rfl, hbg, hg, r⟩
  · exact .inl h2
  · refine .inr ⟨g, c, cur, rfl, hbg, ?_, r⟩
    have hgb : g ≠ b := fun e2 => hb (by rw [← e2]; exact h.2 g rfl)
    have : (w.setCell ⟨b, j, none⟩ x).heap[g]? = w.heap[g]? := by
      simp [World.setCell, Array.getElem?_modify, Ne.symm hgb]
    rw [this]
    exact hg
theorem TR.stored (h : TR own w B e (.slice (some ⟨g, 0, none⟩) n cap) n xs t) (j : Nat) (x : Value) : TR own (w.setCell ⟨g, j, none⟩ x) B e (.slice (some ⟨g, 0, none⟩) n cap) n (xs.set j x) t := ⟨(h.1.stored j x).1, h.2⟩

/-- 'out = append(out, u)' on a row with a tag: the others stay. -/
theorem wpList_app_tag {P : Program} {ops : Array Oper} {rest : List Oper} {o : Oper} {a : Act} {Q : Exit → Act → World → Prop} {w0 : World} (hgd : o.guard = none) (s x : Operand) (ty : TypeId)
    (ho : o.op = .call { callee := .builtin .append, args := #[s, x], argTypes := #[ty, ty] })
    (base : Nat) (e : TypeId) (z : Value) (bytes : Nat) (ht : P.underlying ty = some (.slice e)) (hinfo : (P.info? e).map (fun i => (i.zero, i.size, i.bytes)) = some (some z, 1, bytes)) (hz : z.cells.size = 1)
    (own : Nat → Nat) (t : Nat) (v : Value) (n : Nat) (xs : List Value) (u : Value) (hs : a.eval s = v) (hx : a.eval x = .slice (some ⟨w0.heap.size, 0, none⟩) 1 1) (hu : u.oneCell' = true)
    (hown : TR own w0 base e v n xs t) (hbytes : (n + 1) * bytes ≤ 140737488355328) (h63 : n + 1 ≤ maxLen) (hbase : base ≤ w0.heap.size)
    (h : ∀ own' v' w', TR own' w' base e v' (n + 1) (xs ++ [u]) t → (∀ e0 v0 n0 xs0 t0, TR own w0 base e0 v0 n0 xs0 t0 → (t0 ≠ t ∨ e0 = e ∧ n0 ≤ n) → TR own' w' base e0 v0 n0 xs0 t0) → Below base w0 w' → wpList P ops Q rest (a.put o.dst v') w') : wpList P ops Q (o :: rest) a (w0.alloc (.cells #[u] e)) := by
  obtain ⟨i, hi, hz0, hz1, hz2⟩ := info_parts hinfo
  refine wpList_plain hgd fun K hK => ?_
  obtain ⟨v', w', hr, h2, h3, h5, h6⟩ := run_append_keep (P := P) (w0.alloc (.cells #[u] e)) base ty o.type e i z bytes ht hi hz0 hz1 hz2 hz v n xs (hown.1.alloc _) ⟨w0.heap.size, 0, none⟩ 1 u (by simp [Addr.add]) hu h63 hbytes (by simp; omega)
  unfold Oper.wp execOp
  simp only [ho, resolve, invoke, builtin, Sem.run_bind, Sem.run_pure, Result.andThen_ok, List.map_toArray, List.map_cons, List.map_nil, hs, hx, hr]
  have hbl : Below base w0 w' := ((Below.refl base w0).alloc hbase _).grown h3 (by simp; omega) (fun k hk => ((hown.1.alloc (.cells #[u] e)).lt k hk).1)
  have hlt : ∀ k, v.ownBlock = some k → k < w0.heap.size := fun k hk => (hown.1.lt k hk).2
  refine hK _ _ (h (fun b => if b < w0.heap.size then own b else t) v' w' ⟨h2, fun b hb => ?_⟩ ?_ hbl)
  · rcases h5 with h5 | h5
    · rw [h5] at hb
      show (if b < w0.heap.size then own b else t) = t
      rw [if_pos (hlt b hb)]
      exact hown.2 b hb
    · rw [h5] at hb
      cases hb
      show (if (w0.alloc (.cells #[u] e)).heap.size < w0.heap.size then own _ else t) = t
      rw [if_neg (by simp)]
  · intro e0 v0 n0 xs0 t0 h0 hc
    refine ⟨?_, fun b hb => by show (if b < w0.heap.size then own b else t) = t0; rw [if_pos (h0.1.lt b hb).2]; exact h0.2 b hb⟩
    by_cases htt : t0 = t
    · rcases hc with hc | ⟨rfl, hc⟩
      · exact absurd htt hc
      · exact h6 n0 xs0 v0 (h0.1.alloc _) hc
    · refine (h0.1.alloc _).kept h3 ?_
      cases hb : v0.ownBlock with
      | none => exact .inl rfl
      | some b =>
        refine .inr fun e2 => htt ?_
        rw [← h0.2 b hb]
        exact hown.2 b e2.symm
end Go.Proofs.YtjpimgdmlieinaaDoor
