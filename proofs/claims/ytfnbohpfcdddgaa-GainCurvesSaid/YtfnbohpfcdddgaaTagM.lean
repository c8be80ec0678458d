/- Rows that stand side by side, told apart by a tag a block: an element appended to one of them, a cell stored into one of them; the others stay, and so does a beginning of the same row. No condition. The kit's functions that write lists of numbers over, and look whether they lie apart. Conditions: lengths as the reach has them. Lists written over and gone on with, side by side: what holds. No condition. Do lists lie apart? The kit's function returns true. Conditions: lengths as the reach has them. -/
import Derived.Test.YtfnbohpfcdddgaaSl
import Derived.Deep.AppendLies
import Derived.Test.YtfnbohpfcdddgaaKitCM
import Derived.Deep.RegionLaw
namespace Go.Proofs.Ytfnbohpfcdddgaa
open Go.RowKit

/-- An element appended to a row; what a row keeps that is told apart, or is its own beginning. -/
theorem run_append_keep {P : Program} (w : World) (base : Nat) (t ty e : TypeId) (i : TypeInfo) (z : Value) (bytes : Nat) (ht : P.underlying t = some (.slice e)) (hi : P.info? e = some i) (hz : i.zero = some z)
    (hsize : i.size = 1) (hby : i.bytes = bytes) (hzs : z.cells.size = 1)
    (v : Value) (n : Nat) (xs : List Value) (hown : w.ownsRow base e 1 v n xs)
    (a : Addr) (c : Nat) (u : Value) (hnews : w.cell? (a.add 0) = some u) (h1 : u.oneCell' = true)
    (h63 : n + 1 ≤ maxLen) (hbytes : (n + 1) * bytes ≤ 140737488355328) (hbase : base ≤ w.heap.size) :
    ∃ v' w', (Builtin.append_ #[t, t] ty #[v, .slice (some a) 1 c]).run P w = .ok v' w' ∧ w'.ownsRow base e 1 v' (n + 1) (xs ++ [u]) ∧ w.grownBy w' v.ownBlock ∧ (v'.ownBlock = v.ownBlock ∨ v'.ownBlock = some w.heap.size) ∧
      ∀ n0 xs0 v0, w.ownsRow base e 1 v0 n0 xs0 → n0 ≤ n → w'.ownsRow base e 1 v0 n0 xs0 := by
  have hn1 : ∀ j (u' : Value), [u][j]? = some u' → w.cell? (a.add j) = some u' := by
    intro j u' hj
    match j, hj with
    | 0, hj =>
      simp at hj
      subst hj
      exact hnews
  have ho1 : ∀ u' ∈ [u], u'.oneCell' = true := by
    intro u' hu
    rw [List.mem_singleton] at hu
    rw [hu]
    exact h1
  obtain ⟨v', w', hr, h2, h3, _, h5⟩ := run_append_own_at (P := P) w base t ty e i z 1 bytes ht hi hz hsize hby hzs (by omega) v n xs hown a 1 c [u] (by simp) hn1 ho1 h63 hbytes hbase
  refine ⟨v', w', hr, h2, h3, h5, ?_⟩
  intro n0 xs0 v0 h0 hn0
  by_cases hne : v0.ownBlock = none ∨ v0.ownBlock ≠ v.ownBlock
  · exact h0.kept h3 hne
  · have hvb : v0.ownBlock = v.ownBlock := by
      by_cases h : v0.ownBlock = v.ownBlock
      · exact h
      · exact absurd (.inr h) hne
    refine ⟨h0.1, ?_⟩
    rcases h0.2 with h0n | ⟨g, cap0, cur0, rfl, hb0, hg0, hnc0, hcm0, hcs0, ht0⟩
    · exact .inl h0n
    · refine .inr ⟨g, cap0, ?_⟩
      rcases hown.2 with ⟨rfl, _⟩ | ⟨g1, cap, cur, rfl, hbg, hg, hnc, hcm, hcs, htake⟩
      · simp [Value.ownBlock] at hvb
      · simp [Value.ownBlock] at hvb
        subst hvb
        rw [hg] at hg0
        cases hg0
        rw [Nat.mul_one] at *
        by_cases hroom : n + 1 ≤ cap
        · have hr2 := run_append_room (P := P) w t ty e i ht hi g n cap cur0 hg a 1 c [u] (by simp [hsize]) hn1 ho1 hroom (by rw [hsize]; simp; omega)
          rw [hr] at hr2
          simp only [Result.ok.injEq] at hr2
          obtain ⟨_, rfl⟩ := hr2
          refine ⟨_, rfl, hb0, setRow_heap w g cur0 _ e _ hg, hnc0, hcm0, ?_, ?_⟩
          · simp only [List.size_toArray, List.length_append, List.length_take, List.length_drop, Array.length_toList, hsize]
            simp
            omega
          · rw [← ht0]
            simp only [hsize, Nat.mul_one]
            rw [List.append_assoc, List.take_append_of_le_length (by simp; omega), List.take_take, Nat.min_eq_left hn0]
        · have holds : ∀ j u, xs[j]? = some u → w.cell? ((⟨g, 0, none⟩ : Addr).add j) = some u := hown.cells (g := g) rfl
          have hr2 := run_append_grow (P := P) w t ty e i z ht hi hz ⟨g, 0, none⟩ n cap xs (by rw [hsize]; simpa using hown.1) holds a 1 c [u] (by simp [hsize]) hn1 (by omega) (by simp only [maxLen] at h63; omega) (growslice_fits (by omega) (by rw [hby]; exact hbytes))
          rw [hr] at hr2
          simp only [Result.ok.injEq] at hr2
          obtain ⟨_, rfl⟩ := hr2
          refine ⟨cur0, rfl, hb0, ?_, hnc0, hcm0, by omega, by rw [Nat.mul_one]; exact ht0⟩
          exact (heap_alloc_old w.drew _ (Array.getElem?_eq_some_iff.1 hg).1).trans hg

/-- A row of the call's own, in a block that bears the tag t. -/
def TR (own : Nat → Nat) (w : World) (B : Nat) (e : TypeId) (v : Value) (n : Nat) (xs : List Value) (t : Nat) : Prop := w.ownsRow B e 1 v n xs ∧ ∀ b, v.ownBlock = some b → own b = t
variable {own : Nat → Nat} {w w' : World} {B : Nat} {e : TypeId} {v : Value} {n t g cap : Nat} {xs : List Value}
theorem TR.drewN (h : TR own w B e v n xs t) (k : Nat) : TR own (w.drewN k) B e v n xs t := h
theorem TR.alloc (h : TR own w B e v n xs t) (o : Obj) : TR own (w.alloc o) B e v n xs t := ⟨h.1.alloc o, h.2⟩
theorem TR.form (h : TR own w B e v n xs t) (hn : 0 < n) : ∃ b cap, v = .slice (some ⟨b, 0, none⟩) n cap ∧ B ≤ b ∧ b < w.heap.size ∧ own b = t := by
  obtain ⟨g, cap, rfl, h1, h2⟩ := h.1.form hn
  exact ⟨g, cap, rfl, h1, h2, h.2 g rfl⟩
theorem TR.cell (h : TR own w B e (.slice (some ⟨g, 0, none⟩) n cap) n xs t) {j : Nat} {u : Value} (hj : xs[j]? = some u) : w.cell? ⟨g, j, none⟩ = some u := by
  have hl : j < n := by have := (List.getElem?_eq_some_iff.1 hj).1; have := h.1.1; omega
  rw [h.1.cellAt j (by omega)]
  exact hj
theorem TR.frozen (h : TR own w B e (.slice (some ⟨g, 0, none⟩) n cap) n xs t) (j : Nat) : w.frozen? ⟨g, j, none⟩ = false := h.1.frozenAt j
/-- A cell stored into a row of another tag. -/
theorem TR.other (h : TR own w B e v n xs t) {b j : Nat} {x : Value} (hb : own b ≠ t) : TR own (w.setCell ⟨b, j, none⟩ x) B e v n xs t := by
  refine ⟨⟨h.1.1, ?_⟩, h.2⟩
  rcases h.1.2 with h2 | ⟨g, c, cur, rfl, hbg, hg, r⟩
  · exact .inl h2
  · refine .inr ⟨g, c, cur, rfl, hbg, ?_, r⟩
    have hgb : g ≠ b := fun e2 => hb (by rw [← e2]; exact h.2 g rfl)
    have : (w.setCell ⟨b, j, none⟩ x).heap[g]? = w.heap[g]? := by
      simp [World.setCell, Array.getElem?_modify, Ne.symm hgb]
    rw [this]
    exact hg
theorem TR.stored (h : TR own w B e (.slice (some ⟨g, 0, none⟩) n cap) n xs t) (j : Nat) (x : Value) : TR own (w.setCell ⟨g, j, none⟩ x) B e (.slice (some ⟨g, 0, none⟩) n cap) n (xs.set j x) t := ⟨(h.1.stored j x).1, h.2⟩

/-- 'out = append(out, u)' on a row with a tag: the others stay. -/
theorem wpList_app_tag {P : Program} {ops : Array Oper} {rest : List Oper} {o : Oper} {a : Act} {Q : Exit → Act → World → Prop} {w0 : World} (hgd : o.guard = none) (s x : Operand) (ty : TypeId)
    (ho : o.op = .call { callee := .builtin .append, args := #[s, x], argTypes := #[ty, ty] })
    (base : Nat) (e : TypeId) (z : Value) (bytes : Nat) (ht : P.underlying ty = some (.slice e)) (hinfo : (P.info? e).map (fun i => (i.zero, i.size, i.bytes)) = some (some z, 1, bytes)) (hz : z.cells.size = 1)
    (own : Nat → Nat) (t : Nat) (v : Value) (n : Nat) (xs : List Value) (u : Value) (hs : a.eval s = v) (hx : a.eval x = .slice (some ⟨w0.heap.size, 0, none⟩) 1 1) (hu : u.oneCell' = true)
    (hown : TR own w0 base e v n xs t) (hbytes : (n + 1) * bytes ≤ 140737488355328) (h63 : n + 1 ≤ maxLen) (hbase : base ≤ w0.heap.size)
    (h : ∀ own' v' w', TR own' w' base e v' (n + 1) (xs ++ [u]) t → (∀ e0 v0 n0 xs0 t0, TR own w0 base e0 v0 n0 xs0 t0 → (t0 ≠ t ∨ e0 = e ∧ n0 ≤ n) → TR own' w' base e0 v0 n0 xs0 t0) → Below base w0 w' → wpList P ops Q rest (a.put o.dst v') w') : wpList P ops Q (o :: rest) a (w0.alloc (.cells #[u] e)) := by
  obtain ⟨i, hi, hz0, hz1, hz2⟩ := info_parts hinfo
  refine wpList_plain hgd fun K hK => ?_
  obtain ⟨v', w', hr, h2, h3, h5, h6⟩ := run_append_keep (P := P) (w0.alloc (.cells #[u] e)) base ty o.type e i z bytes ht hi hz0 hz1 hz2 hz v n xs (hown.1.alloc _) ⟨w0.heap.size, 0, none⟩ 1 u (by simp [Addr.add]) hu h63 hbytes (by simp; omega)
  unfold Oper.wp execOp
  simp only [ho, resolve, invoke, builtin, Sem.run_bind, Sem.run_pure, Result.andThen_ok, List.map_toArray, List.map_cons, List.map_nil, hs, hx, hr]
  have hbl : Below base w0 w' := ((Below.refl base w0).alloc hbase _).grown h3 (by simp; omega) (fun k hk => ((hown.1.alloc (.cells #[u] e)).lt k hk).1)
  have hlt : ∀ k, v.ownBlock = some k → k < w0.heap.size := fun k hk => (hown.1.lt k hk).2
  refine hK _ _ (h (fun b => if b < w0.heap.size then own b else t) v' w' ⟨h2, fun b hb => ?_⟩ ?_ hbl)
  · rcases h5 with h5 | h5
    · rw [h5] at hb
      show (if b < w0.heap.size then own b else t) = t
      rw [if_pos (hlt b hb)]
      exact hown.2 b hb
    · rw [h5] at hb
      cases hb
      show (if (w0.alloc (.cells #[u] e)).heap.size < w0.heap.size then own _ else t) = t
      rw [if_neg (by simp)]
  · intro e0 v0 n0 xs0 t0 h0 hc
    refine ⟨?_, fun b hb => by show (if b < w0.heap.size then own b else t) = t0; rw [if_pos (h0.1.lt b hb).2]; exact h0.2 b hb⟩
    by_cases htt : t0 = t
    · rcases hc with hc | ⟨rfl, hc⟩
      · exact absurd htt hc
      · exact h6 n0 xs0 v0 (h0.1.alloc _) hc
    · refine (h0.1.alloc _).kept h3 ?_
      cases hb : v0.ownBlock with
      | none => exact .inl rfl
      | some b =>
        refine .inr fun e2 => htt ?_
        rw [← h0.2 b hb]
        exact hown.2 b e2.symm
end Go.Proofs.Ytfnbohpfcdddgaa

namespace Go.Proofs.Ytfnbohpfcdddgaa
open Go.RowKit

/-- Nothing but the row v is written. -/
structure Oth (w w' : World) (v : Value) : Prop where
  os : w'.os = w.os
  tape : w'.tape = w.tape
  output : w'.output = w.output
  size : w'.heap.size = w.heap.size
  block : ∀ g, v.ownBlock ≠ some g → w'.heap[g]? = w.heap[g]?
theorem Oth.refl (w : World) (v : Value) : Oth w w v := ⟨rfl, rfl, rfl, rfl, fun _ _ => rfl⟩
theorem Oth.set {w w' : World} {b n cap j nd : Nat} {x : Value} (h : Oth w w' (.slice (some ⟨b, 0, none⟩) n cap)) : Oth w ((w'.drewN nd).setCell ⟨b, j, none⟩ x) (.slice (some ⟨b, 0, none⟩) n cap) := by
  refine ⟨h.os, h.tape, h.output, by simpa [World.setCell] using h.size, fun g hg => ?_⟩
  have hgb : b ≠ g := fun e => hg (by simp [Value.ownBlock, e])
  rw [← h.block g hg]
  simp [World.setCell, Array.getElem?_modify, hgb]
def OverLoop (B : Nat) (w : World) (v : Value) (n : Nat) (i : Value) (wr : World) : Prop := ∃ (k : Nat) (l : List Z), i = .int .i64 k ∧ k ≤ n ∧ l.length = n ∧ wr.ownsRow B 63 1 v n (l.map C) ∧ Oth w wr v
end Go.Proofs.Ytfnbohpfcdddgaa

namespace Go.Proofs.Ytfnbohpfcdddgaa
open Go.RowKit

/-- The mark i of the list k, as a value. -/
def mkC (k i : Nat) : CV := (markV ((k : Int) + 10) (i : Int), markW ((k : Int) + 10))
/-- The first m of the list k are its marks. -/
def MkUp (k : Nat) (r : List Z) (m : Nat) : Prop := ∀ (i : Nat) (z : Z), i < m → r[i]? = some z → zv z = mkC k i
theorem MkUp.snoc {k : Nat} {r : List Z} {z : Z} (h : MkUp k r r.length) (hz : zv z = mkC k r.length) : MkUp k (r ++ [z]) (r ++ [z]).length := by
  intro i y hi hy
  by_cases h2 : i < r.length
  · rw [List.getElem?_append_left h2] at hy
    exact h i y h2 hy
  · simp at hi
    obtain rfl : i = r.length := by omega
    simp at hy
    subst hy
    exact hz
theorem MkUp.set {k m : Nat} {r : List Z} {z : Z} (h : MkUp k r m) (hz : zv z = mkC k m) : MkUp k (r.set m z) (m + 1) := by
  intro i y hi hy
  rw [List.getElem?_set] at hy
  split at hy
  · rename_i e
    subst e
    split at hy
    · cases hy; exact hz
    · cases hy
  · rename_i e
    exact h i y (by omega) hy
/-- The rows of the lists vs; the list of them. -/
structure A1 (B : Nat) (own : Nat → Nat) (w0 : World) (V : Value) (vs : List Value) (rs : List (List Z)) (wr : World) : Prop where
  len : rs.length = vs.length
  out : TR own wr B 41 V vs.length vs 100
  row : ∀ (j : Nat) v r, vs[j]? = some v → rs[j]? = some r → TR own wr B 63 v r.length (r.map C) j
  small : ∀ (j : Nat) r, rs[j]? = some r → r.length ≤ 100000
  bl : Below B w0 wr
theorem A1.drewN {B : Nat} {own : Nat → Nat} {w0 wr : World} {V : Value} {vs : List Value} {rs : List (List Z)} (h : A1 B own w0 V vs rs wr) (n : Nat) : A1 B own w0 V vs rs (wr.drewN n) := ⟨h.len, h.out, h.row, h.small, below_drewN' h.bl n⟩
theorem A1.set {B : Nat} {own : Nat → Nat} {w0 wr : World} {V : Value} {vs : List Value} {rs : List (List Z)} (h : A1 B own w0 V vs rs wr) (hvs : vs.length ≤ 50) {k b n cap i x y nd : Nat} {r : List Z} (hv : vs[k]? = some (.slice (some ⟨b, 0, none⟩) n cap)) (hr : rs[k]? = some r) : A1 B own w0 V vs (rs.set k (r.set i (x, y))) ((wr.drewN nd).setCell ⟨b, i, none⟩ (.complex .f64 x y)) := by
  have hrow := h.row k _ r hv hr
  have hob : own b = k := hrow.2 b rfl
  have hB : B ≤ b := (hrow.1.lt b rfl).1
  have hk : k < vs.length := (List.getElem?_eq_some_iff.1 hv).1
  have hn : n = r.length := by
    rcases hrow.1.2 with ⟨e, _⟩ | ⟨g, c, cur, e, _⟩
    · cases e
    · cases e; rfl
  subst hn
  refine ⟨by rw [List.length_set]; exact h.len, (h.out.drewN nd).other (by omega), ?_, ?_, (below_drewN' h.bl nd).setCell hB _⟩
  · intro j v q hj hq
    by_cases hjk : j = k
    · subst hjk
      rw [hv] at hj
      cases hj
      rw [List.getElem?_set_self (by have := h.len; omega)] at hq
      cases hq
      have := (hrow.drewN nd).stored i (.complex .f64 x y)
      rw [List.length_set, List.map_set]
      exact this
    · rw [List.getElem?_set_ne (by omega)] at hq
      exact ((h.row j v q hj hq).drewN nd).other (by omega)
  · intro j q hq
    by_cases hjk : j = k
    · subst hjk
      rw [List.getElem?_set_self (by have := h.len; omega)] at hq
      cases hq
      rw [List.length_set]
      exact h.small j r hr
    · rw [List.getElem?_set_ne (by omega)] at hq
      exact h.small j q hq
def L1o (B : Nat) (own : Nat → Nat) (w0 : World) (V : Value) (vs : List Value) (k : Value) (wr : World) : Prop := ∃ (m : Nat) (rs : List (List Z)), k = .int .i64 m ∧ m ≤ vs.length ∧ A1 B own w0 V vs rs wr ∧ ∀ (j : Nat) r, j < m → rs[j]? = some r → MkUp j r r.length
def L1i (B : Nat) (own : Nat → Nat) (w0 : World) (V : Value) (vs : List Value) (m n : Nat) (i : Value) (wr : World) : Prop := ∃ (p : Nat) (rs : List (List Z)) (r : List Z), i = .int .i64 p ∧ p ≤ n ∧ r.length = n ∧ rs[m]? = some r ∧ A1 B own w0 V vs rs wr ∧ (∀ (j : Nat) r, j < m → rs[j]? = some r → MkUp j r r.length) ∧ MkUp m r p
/-- The rows, and those that were gone on with. -/
structure A2 (B : Nat) (own : Nat → Nat) (w0 : World) (V : Value) (vs : List Value) (rs : List (List Z)) (GV : Value) (gs : List Value) (gr : List (List Z)) (wr : World) : Prop where
  a1 : A1 B own w0 V vs rs wr
  len : gr.length = gs.length
  out : TR own wr B 41 GV gs.length gs 101
  row : ∀ (j : Nat) v r, gs[j]? = some v → gr[j]? = some r → TR own wr B 63 v r.length (r.map C) j
  small : ∀ (j : Nat) r, gr[j]? = some r → r.length ≤ 200000
  marks : ∀ (j : Nat) r, rs[j]? = some r → MkUp j r r.length
  gmarks : ∀ (j : Nat) r, gr[j]? = some r → MkUp j r r.length
theorem A2.drewN {B : Nat} {own : Nat → Nat} {w0 wr : World} {V GV : Value} {vs gs : List Value} {rs gr : List (List Z)} (h : A2 B own w0 V vs rs GV gs gr wr) (n : Nat) : A2 B own w0 V vs rs GV gs gr (wr.drewN n) := ⟨h.a1.drewN n, h.len, h.out, h.row, h.small, h.marks, h.gmarks⟩
/-- A row is gone on with. -/
theorem A2.step {B : Nat} {own own' : Nat → Nat} {w0 wr w' : World} {V GV : Value} {vs gs : List Value} {rs gr : List (List Z)} (h : A2 B own w0 V vs rs GV gs gr wr) {m n : Nat} (hm : gs.length = m) (hm5 : vs.length ≤ 50) (hgm : m < vs.length) {q : List Z} (hq : rs[m]? = some q) (hqn : q.length ≤ n)
    (hk : ∀ e0 v0 n0 xs0 t0, TR own wr B e0 v0 n0 xs0 t0 → (t0 ≠ m ∨ e0 = 63 ∧ n0 ≤ n) → TR own' w' B e0 v0 n0 xs0 t0) (hb : Below B wr w') : A2 B own' w0 V vs rs GV gs gr w' := by
  refine ⟨⟨h.a1.len, hk _ _ _ _ _ h.a1.out (.inl (by omega)), fun j v r hv hr => ?_, h.a1.small, h.a1.bl.trans hb⟩, h.len, hk _ _ _ _ _ h.out (.inl (by omega)), fun j v r hv hr => ?_, h.small, h.marks, h.gmarks⟩
  · refine hk _ _ _ _ _ (h.a1.row j v r hv hr) ?_
    by_cases hjm : j = m
    · subst hjm
      rw [hq] at hr
      cases hr
      exact .inr ⟨rfl, hqn⟩
    · exact .inl hjm
  · refine hk _ _ _ _ _ (h.row j v r hv hr) (.inl ?_)
    have := (List.getElem?_eq_some_iff.1 hv).1
    omega
/-- It is laid beside the others. -/
theorem A2.push {B : Nat} {own own' : Nat → Nat} {w0 wr w' : World} {V GV GV' g : Value} {vs gs : List Value} {rs gr : List (List Z)} {r : List Z} (h : A2 B own w0 V vs rs GV gs gr wr) (hgm : gs.length < vs.length) (hm5 : vs.length ≤ 50) (hg : TR own wr B 63 g r.length (r.map C) gs.length) (hrs : r.length ≤ 200000) (hmk : MkUp gs.length r r.length)
    (hout : TR own' w' B 41 GV' (gs.length + 1) (gs ++ [g]) 101)
    (hk : ∀ e0 v0 n0 xs0 t0, TR own wr B e0 v0 n0 xs0 t0 → (t0 ≠ 101 ∨ e0 = 41 ∧ n0 ≤ gs.length) → TR own' w' B e0 v0 n0 xs0 t0) (hb : Below B wr w') : A2 B own' w0 V vs rs GV' (gs ++ [g]) (gr ++ [r]) w' := by
  have hl := h.len
  refine ⟨⟨h.a1.len, hk _ _ _ _ _ h.a1.out (.inl (by omega)), fun j v r hv hr => ?_, h.a1.small, h.a1.bl.trans hb⟩, by simp [hl], by rw [List.length_append]; exact hout, fun j v q hv hq => ?_, fun j q hq => ?_, h.marks, fun j q hq => ?_⟩
  · refine hk _ _ _ _ _ (h.a1.row j v r hv hr) (.inl ?_)
    have := (List.getElem?_eq_some_iff.1 hv).1
    omega
  · by_cases hj : j < gs.length
    · rw [List.getElem?_append_left hj] at hv
      rw [List.getElem?_append_left (by omega)] at hq
      exact hk _ _ _ _ _ (h.row j v q hv hq) (.inl (by omega))
    · have h1 := (List.getElem?_eq_some_iff.1 hv).1
      simp at h1
      obtain rfl : j = gs.length := by omega
      rw [List.getElem?_append_right (by omega)] at hv hq
      simp [hl] at hv hq
      subst hv hq
      exact hk _ _ _ _ _ hg (.inl (by omega))
  · by_cases hj : j < gs.length
    · rw [List.getElem?_append_left (by omega)] at hq
      exact h.small j q hq
    · have h1 := (List.getElem?_eq_some_iff.1 hq).1
      simp at h1
      obtain rfl : j = gs.length := by omega
      rw [List.getElem?_append_right (by omega)] at hq
      simp [hl] at hq
      subst hq
      exact hrs
  · by_cases hj : j < gs.length
    · rw [List.getElem?_append_left (by omega)] at hq
      exact h.gmarks j q hq
    · have h1 := (List.getElem?_eq_some_iff.1 hq).1
      simp at h1
      obtain rfl : j = gs.length := by omega
      rw [List.getElem?_append_right (by omega)] at hq
      simp [hl] at hq
      subst hq
      exact hmk
def L2o (B : Nat) (w0 : World) (V : Value) (vs : List Value) (k GV : Value) (wr : World) : Prop := ∃ (own : Nat → Nat) (m : Nat) (rs : List (List Z)) (gs : List Value) (gr : List (List Z)), k = .int .i64 m ∧ m ≤ vs.length ∧ gs.length = m ∧ A2 B own w0 V vs rs GV gs gr wr
def L2i (B : Nat) (w0 : World) (V : Value) (vs : List Value) (rs : List (List Z)) (GV : Value) (gs : List Value) (gr : List (List Z)) (m n : Nat) (g i : Value) (wr : World) : Prop := ∃ (own : Nat → Nat) (p : Nat) (r : List Z), i = .int .i64 p ∧ p ≤ 6 ∧ r.length = n + p ∧ A2 B own w0 V vs rs GV gs gr wr ∧ TR own wr B 63 g r.length (r.map C) m ∧ MkUp m r r.length
theorem info_cs : (Try.prog.info? 41).map (fun i => (i.zero, i.size, i.bytes)) = some (some (.slice none 0 0), 1, 24) := by kernel_rfl
theorem TR.shape {own : Nat → Nat} {w : World} {B : Nat} {e : TypeId} {v : Value} {n t : Nat} {xs : List Value} (h : TR own w B e v n xs t) : ∃ a cap, v = .slice a n cap := by
  rcases h.1.2 with ⟨rfl, rfl⟩ | ⟨g, cap, cur, rfl, _⟩
  · exact ⟨_, _, rfl⟩
  · exact ⟨_, _, rfl⟩
end Go.Proofs.Ytfnbohpfcdddgaa

namespace Go.Proofs.Ytfnbohpfcdddgaa
open Go.RowKit

theorem ofInt_nan (n : Int) : nanB (ofInt n) = false := (write_not_nan (.number (decide (n < 0)) n.natAbs 0) rfl).1
theorem sub_some {a c : Nat} {s : Bool} {m : Nat} {i : Int} (ha : nanB a = false) (hc : Ieee.double.read c = .number s m i) : ∃ r, fsub (val a) (val c) = some r := by
  rw [fsub, val_fop]
  rw [← read_nan] at ha
  show ∃ r, ((Ieee.double.read a).sum (Ieee.double.read c).opposite).map Ieee.double.write = some r
  rw [hc]
  cases hr : Ieee.double.read a with
  | nan => rw [hr] at ha; cases ha
  | infinity s => exact ⟨_, rfl⟩
  | number s m i => exact ⟨_, rfl⟩
theorem markV_some (k i : Int) : ∃ r, markV k i = some r := by
  unfold markV
  refine sub_some (s := false) (m := 8444249301319680) (i := -50) (ofInt_nan _) ?_
  decide +kernel
/-- A mark's words. -/
def mkx (k i : Int) : Nat := (markV k i).getD 0
theorem mkx_val (k i : Int) : markV k i = some (mkx k i) := by
  obtain ⟨r, hr⟩ := markV_some k i
  unfold mkx
  rw [hr]
  rfl
theorem mk_cv (k i : Int) : cv (mkx k i) (ofInt k) = (markV k i, markW k) := by
  have h := mkx_val k i
  unfold cv
  congr 1
  obtain ⟨w, x, hx⟩ : ∃ (w : Unit) (x : Nat), markV k i = val x := ⟨(), _, by unfold markV fsub; rw [val_fop]; exact (by
    rw [markV, fsub, val_fop] at h
    rw [h, val_some (floatBits_parts h).2.2.1])⟩
  rw [h] at hx
  rw [h]
  unfold val at hx ⊢
  split at hx
  · cases hx
  · rename_i hn
    cases hx
    simp only [hn]
    rfl
theorem markNumbers_det (k i : Int) (w : World) (hk0 : 0 ≤ k) (hk : k ≤ 1000) (hi0 : 0 ≤ i) (hi : i ≤ 9007199254740992) : Calls Try.prog 39 #[.int .i64 k, .int .i64 i] w fun e w' => e = .returned (.complex .f64 (mkx k i) (ofInt k)) ∧ ∃ m, w' = w.drewN m := by
  refine (markNumbers_any k i w hk0 hk hi0 hi).mono ?_
  rintro e w' ⟨x, y, rfl, hd, hxy, _, _⟩
  refine ⟨?_, hd⟩
  have e1 : x = mkx k i := val_inj ((congrArg Prod.fst hxy).trans (mkx_val k i))
  have e2 : y = ofInt k := val_inj ((congrArg Prod.snd hxy).trans (val_some (ofInt_nan k)))
  rw [e1, e2]
theorem kSame_true {a b c d : Nat} (h : cv a b = cv c d) (w : World) : Calls Try.prog 42 #[.complex .f64 a b, .complex .f64 c d] w fun e w' => e = .returned (.bool true) ∧ w' = w := by
  refine (kSame_any a b c d w).mono ?_
  rintro e w' ⟨rfl, rfl⟩
  rw [csame_iff, decide_eq_true h]
  exact ⟨rfl, rfl⟩
theorem Dr.cell {w w' : World} (h : Dr w w') (a : Addr) : w'.cell? a = w.cell? a := by
  obtain ⟨n, rfl⟩ := h
  rfl
theorem mk_same {k i : Nat} {z : Z} {x y : Nat} (h : zv z = mkC k i) (hx : cv x y = mkC k i) : csame (cv z.1 z.2) (cv x y) = true := by
  rw [csame_iff, decide_eq_true_eq, hx]
  exact h
theorem mk_same2 {k i : Nat} {z y : Z} (h : zv z = mkC k i) (hy : zv y = mkC k i) : csame (cv z.1 z.2) (cv y.1 y.2) = true := by
  rw [csame_iff, decide_eq_true_eq]
  exact h.trans hy.symm
def L3o (w0 : World) (n : Nat) (k : Value) (wr : World) : Prop := ∃ m : Nat, k = .int .i64 m ∧ m ≤ n ∧ Dr w0 wr
def L3i (w0 : World) (n : Nat) (i : Value) (wr : World) : Prop := ∃ p : Nat, i = .int .i64 p ∧ p ≤ n ∧ Dr w0 wr

set_option maxRecDepth 100000 in
set_option maxHeartbeats 8000000 in
theorem ApartNumbers_any (B : Nat) (own : Nat → Nat) (w : World) (V : Value) (vs : List Value) (rs : List (List Z)) (h5 : vs.length ≤ 50) (hA : A1 B own w V vs rs w) (hBw : B ≤ w.heap.size) :
    Calls Try.prog 20 #[V] w fun e w' => e = .returned (.bool true) ∧ Below B w w' := by
  obtain ⟨Va, Vc, rfl⟩ := hA.out.shape
  obtain ⟨N, hN⟩ : ∃ N, N = vs.length := ⟨_, rfl⟩
  have HN := hid hN
  have hN5 : N ≤ 50 := by omega
  rw [← hN]
  go_enter Try.func20, Try.ntmps20
  go_wp2
  go_loopw [3] (fun k w' => L1o B own w (.slice Va N Vc) vs k w') (fun k _ => N + 1 - (intOf k).toNat)
  case atStart => exact ⟨0, rs, rfl, by omega, by rw [hN]; exact hA, fun j r h => by omega⟩
  case round =>
    obtain ⟨m, rs1, rfl, hm, hA1, hM⟩ := hrel
    clear hA hN
    by_cases hmN : m < N
    · obtain ⟨v, hv⟩ : ∃ v, vs[m]? = some v := ⟨_, List.getElem?_eq_getElem (by have := HN.out; omega)⟩
      obtain ⟨r, hr⟩ : ∃ r, rs1[m]? = some r := ⟨_, List.getElem?_eq_getElem (by have := HN.out; have := hA1.len; omega)⟩
      obtain ⟨gV, cV, eV, -⟩ := hA1.out.form (by have := HN.out; omega)
      obtain ⟨rfl, rfl⟩ : Va = some ⟨gV, 0, none⟩ ∧ Vc = cV := by injection eV with e1 e2 e3; exact ⟨e1, e3⟩
      clear eV
      obtain ⟨va, vc, rfl⟩ := (hA1.row m v r hv hr).shape
      have hcV : wr.cell? ⟨gV, m, none⟩ = some (.slice va r.length vc) := TR.cell (by have := hA1.out; rw [← HN.out] at this; exact this) hv
      have hrl := hA1.small m r hr
      obtain ⟨n, hn⟩ : ∃ n, n = r.length := ⟨_, rfl⟩
      rw [← hn] at hcV hrl hv
      have H1 := hid (show L1i B own w (.slice (some ⟨gV, 0, none⟩) N Vc) vs m n (.int .i64 0) wr from ⟨0, rs1, r, rfl, by omega, hn.symm, hr, hA1, hM, fun i z h => by omega⟩)
      have HV := hid hv
      clear hM hA1 hr hv hn
      go_wp2
      go_loopw [4] (fun i w' => L1i B own w (.slice (some ⟨gV, 0, none⟩) N Vc) vs m n i w') (fun i _ => n + 1 - (intOf i).toNat)
      case atStart => exact H1.out
      case round =>
        obtain ⟨p, rs2, r2, rfl, hp, hrn, hr2, hA2, hM2, hMk⟩ := hrel
        clear H1 hcV
        have hcV : wr.cell? ⟨gV, m, none⟩ = some (.slice va n vc) := TR.cell (by have := hA2.out; rw [← HN.out] at this; exact this) HV.out
        by_cases hpn : p < n
        · obtain ⟨b, vc', e1, -⟩ := (hA2.row m _ r2 HV.out hr2).form (by omega)
          obtain ⟨rfl, rfl⟩ : va = some ⟨b, 0, none⟩ ∧ vc = vc' := by injection e1 with e1 e2 e3; exact ⟨e1, e3⟩
          have hrow := hA2.row m _ r2 HV.out hr2
          rw [hrn] at hrow
          have hcz : wr.cell? ⟨b, p, none⟩ = some (C (r2[p]'(by omega))) := hrow.cell (by rw [List.getElem?_map, List.getElem?_eq_getElem (by omega)]; rfl)
          have hfz : wr.frozen? ⟨b, p, none⟩ = false := hrow.frozen p
          unfold C at hcz
          generalize r2[p]'(by omega) = z at hcz
          have HA := hid hA2
          have HMM := hid (And.intro hM2 hMk)
          have HR := hid hr2
          have HH5 := hid h5
          have w0 : IntKind.i64.wrap ((m : Int) + 10) = (m : Int) + 10 := IntWalk.i64_in _ (by omega)
          clear hrow hA2 hM2 hMk hr2 e1 h5
          go_wp2
          go_region_law (go_simp; go_at_call 39; (with_reducible refine (markNumbers_any _ _ _ (by omega) (by omega) (by omega) (by omega)).mono ?_); rintro e w' ⟨x, y, rfl, ⟨nd, rfl⟩, hxy, hx, hy⟩)
          all_goals
            go_wp2
            go_roundw
            case rel =>
              refine ⟨p + 1, _, r2.set p (x, y), by go_num, by omega, by rw [List.length_set]; exact hrn, ?_, HA.out.set HH5.out HV.out HR.out, ?_, HMM.out.2.set hxy⟩
              · rw [List.getElem?_set_self (by have := (List.getElem?_eq_some_iff.1 HR.out).1; exact this)]
              · intro j q hj hq
                rw [List.getElem?_set_ne (by omega)] at hq
                exact HMM.out.1 j q hj hq
            case measure => simp [intOf] <;> omega
        · obtain rfl : p = n := by omega
          have H2 := hid (show L1o B own w (.slice (some ⟨gV, 0, none⟩) N Vc) vs (.int .i64 ((m : Int) + 1)) wr from ⟨m + 1, rs2, by go_num, by have := HN.out; omega, hA2, fun j q hj hq => by
            by_cases hjm : j < m
            · exact hM2 j q hjm hq
            · obtain rfl : j = m := by omega
              rw [hr2] at hq
              cases hq
              rw [hrn]
              exact hMk⟩)
          clear hA2 hM2 hMk hr2 hrn
          go_wp2
          go_roundw
          case rel => exact H2.out
          case measure => simp [intOf] <;> omega
    · obtain rfl : m = N := by have := HN.out; omega
      have HA := hid hA1
      have HM := hid (show ∀ (j : Nat) r, rs1[j]? = some r → MkUp j r r.length from fun j r hr => hM j r (by have := (List.getElem?_eq_some_iff.1 hr).1; have := hA1.len; have := HN.out; omega) hr)
      clear hA1 hM
      go_wp2
      go_loopw [6, 5] (fun k G w' => L2o B w (.slice Va m Vc) vs k G w') (fun k _ _ => m + 1 - (intOf k).toNat)
      case atStart => exact ⟨own, 0, rs1, [], [], rfl, by omega, rfl, HA.out, rfl, ⟨World.ownsRow_nil _ _ _ _, fun b hb => by simp [Value.ownBlock] at hb⟩, fun j v r hv => by simp at hv, fun j r hr => by simp at hr, HM.out, fun j r hr => by simp at hr⟩
      case round =>
        clear HA HM
        obtain ⟨own2, m2, rs2, gs, gr, rfl, hm2, hgl, hA2⟩ := hrel
        by_cases hmN : m2 < m
        · obtain ⟨v, hv⟩ : ∃ v, vs[m2]? = some v := ⟨_, List.getElem?_eq_getElem (by have := HN.out; omega)⟩
          obtain ⟨r, hr⟩ : ∃ r, rs2[m2]? = some r := ⟨_, List.getElem?_eq_getElem (by have := HN.out; have := hA2.a1.len; omega)⟩
          obtain ⟨gV, cV, eV, -⟩ := hA2.a1.out.form (by have := HN.out; omega)
          obtain ⟨rfl, rfl⟩ : Va = some ⟨gV, 0, none⟩ ∧ Vc = cV := by injection eV with e1 e2 e3; exact ⟨e1, e3⟩
          clear eV
          obtain ⟨va, vc, rfl⟩ := (hA2.a1.row m2 v r hv hr).shape
          have hcV : wr.cell? ⟨gV, m2, none⟩ = some (.slice va r.length vc) := TR.cell (by have := hA2.a1.out; rw [← HN.out] at this; exact this) hv
          have hrl := hA2.a1.small m2 r hr
          have hvn : m2 < vs.length := by have := HN.out; omega
          obtain ⟨n, hn⟩ : ∃ n, n = r.length := ⟨_, rfl⟩
          rw [← hn] at hcV hrl hv
          have H1 := hid (show L2i B w (.slice (some ⟨gV, 0, none⟩) m Vc) vs rs2 u5 gs gr m2 n (.slice va n vc) (.int .i64 0) wr from ⟨own2, 0, r, rfl, by omega, by omega, hA2, by rw [hn] at hv ⊢; exact hA2.a1.row m2 _ r hv hr, hA2.marks m2 r hr⟩)
          have HV := hid hv
          have HR := hid hr
          have HGL := hid hgl
          have HRN := hid hn
          clear hA2 hr hv hn hgl
          go_wp2
          go_loopw [7, 8] (fun g i w' => L2i B w (.slice (some ⟨gV, 0, none⟩) m Vc) vs rs2 u5 gs gr m2 n g i w') (fun _ i _ => 7 - (intOf i).toNat)
          case atStart => exact H1.out
          case round =>
            obtain ⟨own3, p, q, rfl, hp, hqn, hA3, hT, hMk⟩ := hrel
            clear H1 hcV
            have hcV : wr.cell? ⟨gV, m2, none⟩ = some (.slice va n vc) := TR.cell (by have := hA3.a1.out; rw [← HN.out] at this; exact this) HV.out
            obtain ⟨ga, gc, rfl⟩ := hT.shape
            have hBs := hA3.a1.bl.size
            have hBs2 : B ≤ wr.heap.size := by omega
            have HA := hid hA3
            have HT := hid hT
            have HMK := hid hMk
            have HQN := hid hqn
            have hq7 : q.length ≤ 100010 := by omega
            have HH5 := hid h5
            have w0 : IntKind.i64.wrap ((m2 : Int) + 10) = (m2 : Int) + 10 := IntWalk.i64_in _ (by omega)
            clear hA3 hT hMk h5 hqn
            by_cases hp6 : p < 6
            · have w1 : IntKind.i64.wrap ((n : Int) + (p : Int)) = (n : Int) + (p : Int) := IntWalk.i64_in _ (by omega)
              go_wp2_with (first | (go_at_call 39; (with_reducible refine (markNumbers_any _ _ _ (by omega) (by omega) (by omega) (by omega)).mono ?_); rintro e w' ⟨x, y, rfl, ⟨nd, rfl⟩, hxy, hx, hy⟩) | (at_builtin; refine wpList_app_tag rfl _ _ 41 rfl B 63 _ 16 Try.underlying41 info_c rfl own3 m2 _ q.length (q.map C) (.complex .f64 x y) rfl rfl rfl (HT.out.drewN _) (by omega) (by simp only [maxLen]; omega) (by simpa using hBs2) ?_; intro own4 v4 w4 h1 h2 h3))
              go_roundw
              case rel =>
                refine ⟨own4, p + 1, q ++ [(x, y)], by go_num, by omega, by rw [List.length_append, HQN.out]; rfl, (HA.out.drewN nd).step HGL.out HH5.out hvn HR.out (by rw [← HRN.out, HQN.out]; omega) h2 h3, ?_, HMK.out.snoc ?_⟩
                · rw [List.length_append, List.map_append]
                  exact h1
                · show cv x y = _
                  rw [hxy]
                  unfold mkC
                  rw [HQN.out]
                  simp
              case measure => simp [intOf] <;> omega
            · obtain rfl : p = 6 := by omega
              go_wp2_with (first | (at_builtin; have t1 : TR own3 wr B 41 u5 gs.length gs 101 := HA.out.out; refine wpList_app_tag rfl _ _ 61 rfl B 41 _ 24 Try.underlying61 info_cs rfl own3 101 u5 gs.length gs (.slice ga q.length gc) rfl rfl rfl t1 (by have := HGL.out; omega) (by simp only [maxLen]; have := HGL.out; omega) hBs2 ?_; intro own4 v4 w4 h1 h2 h3))
              go_roundw
              case rel => exact ⟨own4, m2 + 1, rs2, gs ++ [_], gr ++ [q], by go_num, by omega, by simp [HGL.out], HA.out.push (by have := HGL.out; omega) HH5.out (by rw [HGL.out]; exact HT.out) (by omega) (by rw [HGL.out]; exact HMK.out) h1 h2 h3⟩
              case measure => simp [intOf] <;> omega
        · obtain rfl : m2 = m := by have := HN.out; omega
          have HA := hid hA2
          have hgn : gs.length = m2 := by omega
          obtain ⟨Ga, Gc, hG0⟩ := hA2.out.shape
          rw [hgn] at hG0
          subst hG0
          have HG := hid hgn
          clear hA2 hgn
          go_wp2
          go_loopw [9] (fun k w' => L3o wr m2 k w') (fun k _ => m2 + 1 - (intOf k).toNat)
          case atStart => exact ⟨0, rfl, by omega, Dr.refl _⟩
          case round =>
            obtain ⟨k, rfl, hk, nd, rfl⟩ := hrel
            by_cases hkm : k < m2
            · obtain ⟨v, hv⟩ : ∃ v, vs[k]? = some v := ⟨_, List.getElem?_eq_getElem (by have := HN.out; omega)⟩
              obtain ⟨r, hr⟩ : ∃ r, rs2[k]? = some r := ⟨_, List.getElem?_eq_getElem (by have := HN.out; have := HA.out.a1.len; omega)⟩
              obtain ⟨g, hg⟩ : ∃ g, gs[k]? = some g := ⟨_, List.getElem?_eq_getElem (by have := HG.out; omega)⟩
              obtain ⟨q, hq⟩ : ∃ q, gr[k]? = some q := ⟨_, List.getElem?_eq_getElem (by have := HG.out; have := HA.out.len; omega)⟩
              obtain ⟨gV, cV, eV, -⟩ := HA.out.a1.out.form (by have := HN.out; omega)
              obtain ⟨rfl, rfl⟩ : Va = some ⟨gV, 0, none⟩ ∧ Vc = cV := by injection eV with e1 e2 e3; exact ⟨e1, e3⟩
              obtain ⟨gG, cG, eG, -⟩ := HA.out.out.form (by have := HG.out; omega)
              obtain ⟨rfl, rfl⟩ : Ga = some ⟨gG, 0, none⟩ ∧ Gc = cG := by injection eG with e1 e2 e3; exact ⟨e1, e3⟩
              clear eV eG
              have HTv := hid (HA.out.a1.row k v r hv hr)
              have HTg := hid (HA.out.row k g q hg hq)
              have hMr := HA.out.marks k r hr
              have hMq := HA.out.gmarks k q hq
              obtain ⟨va, vc, rfl⟩ := HTv.out.shape
              obtain ⟨ga, gc, rfl⟩ := HTg.out.shape
              have hcV : wr.cell? ⟨gV, k, none⟩ = some (.slice va r.length vc) := TR.cell (by have := HA.out.a1.out; rw [← HN.out] at this; exact this) hv
              have hcG : wr.cell? ⟨gG, k, none⟩ = some (.slice ga q.length gc) := TR.cell (by have := HA.out.out; rw [HG.out] at this; exact this) hg
              have hrl := HA.out.a1.small k r hr
              have hql := HA.out.small k q hq
              have w0 : IntKind.i64.wrap ((k : Int) + 10) = (k : Int) + 10 := IntWalk.i64_in _ (by omega)
              have HMR := hid hMr
              have HMQ := hid hMq
              clear hv hr hg hq hMr hMq
              go_wp2
              go_loopw [10] (fun i w' => L3i wr q.length i w') (fun i _ => q.length + 1 - (intOf i).toNat)
              case atStart => exact ⟨0, rfl, by omega, _, rfl⟩
              case round =>
                obtain ⟨i, rfl, hi, hd⟩ := hrel
                have hcV5 := (hd.cell _).trans hcV
                have hcG5 := (hd.cell _).trans hcG
                by_cases hiq : i < q.length
                · obtain ⟨z, hz⟩ : ∃ z, q[i]? = some z := ⟨_, List.getElem?_eq_getElem hiq⟩
                  obtain ⟨bg, gc', e1, -⟩ := HTg.out.form (by omega)
                  obtain ⟨rfl, rfl⟩ : ga = some ⟨bg, 0, none⟩ ∧ gc = gc' := by injection e1 with e1 e2 e3; exact ⟨e1, e3⟩
                  have hcz : wr.cell? ⟨bg, i, none⟩ = some (.complex .f64 z.1 z.2) := (hd.cell _).trans (HTg.out.cell (by rw [List.getElem?_map, hz]; rfl))
                  have HZ := hid (HMQ.out i z hiq hz)
                  clear e1 hz
                  by_cases hir : i < r.length
                  · obtain ⟨y, hy⟩ : ∃ y, r[i]? = some y := ⟨_, List.getElem?_eq_getElem hir⟩
                    obtain ⟨bv, vc', e1, -⟩ := HTv.out.form (by omega)
                    obtain ⟨rfl, rfl⟩ : va = some ⟨bv, 0, none⟩ ∧ vc = vc' := by injection e1 with e1 e2 e3; exact ⟨e1, e3⟩
                    have hcy : wr.cell? ⟨bv, i, none⟩ = some (.complex .f64 y.1 y.2) := (hd.cell _).trans (HTv.out.cell (by rw [List.getElem?_map, hy]; rfl))
                    have HY := hid (HMR.out i y hir hy)
                    clear e1 hy
                    have HD := hid hd
                    clear hd
                    have HS1 := hid fun w => kSame_true (a := z.1) (b := z.2) (c := mkx ((k : Int) + 10) (i : Int)) (d := ofInt ((k : Int) + 10)) (by rw [mk_cv]; exact HZ.out) w
                    have HS2 := hid fun w => kSame_true (a := y.1) (b := y.2) (c := z.1) (d := z.2) (HY.out.trans HZ.out.symm) w
                    go_wp2
                    go_quiet ((first | (go_at_call 39; exact Calls.quiet_of (markNumbers_det _ _ _ (by omega) (by omega) (by omega) (by omega))) | (go_at_call 42; first | with_reducible exact Calls.quiet_of_same (HS2.out _) | with_reducible exact Calls.quiet_of_same (HS1.out _))))
                    go_wp2
                    go_roundw
                    case rel => exact ⟨i + 1, by go_num, by omega, HD.out.trans ⟨_, rfl⟩⟩
                    case measure => simp [intOf] <;> omega
                  · have HD := hid hd
                    clear hd
                    have HS1 := hid fun w => kSame_true (a := z.1) (b := z.2) (c := mkx ((k : Int) + 10) (i : Int)) (d := ofInt ((k : Int) + 10)) (by rw [mk_cv]; exact HZ.out) w
                    have HS2 := HS1
                    go_wp2
                    go_quiet ((first | (go_at_call 39; exact Calls.quiet_of (markNumbers_det _ _ _ (by omega) (by omega) (by omega) (by omega))) | (go_at_call 42; first | with_reducible exact Calls.quiet_of_same (HS2.out _) | with_reducible exact Calls.quiet_of_same (HS1.out _))))
                    go_wp2
                    go_roundw
                    case rel => exact ⟨i + 1, by go_num, by omega, HD.out.trans ⟨_, rfl⟩⟩
                    case measure => simp [intOf] <;> omega
                · obtain rfl : i = q.length := by omega
                  have HD := hid (hd : Dr _ _)
                  clear hd
                  go_wp2
                  go_roundw
                  case rel => exact ⟨k + 1, by go_num, by omega, HD.out⟩
                  case measure => simp [intOf] <;> omega
            · obtain rfl : k = m2 := by omega
              go_wp2
              go_ret
              exact ⟨rfl, below_drewN' HA.out.a1.bl _⟩
end Go.Proofs.Ytfnbohpfcdddgaa
