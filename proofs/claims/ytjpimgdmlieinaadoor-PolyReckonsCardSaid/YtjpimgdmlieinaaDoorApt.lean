/- Lists written over and gone on with, side by side: what holds. No condition. -/
import Derived.Test.YtjpimgdmlieinaaDoorKitO
namespace Go.Proofs.YtjpimgdmlieinaaDoor
open Go.RowKit

/-- The mark i of the list k, as a value. -/
def mkC (k i : Nat) : CV := (markV ((k : Int) + 10) (i : Int), markW ((k : Int) + 10))
/-- The first m of the list k are its marks. -/
def MkUp (k : Nat) (r : List Z) (m : Nat) : Prop := ∀ (i : Nat) (z : Z), i < m → r[i]? = some z → zv z = mkC k i
theorem MkUp.snoc {k : Nat} {r : List Z} {z : Z} (h : MkUp k r r.length) (hz : zv z = mkC k r.length) : MkUp k (r ++ [z]) (r ++ [z]).length := by
  intro i y hi hy
  by_cases h2 : i < r.length
  · rw [List.getElem?_append_left h2] at hy
    exact h i y h2 hy
  · simp at hi
    obtain rfl : i = r.length := by omega
    simp at hy
    subst hy
    exact hz
theorem MkUp.set {k m : Nat} {r : List Z} {z : Z} (h : MkUp k r m) (hz : zv z = mkC k m) : MkUp k (r.set m z) (m + 1) := by
  intro i y hi hy
  rw [List.getElem?_set] at hy
  split at hy
  · rename_i e
    subst e
    split at hy
    · cases hy; exact hz
    · cases hy
  · rename_i e
    exact h i y (by omega) hy
/-- The rows of the lists vs; the list of them. -/
structure A1 (B : Nat) (own : Nat → Nat) (w0 : World) (V : Value) (vs : List Value) (rs : List (List Z)) (wr : World) : Prop where
  len : rs.length = vs.length
  out : TR own wr B 57 V vs.length vs 100
  row : ∀ (j : Nat) v r, vs[j]? = some v → rs[j]? = some r → TR own wr B 33 v r.length (r.map C) j
  small : ∀ (j : Nat) r, rs[j]? = some r → r.length ≤ 100000
  bl : Below B w0 wr
theorem A1.drewN {B : Nat} {own : Nat → Nat} {w0 wr : World} {V : Value} {vs : List Value} {rs : List (List Z)} (h : A1 B own w0 V vs rs wr) (n : Nat) : A1 B own w0 V vs rs (wr.drewN n) := ⟨h.len, h.out, h.row, h.small, below_drewN' h.bl n⟩
theorem A1.set {B : Nat} {own : Nat → Nat} {w0 wr : World} {V : Value} {vs : List Value} {rs : List (List Z)} (h : A1 B own w0 V vs rs wr) (hvs : vs.length ≤ 50) {k b n cap i x y nd : Nat} {r : List Z} (hv : vs[k]? = some (.slice (some ⟨b, 0, none⟩) n cap)) (hr : rs[k]? = some r) : A1 B own w0 V vs (rs.set k (r.set i (x, y))) ((wr.drewN nd).setCell ⟨b, i, none⟩ (.complex .f64 x y)) := by
  have hrow := h.row k _ r hv hr
  have hob : own b = k := hrow.2 b rfl
  have hB : B ≤ b := (hrow.1.lt b rfl).1
  have hk : k < vs.length := (List.getElem?_eq_some_iff.1 hv).1
  have hn : n = r.length := by
    rcases hrow.1.2 with ⟨e, _⟩ | ⟨g, c, cur, e, _⟩
    · cases e
    · cases e; rfl
  subst hn
  refine ⟨by rw [List.length_set]; exact h.len, (h.out.drewN nd).other (by omega), ?_, ?_, (below_drewN' h.bl nd).setCell hB _⟩
  · intro j v q hj hq
    by_cases hjk : j = k
    · subst hjk
      rw [hv] at hj
      cases hj
      rw [List.getElem?_set_self (by have := h.len; omega)] at hq
      cases hq
      have := (hrow.drewN nd).stored i (.complex .f64 x y)
      rw [List.length_set, List.map_set]
      exact this
    · rw [List.getElem?_set_ne (by omega)] at hq
      exact ((h.row j v q hj hq).drewN nd).other (by omega)
  · intro j q hq
    by_cases hjk : j = k
    · subst hjk
      rw [List.getElem?_set_self (by have := h.len; omega)] at hq
      cases hq
      rw [List.length_set]
      exact h.small j r hr
    · rw [List.getElem?_set_ne (by omega)] at hq
      exact h.small j q hq
def L1o (B : Nat) (own : Nat → Nat) (w0 : World) (V : Value) (vs : List Value) (k : Value) (wr : World) : Prop := ∃ (m : Nat) (rs : List (List Z)), k = .int .i64 m ∧ m ≤ vs.length ∧ A1 B own w0 V vs rs wr ∧ ∀ (j : Nat) r, j < m → rs[j]? = some r → MkUp j r r.length
def L1i (B : Nat) (own : Nat → Nat) (w0 : World) (V : Value) (vs : List Value) (m n : Nat) (i : Value) (wr : World) : Prop := ∃ (p : Nat) (rs : List (List Z)) (r : List Z), i = .int .i64 p ∧ p ≤ n ∧ r.length = n ∧ rs[m]? = some r ∧ A1 B own w0 V vs rs wr ∧ (∀ (j : Nat) r, j < m → rs[j]? = some r → MkUp j r r.length) ∧ MkUp m r p
/-- The rows, and those that were gone on with. -/
structure A2 (B : Nat) (own : Nat → Nat) (w0 : World) (V : Value) (vs : List Value) (rs : List (List Z)) (GV : Value) (gs : List Value) (gr : List (List Z)) (wr : World) : Prop where
  a1 : A1 B own w0 V vs rs wr
  len : gr.length = gs.length
  out : TR own wr B 57 GV gs.length gs 101
  row : ∀ (j : Nat) v r, gs[j]? = some v → gr[j]? = some r → TR own wr B 33 v r.length (r.map C) j
  small : ∀ (j : Nat) r, gr[j]? = some r → r.length ≤ 200000
  marks : ∀ (j : Nat) r, rs[j]? = some r → MkUp j r r.length
  gmarks : ∀ (j : Nat) r, gr[j]? = some r → MkUp j r r.length
theorem A2.drewN {B : Nat} {own : Nat → Nat} {w0 wr : World} {V GV : Value} {vs gs : List Value} {rs gr : List (List Z)} (h : A2 B own w0 V vs rs GV gs gr wr) (n : Nat) : A2 B own w0 V vs rs GV gs gr (wr.drewN n) := ⟨h.a1.drewN n, h.len, h.out, h.row, h.small, h.marks, h.gmarks⟩
/-- A row is gone on with. -/
theorem A2.step {B : Nat} {own own' : Nat → Nat} {w0 wr w' : World} {V GV : Value} {vs gs : List Value} {rs gr : List (List Z)} (h : A2 B own w0 V vs rs GV gs gr wr) {m n : Nat} (hm : gs.length = m) (hm5 : vs.length ≤ 50) (hgm : m < vs.length) {q : List Z} (hq : rs[m]? = some q) (hqn : q.length ≤ n)
    (hk : ∀ e0 v0 n0 xs0 t0, TR own wr B e0 v0 n0 xs0 t0 → (t0 ≠ m ∨ e0 = 33 ∧ n0 ≤ n) → TR own' w' B e0 v0 n0 xs0 t0) (hb : Below B wr w') : A2 B own' w0 V vs rs GV gs gr w' := by
  refine ⟨⟨h.a1.len, hk _ _ _ _ _ h.a1.out (.inl (by omega)), fun j v r hv hr => ?_, h.a1.small, h.a1.bl.trans hb⟩, h.len, hk _ _ _ _ _ h.out (.inl (by omega)), fun j v r hv hr => ?_, h.small, h.marks, h.gmarks⟩
  · refine hk _ _ _ _ _ (h.a1.row j v r hv hr) ?_
    by_cases hjm : j = m
    · subst hjm
      rw [hq] at hr
      cases hr
      exact .inr ⟨rfl, hqn⟩
    · exact .inl hjm
  · refine hk _ _ _ _ _ (h.row j v r hv hr) (.inl ?_)
    have := (List.getElem?_eq_some_iff.1 hv).1
    omega
/-- It is laid beside the others. -/
theorem A2.push {B : Nat} {own own' : Nat → Nat} {w0 wr w' : World} {V GV GV' g : Value} {vs gs : List Value} {rs gr : List (List Z)} {r : List Z} (h : A2 B own w0 V vs rs GV gs gr wr) (hgm : gs.length < vs.length) (hm5 : vs.length ≤ 50) (hg : TR own wr B 33 g r.length (r.map C) gs.length) (hrs : r.length ≤ 200000) (hmk : MkUp gs.length r r.length)
    (hout : TR own' w' B 57 GV' (gs.length + 1) (gs ++ [g]) 101)
    (hk : ∀ e0 v0 n0 xs0 t0, TR own wr B e0 v0 n0 xs0 t0 → (t0 ≠ 101 ∨ e0 = 57 ∧ n0 ≤ gs.length) → TR own' w' B e0 v0 n0 xs0 t0) (hb : Below B wr w') : A2 B own' w0 V vs rs GV' (gs ++ [g]) (gr ++ [r]) w' := by
  have hl := h.len
  refine ⟨⟨h.a1.len, hk _ _ _ _ _ h.a1.out (.inl (by omega)), fun j v r hv hr => ?_, h.a1.small, h.a1.bl.trans hb⟩, by simp [hl], by rw [List.length_append]; exact hout, fun j v q hv hq => ?_, fun j q hq => ?_, h.marks, fun j q hq => ?_⟩
  · refine hk _ _ _ _ _ (h.a1.row j v r hv hr) (.inl ?_)
    have := (List.getElem?_eq_some_iff.1 hv).1
    omega
  · by_cases hj : j < gs.length
    · rw [List.getElem?_append_left hj] at hv
      rw [List.getElem?_append_left (by omega)] at hq
      exact hk _ _ _ _ _ (h.row j v q hv hq) (.inl (by omega))
    · have h1 := (List.getElem?_eq_some_iff.1 hv).1
      simp at h1
      obtain rfl : j = gs.length := by omega
      rw [List.getElem?_append_right (by omega)] at hv hq
      simp [hl] at hv hq
      subst hv hq
      exact hk _ _ _ _ _ hg (.inl (by omega))
  · by_cases hj : j < gs.length
    · rw [List.getElem?_append_left (by omega)] at hq
      exact h.small j q hq
    · have h1 := (List.getElem?_eq_some_iff.1 hq).1
      simp at h1
      obtain rfl : j = gs.length := by omega
      rw [List.getElem?_append_right (by omega)] at hq
      simp [hl] at hq
      subst hq
      exact hrs
  · by_cases hj : j < gs.length
    · rw [List.getElem?_append_left (by omega)] at hq
      exact h.gmarks j q hq
    · have h1 := (List.getElem?_eq_some_iff.1 hq).1
      simp at h1
      obtain rfl : j = gs.length := by omega
      rw [List.getElem?_append_right (by omega)] at hq
      simp [hl] at hq
      subst hq
      exact hmk
def L2o (B : Nat) (w0 : World) (V : Value) (vs : List Value) (k GV : Value) (wr : World) : Prop := ∃ (own : Nat → Nat) (m : Nat) (rs : List (List Z)) (gs : List Value) (gr : List (List Z)), k = .int .i64 m ∧ m ≤ vs.length ∧ gs.length = m ∧ A2 B own w0 V vs rs GV gs gr wr
def L2i (B : Nat) (w0 : World) (V : Value) (vs : List Value) (rs : List (List Z)) (GV : Value) (gs : List Value) (gr : List (List Z)) (m n : Nat) (g i : Value) (wr : World) : Prop := ∃ (own : Nat → Nat) (p : Nat) (r : List Z), i = .int .i64 p ∧ p ≤ 6 ∧ r.length = n + p ∧ A2 B own w0 V vs rs GV gs gr wr ∧ TR own wr B 33 g r.length (r.map C) m ∧ MkUp m r r.length
theorem info_cs : (Tryd.prog.info? 57).map (fun i => (i.zero, i.size, i.bytes)) = some (some (.slice none 0 0), 1, 24) := by kernel_rfl
theorem TR.shape {own : Nat → Nat} {w : World} {B : Nat} {e : TypeId} {v : Value} {n t : Nat} {xs : List Value} (h : TR own w B e v n xs t) : ∃ a cap, v = .slice a n cap := by
  rcases h.1.2 with ⟨rfl, rfl⟩ | ⟨g, cap, cur, rfl, _⟩
  · exact ⟨_, _, rfl⟩
  · exact ⟨_, _, rfl⟩
end Go.Proofs.YtjpimgdmlieinaaDoor
