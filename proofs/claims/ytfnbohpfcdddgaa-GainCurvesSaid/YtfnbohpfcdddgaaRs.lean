/- Rows that stand side by side, each by a number of its own, in blocks that differ: made, appended to, kept. No condition. -/
import Derived.Test.YtfnbohpfcdddgaaSl
import Derived.Deep.AppendLies
namespace Go.Proofs.Ytfnbohpfcdddgaa
open Go.RowKit

structure Rw where
  e : TypeId
  size : Nat
  v : Value
  n : Nat
  xs : List Value
def Rw.nil (e size : Nat) : Rw := ⟨e, size, .slice none 0 0, 0, []⟩
structure RS (B : Nat) (ρ : Nat → Rw) (w : World) : Prop where
  own : ∀ i, w.ownsRow B (ρ i).e (ρ i).size (ρ i).v (ρ i).n (ρ i).xs
  ap : ∀ i j, i ≠ j → (ρ i).v.ownBlock = none ∨ (ρ i).v.ownBlock ≠ (ρ j).v.ownBlock
def upd (ρ : Nat → Rw) (i : Nat) (r : Rw) : Nat → Rw := fun j => if j = i then r else ρ j
theorem upd_same (ρ : Nat → Rw) (i : Nat) (r : Rw) : upd ρ i r i = r := by simp [upd]
theorem upd_ne (ρ : Nat → Rw) {i j : Nat} (r : Rw) (h : j ≠ i) : upd ρ i r j = ρ j := by simp [upd, h]
theorem upd_b (ρ : Nat → Rw) {a b c : Nat} (x y z : Rw) (h : b ≠ c) : upd (upd (upd ρ a x) b y) c z b = y := (upd_ne _ _ h).trans (upd_same _ _ _)
theorem upd_c (ρ : Nat → Rw) {a b c : Nat} (x y z : Rw) (h : b ≠ a) (h2 : b ≠ c) : upd (upd (upd ρ b y) a x) c z b = y := ((upd_ne _ _ h2).trans (upd_ne _ _ h)).trans (upd_same _ _ _)
theorem own_mono {w : World} {b b' e size : Nat} {v : Value} {n : Nat} {xs : List Value} (h : w.ownsRow b e size v n xs) (hb : b' ≤ b) : w.ownsRow b' e size v n xs := by
  refine ⟨h.1, ?_⟩
  rcases h.2 with h2 | ⟨g, cap, cur, rfl, hbg, r⟩
  · exact .inl h2
  · exact .inr ⟨g, cap, cur, rfl, Nat.le_trans hb hbg, r⟩
theorem own_cap {w : World} {B e size : Nat} {v : Value} {n : Nat} {xs : List Value} (h : w.ownsRow B e size v n xs) : ∃ a c, v = .slice a n c ∧ n ≤ c := by
  rcases h.2 with ⟨rfl, rfl⟩ | ⟨g, cap, cur, rfl, _, _, h, _⟩
  · exact ⟨_, _, rfl, Nat.le_refl _⟩
  · exact ⟨_, _, rfl, h⟩
section
variable {B : Nat} {ρ : Nat → Rw} {w w' : World}
theorem RS.start (B : Nat) (ty : Nat → Nat × Nat) (w : World) : RS B (fun i => Rw.nil (ty i).1 (ty i).2) w := ⟨fun _ => World.ownsRow_nil _ _ _ _, fun _ _ _ => .inl rfl⟩
theorem RS.drew (h : RS B ρ w) : RS B ρ w.drew := ⟨h.own, h.ap⟩
theorem RS.drewN (h : RS B ρ w) (n : Nat) : RS B ρ (w.drewN n) := ⟨h.own, h.ap⟩
theorem RS.below (h : RS B ρ w) (hb : Below w.heap.size w w') : RS B ρ w' := ⟨fun i => owns_below (h.own i) hb, h.ap⟩
theorem RS.alloc (h : RS B ρ w) (o : Obj) : RS B ρ (w.alloc o) := h.below ((Below.refl _ w).alloc (Nat.le_refl _) o)
/-- Whatever turns one row's block alone. -/
theorem RS.grow (h : RS B ρ w) {i : Nat} (hg : w.grownBy w' (ρ i).v.ownBlock) {e size n : Nat} {v : Value} {xs : List Value} (hr : w'.ownsRow B e size v n xs) (hv : v.ownBlock = none ∨ v.ownBlock = (ρ i).v.ownBlock ∨ ∃ g, v.ownBlock = some g ∧ w.heap.size ≤ g) : RS B (upd ρ i ⟨e, size, v, n, xs⟩) w' := by
  refine ⟨fun j => ?_, fun j k hjk => ?_⟩
  · by_cases hj : j = i
    · subst hj
      rw [upd_same]
      exact hr
    · rw [upd_ne _ _ hj]
      exact (h.own j).kept hg (h.ap j i hj)
  · have old : ∀ j, ∀ g, (ρ j).v.ownBlock = some g → g < w.heap.size := fun j g hg => ((h.own j).lt g hg).2
    by_cases hj : j = i
    · subst hj
      rw [upd_same, upd_ne _ _ (Ne.symm hjk)]
      rcases hv with hv | hv | ⟨g, hv, hgs⟩
      · exact .inl hv
      · show v.ownBlock = none ∨ v.ownBlock ≠ _
        rw [hv]
        exact h.ap j k hjk
      · refine .inr fun e2 => ?_
        have e3 : v.ownBlock = (ρ k).v.ownBlock := e2
        rw [hv] at e3
        have := old k g e3.symm
        omega
    · rw [upd_ne _ _ hj]
      by_cases hk : k = i
      · subst hk
        rw [upd_same]
        show _ ∨ _ ≠ v.ownBlock
        rcases hv with hv | hv | ⟨g, hv, hgs⟩
        · rw [hv]
          cases (ρ j).v.ownBlock <;> simp
        · rw [hv]
          exact h.ap j k hjk
        · rw [hv]
          refine .inr fun e2 => ?_
          have := old j g e2
          omega
      · rw [upd_ne _ _ hk]
        exact h.ap j k hjk
/-- A row that somebody has made in memory of its own. -/
theorem RS.push (h : RS B ρ w) (hB : B ≤ w.heap.size) (hb : Below w.heap.size w w') (i : Nat) {b e size n : Nat} {v : Value} {xs : List Value} (hbb : w.heap.size ≤ b) (hr : w'.ownsRow b e size v n xs) : RS B (upd ρ i ⟨e, size, v, n, xs⟩) w' := by
  refine RS.grow h (w' := w') ⟨hb.os, hb.tape, hb.output, hb.size, fun k hk _ => hb.block k hk⟩ (own_mono hr (Nat.le_trans hB hbb)) ?_
  cases hv : v.ownBlock with
  | none => exact .inl rfl
  | some g => exact .inr (.inr ⟨g, rfl, Nat.le_trans hbb (hr.lt g hv).1⟩)
/-- The slice of one element that a call of append is handed. -/
theorem RS.one (h : RS B ρ w) (hB : B ≤ w.heap.size) (i : Nat) (e : Nat) (cs : List Value) : RS B (upd ρ i ⟨e, cs.length, .slice (some ⟨w.heap.size, 0, none⟩) 1 1, 1, cs⟩) (w.alloc (.cells cs.toArray e)) := by
  refine h.push hB ((Below.refl _ w).alloc (Nat.le_refl _) _) i (Nat.le_refl _) ⟨by simp, .inr ⟨w.heap.size, 1, cs.toArray, rfl, Nat.le_refl _, ?_, Nat.le_refl _, by decide, by simp, by simp⟩⟩
  show (w.heap.push _)[w.heap.size]? = _
  simp
theorem RS.sl (h : RS B ρ w) (i : Nat) (hs : (ρ i).size = 1) : Sl w (ρ i).v (ρ i).xs := Sl.of_owns (by have := h.own i; rw [hs] at this; exact this)
theorem RS.at (h : RS B ρ w) {i e size n : Nat} {v : Value} {xs : List Value} (hi : ρ i = ⟨e, size, v, n, xs⟩) : w.ownsRow B e size v n xs := by
  have h1 := h.own i
  rw [hi] at h1
  exact h1
/-- A cell stored into the row i. -/
theorem RS.store (h : RS B ρ w) {i e size g n cap : Nat} {xs : List Value} (hi : ρ i = ⟨e, size, .slice (some ⟨g, 0, none⟩) n cap, n, xs⟩) (j : Nat) (x : Value) : RS B (upd ρ i ⟨e, size, .slice (some ⟨g, 0, none⟩) n cap, n, xs.set j x⟩) (w.setCell ⟨g, j, none⟩ x) := by
  have h1 := h.own i
  rw [hi] at h1
  obtain ⟨h2, h3⟩ := h1.stored j x
  exact h.grow (i := i) (by rw [hi]; exact h3) h2 (.inr (.inl (by rw [hi])))
theorem RS.cell (h : RS B ρ w) {i e size g n cap : Nat} {xs : List Value} (hi : ρ i = ⟨e, size, .slice (some ⟨g, 0, none⟩) n cap, n, xs⟩) {j : Nat} {u : Value} (hu : xs[j]? = some u) : w.cell? ⟨g, j, none⟩ = some u := by
  have h1 := h.at hi
  have h2 := (List.getElem?_eq_some_iff.1 hu).1
  have h3 : xs.length = n * size := h1.1
  rw [h1.cellAt j (by omega)]
  exact hu
theorem RS.cell' (h : RS B ρ w) {ρ0 : Nat → Rw} {i e size g n cap : Nat} {xs : List Value} (h0 : ρ0 i = ⟨e, size, .slice (some ⟨g, 0, none⟩) n cap, n, xs⟩) {j : Nat} {u : Value} (hu : xs[j]? = some u) (hi : ρ i = ρ0 i) : w.cell? ⟨g, j, none⟩ = some u := h.cell (hi.trans h0) hu
theorem RS.fr (h : RS B ρ w) {i e size g n cap : Nat} {xs : List Value} (hi : ρ i = ⟨e, size, .slice (some ⟨g, 0, none⟩) n cap, n, xs⟩) (j : Nat) : w.frozen? ⟨g, j, none⟩ = false := by
  have h1 := h.own i
  rw [hi] at h1
  exact h1.frozenAt j
theorem RS.form (h : RS B ρ w) {i e size n : Nat} {v : Value} {xs : List Value} (hi : ρ i = ⟨e, size, v, n, xs⟩) (hn : 0 < n) : ∃ g cap, v = .slice (some ⟨g, 0, none⟩) n cap := by
  obtain ⟨g, cap, rfl, _, _⟩ := (h.at hi).form hn
  exact ⟨g, cap, rfl⟩
theorem flat_get {f : Nat → List Value} {m : Nat} (hm : ∀ j, (f j).length = m) : ∀ (k j t : Nat), j < k → t < m → ((List.range k).flatMap f)[j * m + t]? = (f j)[t]? := by
  intro k
  induction k with
  | zero => intro j t hj; omega
  | succ k ih =>
    intro j t hj ht
    have hlen : ∀ q, ((List.range q).flatMap f).length = q * m := by
      intro q
      induction q with
      | zero => simp
      | succ q ihq => rw [List.range_succ, List.flatMap_append, List.length_append, ihq]; simp [hm, Nat.succ_mul]
    rw [List.range_succ, List.flatMap_append]
    by_cases hjk : j < k
    · have h1 : j * m + t < k * m := by
        have : (j + 1) * m ≤ k * m := Nat.mul_le_mul_right m hjk
        rw [Nat.succ_mul] at this
        omega
      rw [List.getElem?_append_left (by rw [hlen]; exact h1)]
      exact ih j t hjk ht
    · obtain rfl : j = k := by omega
      rw [List.getElem?_append_right (by rw [hlen]; omega), hlen]
      simp
theorem flat_snoc {f : Nat → List Value} (k : Nat) : (List.range (k + 1)).flatMap f = (List.range k).flatMap f ++ f k := by
  rw [List.range_succ, List.flatMap_append]
  simp
/-- What append wants to know of the row of one element. -/
theorem RS.news (h : RS B ρ w) {p e size b : Nat} {cs : List Value} (hp : ρ p = ⟨e, size, .slice (some ⟨b, 0, none⟩) 1 1, 1, cs⟩) : cs.length = 1 * size ∧ ∀ j u, cs[j]? = some u → w.cell? ((⟨b, 0, none⟩ : Addr).add j) = some u := by
  have h1 := h.own p
  rw [hp] at h1
  exact ⟨h1.1, h1.cells rfl⟩
end

/-- Rows of a call that began in the world W0. -/
def RSW (W0 : World) (ρ : Nat → Rw) (w : World) : Prop := RS W0.heap.size ρ w ∧ Below W0.heap.size W0 w
theorem RSW.drew {W0 w : World} {ρ : Nat → Rw} (h : RSW W0 ρ w) : RSW W0 ρ w.drew := ⟨h.1.drew, h.2.drew⟩
theorem RSW.one {W0 w : World} {ρ : Nat → Rw} (h : RSW W0 ρ w) (i : Nat) (e : Nat) (cs : List Value) : RSW W0 (upd ρ i ⟨e, cs.length, .slice (some ⟨w.heap.size, 0, none⟩) 1 1, 1, cs⟩) (w.alloc (.cells cs.toArray e)) := ⟨h.1.one h.2.size i e cs, h.2.alloc h.2.size _⟩
/-- Two rows that one call has made. -/
theorem RS.push2 {B : Nat} {ρ : Nat → Rw} {w w' : World} (h : RS B ρ w) (hB : B ≤ w.heap.size) (hb : Below w.heap.size w w') {i j : Nat} (hij : i ≠ j) {e size n e' size' n' : Nat} {v v' : Value} {xs xs' : List Value} (h1 : w'.ownsRow w.heap.size e size v n xs) (h2 : w'.ownsRow w.heap.size e' size' v' n' xs') (ha : ∀ g, v.ownBlock = some g → v'.ownBlock = some g → False) :
    RS B (upd (upd ρ i ⟨e, size, v, n, xs⟩) j ⟨e', size', v', n', xs'⟩) w' := by
  have H := h.push hB hb i (Nat.le_refl _) h1
  have key : ∀ q, q ≠ j → (upd ρ i ⟨e, size, v, n, xs⟩ q).v.ownBlock = none ∨ (upd ρ i ⟨e, size, v, n, xs⟩ q).v.ownBlock ≠ v'.ownBlock := by
    intro q hq
    by_cases hqi : q = i
    · subst hqi
      rw [upd_same]
      show v.ownBlock = none ∨ v.ownBlock ≠ v'.ownBlock
      cases hv : v.ownBlock with
      | none => exact .inl rfl
      | some g => exact .inr fun e2 => ha g hv e2.symm
    · rw [upd_ne _ _ hqi]
      cases hv : (ρ q).v.ownBlock with
      | none => exact .inl rfl
      | some g =>
        refine .inr fun e2 => ?_
        have a1 := ((h.own q).lt g hv).2
        have a2 := (h2.lt g e2.symm).1
        omega
  refine ⟨fun q => ?_, fun q r hqr => ?_⟩
  · by_cases hq : q = j
    · subst hq
      rw [upd_same]
      exact own_mono h2 hB
    · rw [upd_ne _ _ hq]
      exact H.own q
  · by_cases hq : q = j
    · subst hq
      rw [upd_same, upd_ne _ _ (Ne.symm hqr)]
      show v'.ownBlock = none ∨ v'.ownBlock ≠ _
      rcases key r (Ne.symm hqr) with k | k
      · rw [k]
        cases v'.ownBlock <;> simp
      · exact .inr fun e2 => k e2.symm
    · rw [upd_ne _ _ hq]
      by_cases hr : r = j
      · subst hr
        rw [upd_same]
        exact key q hqr
      · rw [upd_ne _ _ hr]
        exact H.ap q r hqr
theorem flat_upd {α : Type} (F : α → List Value) (f : Nat → α) (y : α) (k : Nat) : (List.range (k + 1)).flatMap (fun j => F (if j = k then y else f j)) = ((List.range k).flatMap fun j => F (f j)) ++ F y := by
  have hc : ∀ m, m ≤ k → (List.range m).flatMap (fun j => F (if j = k then y else f j)) = (List.range m).flatMap fun j => F (f j) := by
    intro m
    induction m with
    | zero => intro _; rfl
    | succ m ih =>
      intro hm
      rw [flat_snoc, flat_snoc (f := fun j => F (f j)), ih (by omega), if_neg (by omega)]
  rw [flat_snoc, hc k (Nat.le_refl _), if_pos rfl]

/-- 'out = append(out, u)' at a step of a region that draws its order: the row i grows by the element of the row p. -/
theorem step_app_rs {P : Program} {ops : Array Oper} {o : Oper} {a : Act} {K : Act → World → Prop} {Q : Exit → Act → World → Prop} {E : Prop} {w : World} (hgd : o.guard = none) (s x : Operand) (t : TypeId)
    (ho : o.op = .call { callee := .builtin .append, args := #[s, x], argTypes := #[t, t] })
    (B e : Nat) (z : Value) (size bytes : Nat) (ht : P.underlying t = some (.slice e)) (hinfo : (P.info? e).map (fun i => (i.zero, i.size, i.bytes)) = some (some z, size, bytes)) (hz : z.cells.size = size) (hsz : 0 < size)
    (ρ : Nat → Rw) (i p : Nat) (H : RS B ρ w) (v : Value) (n : Nat) (xs : List Value) (hi : ρ i = ⟨e, size, v, n, xs⟩) (b : Nat) (cs : List Value) (hp : ρ p = ⟨e, size, .slice (some ⟨b, 0, none⟩) 1 1, 1, cs⟩)
    (hs : a.eval s = v) (hx : a.eval x = .slice (some ⟨b, 0, none⟩) 1 1) (hu : ∀ u ∈ cs, u.oneCell' = true) (h63 : n + 1 ≤ maxLen) (hbytes : (n + 1) * bytes ≤ 140737488355328) (hB : B ≤ w.heap.size)
    (h : ∀ g cap w', RS B (upd ρ i ⟨e, size, .slice (some ⟨g, 0, none⟩) (n + 1) cap, n + 1, xs ++ cs⟩) w' → Below B w w' → K (a.put o.dst (.slice (some ⟨g, 0, none⟩) (n + 1) cap)) w') :
    if Region.wanted o (yielded ops a.tmps) = true then Oper.wp P o a w K Q else E := by
  obtain ⟨iE, hi1, hz0, hz1, hz2⟩ := info_parts hinfo
  obtain ⟨n1, n2⟩ := H.news hp
  have hown := H.own i
  rw [hi] at hown
  refine step_append_lies _ hgd s x t ho B e iE z size bytes ht hi1 hz0 hz1 hz2 hz hsz v n xs hs hown ⟨b, 0, none⟩ 1 1 cs hx n1 n2 hu (by decide) h63 hbytes hB _ rfl ?_
  intro g cap w' h2 h3 h4 _
  refine h g cap w' (H.grow (i := i) (by rw [hi]; exact h3) h2 ?_) ((Below.refl B w).grown h3 hB fun k hk => (hown.lt k hk).1)
  rcases h4 with h4 | h4
  · exact .inr (.inl (by rw [hi]; exact h4.symm))
  · exact .inr (.inr ⟨g, rfl, Nat.le_of_eq h4.symm⟩)
/-- The same where the order stands. -/
theorem wpList_app_rs {P : Program} {ops : Array Oper} {rest : List Oper} {o : Oper} {a : Act} {Q : Exit → Act → World → Prop} {w : World} (hgd : o.guard = none) (s x : Operand) (t : TypeId)
    (ho : o.op = .call { callee := .builtin .append, args := #[s, x], argTypes := #[t, t] })
    (B e : Nat) (z : Value) (size bytes : Nat) (ht : P.underlying t = some (.slice e)) (hinfo : (P.info? e).map (fun i => (i.zero, i.size, i.bytes)) = some (some z, size, bytes)) (hz : z.cells.size = size) (hsz : 0 < size)
    (ρ : Nat → Rw) (i : Nat) (H : RS B ρ w) (v : Value) (n : Nat) (xs : List Value) (hi : ρ i = ⟨e, size, v, n, xs⟩) (cs : List Value) (hcs : cs.length = size)
    (hs : a.eval s = v) (hx : a.eval x = .slice (some ⟨w.heap.size, 0, none⟩) 1 1) (hu : ∀ u ∈ cs, u.oneCell' = true) (h63 : n + 1 ≤ maxLen) (hbytes : (n + 1) * bytes ≤ 140737488355328) (hB : B ≤ w.heap.size)
    (h : ∀ g cap w', RS B (upd ρ i ⟨e, size, .slice (some ⟨g, 0, none⟩) (n + 1) cap, n + 1, xs ++ cs⟩) w' → Below B w w' → wpList P ops Q rest (a.put o.dst (.slice (some ⟨g, 0, none⟩) (n + 1) cap)) w') : wpList P ops Q (o :: rest) a (w.alloc (.cells cs.toArray e)) := by
  obtain ⟨iE, hi1, hz0, hz1, hz2⟩ := info_parts hinfo
  have H1 := H.alloc (.cells cs.toArray e)
  have hown := H1.own i
  rw [hi] at hown
  have hnew : ∀ j u, cs[j]? = some u → (w.alloc (.cells cs.toArray e)).cell? ((⟨w.heap.size, 0, none⟩ : Addr).add j) = some u := by
    intro j u hu
    have hadd : (⟨w.heap.size, 0, none⟩ : Addr).add j = ⟨w.heap.size, j, none⟩ := by
      simp [Addr.add]
      intro hj
      omega
    rw [hadd, World.cell?_alloc_new]
    simpa using hu
  refine wpList_append_lies _ hgd s x t ho B e iE z size bytes ht hi1 hz0 hz1 hz2 hz hsz v n xs hs hown ⟨w.heap.size, 0, none⟩ 1 1 cs hx (by omega) hnew hu (by decide) h63 hbytes (by simp; omega) _ rfl ?_
  intro g cap w' h2 h3 h4 _
  refine h g cap w' (H1.grow (i := i) (by rw [hi]; exact h3) h2 ?_) (((Below.refl B w).alloc hB _).grown h3 (by simp; omega) fun k hk => (hown.lt k hk).1)
  rcases h4 with h4 | h4
  · exact .inr (.inl (by rw [hi]; exact h4.symm))
  · exact .inr (.inr ⟨g, rfl, Nat.le_of_eq h4.symm⟩)
/-- The law of a step, the rows told behind. -/
theorem step_app_rsw {P : Program} {ops : Array Oper} {o : Oper} {a : Act} {K : Act → World → Prop} {Q : Exit → Act → World → Prop} {E : Prop} {w : World} (hgd : o.guard = none) (s x : Operand) (t : TypeId)
    (ho : o.op = .call { callee := .builtin .append, args := #[s, x], argTypes := #[t, t] })
    (W0 : World) (e : Nat) (z : Value) (size bytes : Nat) (ht : P.underlying t = some (.slice e)) (hinfo : (P.info? e).map (fun i => (i.zero, i.size, i.bytes)) = some (some z, size, bytes)) (hz : z.cells.size = size) (hsz : 0 < size) (i p : Nat) {ρ : Nat → Rw} {v : Value} {n : Nat} {xs : List Value} {b : Nat} {cs : List Value} (H : RSW W0 ρ w) (hi : ρ i = ⟨e, size, v, n, xs⟩) (hp : ρ p = ⟨e, size, .slice (some ⟨b, 0, none⟩) 1 1, 1, cs⟩) (hs : a.eval s = v) (hx : a.eval x = .slice (some ⟨b, 0, none⟩) 1 1) (hu : ∀ u ∈ cs, u.oneCell' = true) (h63 : n + 1 ≤ maxLen) (hby : (n + 1) * bytes ≤ 140737488355328)
    (hk : ∀ g cap w', RSW W0 (upd ρ i ⟨e, size, .slice (some ⟨g, 0, none⟩) (n + 1) cap, n + 1, xs ++ cs⟩) w' → K (a.put o.dst (.slice (some ⟨g, 0, none⟩) (n + 1) cap)) w') :
    if Region.wanted o (yielded ops a.tmps) = true then Oper.wp P o a w K Q else E := by
  exact step_app_rs hgd s x t ho W0.heap.size e z size bytes ht hinfo hz hsz ρ i p H.1 v n xs hi b cs hp hs hx hu h63 hby H.2.size fun g cap w' h1 h2 => hk g cap w' ⟨h1, H.2.trans h2⟩
end Go.Proofs.Ytfnbohpfcdddgaa

