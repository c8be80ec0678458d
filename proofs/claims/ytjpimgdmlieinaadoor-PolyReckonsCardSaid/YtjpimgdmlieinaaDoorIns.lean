/- Lists that were made one behind the other: each in memory of its own. No condition. -/
import Derived.Test.YtjpimgdmlieinaaDoorKitP
import Derived.Test.YtjpimgdmlieinaaDoorRPol3
import Derived.Test.YtjpimgdmlieinaaDoorLv29
namespace Go.Proofs.YtjpimgdmlieinaaDoor
open Go.RowKit

/-- A list that was made: between which blocks; the value; what it reads as. -/
theorem owns_mono {w : World} {b b' e : Nat} {v : Value} {n : Nat} {xs : List Value} (h : w.ownsRow b e 1 v n xs) (hb : b' ≤ b) : w.ownsRow b' e 1 v n xs := by
  refine ⟨h.1, ?_⟩
  rcases h.2 with h2 | ⟨g, cap, cur, hv, hbg, r⟩
  · exact .inl h2
  · exact .inr ⟨g, cap, cur, hv, by omega, r⟩
structure Made where
  lo : Nat
  hi : Nat
  v : Value
  l : List Z
structure Ins (B : Nat) (L : List Made) (w : World) : Prop where
  own : ∀ x ∈ L, w.ownsRow B 33 1 x.v x.l.length (x.l.map C) ∧ (∀ b, x.v.ownBlock = some b → x.lo ≤ b ∧ b < x.hi) ∧ x.hi ≤ w.heap.size ∧ x.lo ≤ x.hi
  chain : L.Pairwise fun x y => y.hi ≤ x.lo
theorem Ins.nil (B : Nat) (w : World) : Ins B [] w := ⟨fun x hx => (by cases hx), List.Pairwise.nil⟩
theorem Ins.below {B : Nat} {L : List Made} {w w' : World} (h : Ins B L w) (hb : Below w.heap.size w w') : Ins B L w' :=
  ⟨fun x hx => by
    obtain ⟨h1, h2, h3, h4⟩ := h.own x hx
    exact ⟨owns_below h1 hb, h2, Nat.le_trans h3 hb.size, h4⟩, h.chain⟩
theorem Ins.drewN {B : Nat} {L : List Made} {w : World} (h : Ins B L w) (n : Nat) : Ins B L (w.drewN n) := ⟨h.own, h.chain⟩
theorem Ins.push {B : Nat} {L : List Made} {w w' : World} (h : Ins B L w) (hB : B ≤ w.heap.size) {v : Value} {l : List Z} (hown : w'.ownsRow w.heap.size 33 1 v l.length (l.map C)) (hb : Below w.heap.size w w') : Ins B (⟨w.heap.size, w'.heap.size, v, l⟩ :: L) w' := by
  have h' := h.below hb
  refine ⟨fun x hx => ?_, List.Pairwise.cons (fun y hy => (h.own y hy).2.2.1) h.chain⟩
  rcases List.mem_cons.1 hx with rfl | hx
  · exact ⟨owns_mono hown hB, fun b hb2 => hown.lt b hb2, Nat.le_refl _, hb.size⟩
  · exact h'.own x hx
theorem Ins.sl {B : Nat} {L : List Made} {w : World} (h : Ins B L w) {x : Made} (hx : x ∈ L) : Sl w x.v (x.l.map C) := Sl.of_owns (h.own x hx).1
/-- One of them is written over. -/
theorem Ins.over {B : Nat} {L1 L2 : List Made} {x : Made} {w w' : World} (h : Ins B (L1 ++ x :: L2) w) (ho : Oth w w' x.v) (hn : ∃ l' : List Z, w'.ownsRow B 33 1 x.v x.l.length (l'.map C)) : ∃ l' : List Z, l'.length = x.l.length ∧ Ins B (L1 ++ ⟨x.lo, x.hi, x.v, l'⟩ :: L2) w' := by
  obtain ⟨l', hl'⟩ := hn
  have hlen : l'.length = x.l.length := by have := hl'.1; simpa using this
  have hpw := List.pairwise_append.1 h.chain
  have hpc := List.pairwise_cons.1 hpw.2.1
  have hx := h.own x (by simp)
  refine ⟨l', hlen, fun y hy => ?_, ?_⟩
  · have keep : ∀ y ∈ L1 ++ L2, w'.ownsRow B 33 1 y.v y.l.length (y.l.map C) ∧ (∀ b, y.v.ownBlock = some b → y.lo ≤ b ∧ b < y.hi) ∧ y.hi ≤ w'.heap.size ∧ y.lo ≤ y.hi := by
      intro y hy
      have hyo := h.own y (by rcases List.mem_append.1 hy with h1 | h1 <;> simp [h1])
      refine ⟨⟨hyo.1.1, ?_⟩, hyo.2.1, by rw [ho.size]; exact hyo.2.2.1, hyo.2.2.2⟩
      rcases hyo.1.2 with h2 | ⟨g, c, cur, hv, hbg, hg, r⟩
      · exact .inl h2
      · refine .inr ⟨g, c, cur, hv, hbg, ?_, r⟩
        rw [ho.block g ?_]
        · exact hg
        · intro e
          have e1 := hx.2.1 g e
          have e2 := hyo.2.1 g (by rw [hv]; rfl)
          rcases List.mem_append.1 hy with h1 | h1
          · have := hpw.2.2 y h1 x (by simp)
            omega
          · have := hpc.1 y h1
            omega
    rcases List.mem_append.1 hy with h1 | h1
    · exact keep y (List.mem_append.2 (.inl h1))
    · rcases List.mem_cons.1 h1 with rfl | h1
      · exact ⟨by rw [hlen]; exact hl', hx.2.1, by rw [ho.size]; exact hx.2.2.1, hx.2.2.2⟩
      · exact keep y (List.mem_append.2 (.inr h1))
  · refine List.pairwise_append.2 ⟨hpw.1, List.pairwise_cons.2 ⟨hpc.1, hpc.2⟩, fun a ha b hb => ?_⟩
    rcases List.mem_cons.1 hb with rfl | hb
    · exact hpw.2.2 a ha x (by simp)
    · exact hpw.2.2 a ha b (List.mem_cons_of_mem _ hb)
theorem Oth.below {B : Nat} {w w' : World} {v : Value} (h : Oth w w' v) (hb : ∀ b, v.ownBlock = some b → B ≤ b) : Below B w w' :=
  ⟨h.os, h.tape, h.output, by rw [h.size]; exact Nat.le_refl _, fun g hg => h.block g fun e => by have := hb g e; omega⟩
/-- Five of them, side by side. -/
theorem apart_start {B : Nat} {f g s m d t n c : Made} {w : World} (h : Ins B [c, d, n, m, t, s, g, f] w) (hB : B ≤ w.heap.size) (hl : ∀ x ∈ [f, g, s, m, d], x.l.length ≤ 100000) :
    ∃ own, A1 B own (w.alloc (.cells #[f.v, g.v, s.v, m.v, d.v] 57)) (.slice (some ⟨w.heap.size, 0, none⟩) 5 5) [f.v, g.v, s.v, m.v, d.v] [f.l, g.l, s.l, m.l, d.l] (w.alloc (.cells #[f.v, g.v, s.v, m.v, d.v] 57)) := by
  have hf := h.own f (by simp)
  have hg := h.own g (by simp)
  have hs := h.own s (by simp)
  have hm := h.own m (by simp)
  have hd := h.own d (by simp)
  have hc := h.chain
  simp only [List.pairwise_cons, List.mem_cons, List.not_mem_nil, or_false, forall_eq_or_imp, forall_eq] at hc
  have c1 : f.hi ≤ g.lo := by simp_all
  have c2 : g.hi ≤ s.lo := by simp_all
  have c3 : s.hi ≤ m.lo := by simp_all
  have c4 : m.hi ≤ d.lo := by simp_all
  have d1 := hf.2.2
  have d2 := hg.2.2
  have d3 := hs.2.2
  have d4 := hm.2.2
  have d5 := hd.2.2
  refine ⟨fun b => if b < f.hi then 0 else if b < g.hi then 1 else if b < s.hi then 2 else if b < m.hi then 3 else if b < d.hi then 4 else 100, rfl, ⟨World.ownsRow_lit w _ 5 hB (by decide) rfl, fun b hb => ?_⟩, ?_, ?_, Below.refl _ _⟩
  · simp [Value.ownBlock] at hb
    subst hb
    simp only
    rw [if_neg (by omega), if_neg (by omega), if_neg (by omega), if_neg (by omega), if_neg (by omega)]
  · intro j v r hv hr
    match j, hv, hr with
    | 0, hv, hr =>
      simp at hv hr
      subst hv hr
      refine ⟨hf.1.alloc _, fun b hb => ?_⟩
      have := hf.2.1 b hb
      simp only
      rw [if_pos (by omega)]
    | 1, hv, hr =>
      simp at hv hr
      subst hv hr
      refine ⟨hg.1.alloc _, fun b hb => ?_⟩
      have := hg.2.1 b hb
      simp only
      rw [if_neg (by omega), if_pos (by omega)]
    | 2, hv, hr =>
      simp at hv hr
      subst hv hr
      refine ⟨hs.1.alloc _, fun b hb => ?_⟩
      have := hs.2.1 b hb
      simp only
      rw [if_neg (by omega), if_neg (by omega), if_pos (by omega)]
    | 3, hv, hr =>
      simp at hv hr
      subst hv hr
      refine ⟨hm.1.alloc _, fun b hb => ?_⟩
      have := hm.2.1 b hb
      simp only
      rw [if_neg (by omega), if_neg (by omega), if_neg (by omega), if_pos (by omega)]
    | 4, hv, hr =>
      simp at hv hr
      subst hv hr
      refine ⟨hd.1.alloc _, fun b hb => ?_⟩
      have := hd.2.1 b hb
      simp only
      rw [if_neg (by omega), if_neg (by omega), if_neg (by omega), if_neg (by omega), if_pos (by omega)]
    | k + 5, hv, hr => simp at hv
  · intro j r hr
    match j, hr with
    | 0, hr => simp at hr; subst hr; exact hl f (by simp)
    | 1, hr => simp at hr; subst hr; exact hl g (by simp)
    | 2, hr => simp at hr; subst hr; exact hl s (by simp)
    | 3, hr => simp at hr; subst hr; exact hl m (by simp)
    | 4, hr => simp at hr; subst hr; exact hl d (by simp)
    | k + 5, hr => simp at hr
end Go.Proofs.YtjpimgdmlieinaaDoor
