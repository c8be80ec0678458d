/- What holds within netlist.put. No condition. What netlist.Of is told and tells: faults, slices of elements. No condition. ladder.elements: a ladder's elements. Condition: as many in series as in shunt, at most 16. -/
import Derived.Test.YtgcakhmdmajplaaNElM
import Derived.Test.YtgcakhmdmajplaaNChk
import Derived.Test.YtgcakhmdmajplaaBaseM
import Derived.StillTailTactics
import Derived.Deep.AppendLies
namespace Go.Proofs.Ytgcakhmdmajplaa
open Go.RowKit Go.Maps

/-- Within put: the net, apart from the box of the element; the box; nothing else is turned. -/
structure PutK (W : World) (w : World) (B : Nat) (N : NB) (V : NV) (e : El) (l : List El) (nodes br ks ps bs : List ByteArray) : Prop where
  R : NetR w B N V l nodes br ks ps bs
  O : OutN N V W.heap.size
  E : ElAt w W.heap.size e
  bl : Below B W w
  hB : B ≤ W.heap.size
section
variable {W w w' : World} {B : Nat} {N : NB} {V : NV} {e : El} {l : List El} {nodes br ks ps bs : List ByteArray}
theorem PutK.below (h : PutK W w B N V e l nodes br ks ps bs) (hb : Below w.heap.size w w') : PutK W w' B N V e l nodes br ks ps bs :=
  ⟨h.R.below hb, h.O, h.E.below hb h.E.lt, h.bl.trans (hb.mono (by have := h.bl.size; have := h.hB; omega)), h.hB⟩
theorem PutK.alloc (h : PutK W w B N V e l nodes br ks ps bs) (o : Obj) : PutK W (w.alloc o) B N V e l nodes br ks ps bs := h.below ((Below.refl _ _).alloc (Nat.le_refl _) o)
theorem PutK.drew (h : PutK W w B N V e l nodes br ks ps bs) : PutK W w.drew B N V e l nodes br ks ps bs := h.below ⟨rfl, rfl, rfl, Nat.le_refl _, fun _ _ => rfl⟩
theorem ElAt.grown {b : Nat} (h : ElAt w b e) {row : Option Nat} (hg : w.grownBy w' row) (hne : some b ≠ row) : ElAt w' b e := by
  have := hg.block b h.lt hne
  unfold ElAt at *
  rw [this, h]
theorem ElAt.setOther {b : Nat} (h : ElAt w b e) {a : Addr} (ha : b ≠ a.block) (u : Value) : ElAt (w.setCell a u) b e := by
  unfold ElAt at *
  rw [Below.heap_setCell _ _ _ _ ha, h]
theorem PutK.cells (h : PutK W w B N V e l nodes br ks ps bs) : (w.cell? ⟨N.n, 0, none⟩ = some (.bool true) ∧ w.cell? ⟨N.n, 1, none⟩ = some V.l ∧ w.cell? ⟨N.n, 2, none⟩ = some (.map (some N.nm)) ∧ w.cell? ⟨N.n, 3, none⟩ = some V.n ∧ w.cell? ⟨N.n, 4, none⟩ = some (.map (some N.pm)) ∧ w.cell? ⟨N.n, 5, none⟩ = some V.b ∧ w.cell? ⟨N.n, 6, none⟩ = some (.map (some N.bm))) ∧
    w.cell? ⟨W.heap.size, 0, none⟩ = some (.int .u8 e.kind) ∧ w.cell? ⟨W.heap.size, 1, none⟩ = some (.string e.name) ∧ w.cell? ⟨W.heap.size, 2, none⟩ = some (.string e.a) ∧ w.cell? ⟨W.heap.size, 3, none⟩ = some (.string e.b) ∧ w.cell? ⟨W.heap.size, 4, none⟩ = some (.string e.c) ∧ w.cell? ⟨W.heap.size, 5, none⟩ = some (.string e.d) ∧ w.cell? ⟨W.heap.size, 6, none⟩ = some (.float .f64 e.v) ∧ w.cell? ⟨W.heap.size, 7, none⟩ = some (.int .i64 e.ph) :=
  ⟨h.R.cells, h.E.cells⟩
theorem PutK.start (h : NetR W B N V l nodes br ks ps bs) (hB : B ≤ W.heap.size) : PutK W (W.alloc (.cells (elC e).toArray 54)) B N V e l nodes br ks ps bs :=
  ⟨h.alloc _, h.out (Nat.le_refl _), ElAt.new W e, (Below.refl _ W).alloc hB _, hB⟩
theorem PutK.size (h : PutK W w B N V e l nodes br ks ps bs) : W.heap.size < w.heap.size := h.E.lt
theorem PutK.putM (h : PutK W w B N V e l nodes br ks ps bs) {s : ByteArray} (hm : MapN w' N.nm (ks ++ [s])) (hg : w.grownBy w' (some N.nm)) : PutK W w' B N V e l nodes br (ks ++ [s]) ps bs :=
  ⟨h.R.putM hm hg, h.O, h.E.grown hg (by simp [h.O.m]), h.bl.grown hg (by have := h.size; have := h.hB; omega) (fun k hk => by cases hk; exact h.R.gm), h.hB⟩
theorem PutK.putP (h : PutK W w B N V e l nodes br ks ps bs) {s : ByteArray} (hm : MapN w' N.pm (ps ++ [s])) (hg : w.grownBy w' (some N.pm)) : PutK W w' B N V e l nodes br ks (ps ++ [s]) bs :=
  ⟨h.R.putP hm hg, h.O, h.E.grown hg (by simp [h.O.p]), h.bl.grown hg (by have := h.size; have := h.hB; omega) (fun k hk => by cases hk; exact h.R.gp), h.hB⟩
theorem PutK.putB (h : PutK W w B N V e l nodes br ks ps bs) {s : ByteArray} (hm : MapN w' N.bm (bs ++ [s])) (hg : w.grownBy w' (some N.bm)) : PutK W w' B N V e l nodes br ks ps (bs ++ [s]) :=
  ⟨h.R.putB hm hg, h.O, h.E.grown hg (by simp [h.O.b]), h.bl.grown hg (by have := h.size; have := h.hB; omega) (fun k hk => by cases hk; exact h.R.gb), h.hB⟩
theorem hat_or {v : Value} {g H n c : Nat} (hat : v.ownBlock = some g ∨ g = H) : (Value.slice (some ⟨g, 0, none⟩) n c).ownBlock = v.ownBlock ∨ (Value.slice (some ⟨g, 0, none⟩) n c).ownBlock = some H := by
  rcases hat with h | h
  · exact .inl h.symm
  · exact .inr (by rw [h]; rfl)
theorem PutK.appL1 (h : PutK W w B N V e l nodes br ks ps bs) {g n c : Nat} (hg : w.grownBy w' V.l.ownBlock) (hat : V.l.ownBlock = some g ∨ g = w.heap.size) (hown : w'.ownsRow B 54 8 (.slice (some ⟨g, 0, none⟩) (l.length + 1) c) (l.length + 1) (cellsL l ++ elC e)) (hn : n = l.length + 1) :
    w'.cell? ⟨N.n, 1, none⟩ = some V.l ∧ w'.frozen? ⟨N.n, 1, none⟩ = false ∧ ElAt w' W.heap.size e ∧ PutK W (w'.setCell ⟨N.n, 1, none⟩ (.slice (some ⟨g, 0, none⟩) n c)) B N ⟨.slice (some ⟨g, 0, none⟩) n c, V.n, V.b⟩ e (l ++ [e]) nodes br ks ps bs := by
  subst hn
  obtain ⟨z1, z2, z3⟩ := h.R.appL1 hg (hat_or hat) e hown
  have hE := h.E.grown hg h.O.vl.symm
  have hB2 : B ≤ w.heap.size := by have := h.size; have := h.hB; omega
  refine ⟨z1, z2, hE, z3, ⟨h.O.n, h.O.m, h.O.p, h.O.b, ?_, h.O.vn, h.O.vb⟩, hE.setOther h.O.n _, (h.bl.grown hg hB2 (fun k hk => (h.R.L.lt k hk).1)).setCell h.R.gn _, h.hB⟩
  have := h.size
  rcases hat_or (n := l.length + 1) (c := c) hat with h1 | h1
  · rw [h1]; exact h.O.vl
  · rw [h1]; intro h2; injection h2 with h2; omega
theorem PutK.appN1 (h : PutK W w B N V e l nodes br ks ps bs) {s : ByteArray} {g n c : Nat} (hg : w.grownBy w' V.n.ownBlock) (hat : V.n.ownBlock = some g ∨ g = w.heap.size) (hown : w'.ownsRow B 9 1 (.slice (some ⟨g, 0, none⟩) (nodes.length + 1) c) (nodes.length + 1) (strL nodes ++ [.string s])) (hn : n = nodes.length + 1) :
    w'.cell? ⟨N.n, 3, none⟩ = some V.n ∧ w'.frozen? ⟨N.n, 3, none⟩ = false ∧ ElAt w' W.heap.size e ∧ PutK W (w'.setCell ⟨N.n, 3, none⟩ (.slice (some ⟨g, 0, none⟩) n c)) B N ⟨V.l, .slice (some ⟨g, 0, none⟩) n c, V.b⟩ e l (nodes ++ [s]) br ks ps bs := by
  subst hn
  obtain ⟨z1, z2, z3⟩ := h.R.appN1 hg (hat_or hat) s hown
  have hE := h.E.grown hg h.O.vn.symm
  have hB2 : B ≤ w.heap.size := by have := h.size; have := h.hB; omega
  refine ⟨z1, z2, hE, z3, ⟨h.O.n, h.O.m, h.O.p, h.O.b, h.O.vl, ?_, h.O.vb⟩, hE.setOther h.O.n _, (h.bl.grown hg hB2 (fun k hk => (h.R.R.lt k hk).1)).setCell h.R.gn _, h.hB⟩
  have := h.size
  rcases hat_or (n := nodes.length + 1) (c := c) hat with h1 | h1
  · rw [h1]; exact h.O.vn
  · rw [h1]; intro h2; injection h2 with h2; omega
theorem PutK.appB1 (h : PutK W w B N V e l nodes br ks ps bs) {s : ByteArray} {g n c : Nat} (hg : w.grownBy w' V.b.ownBlock) (hat : V.b.ownBlock = some g ∨ g = w.heap.size) (hown : w'.ownsRow B 9 1 (.slice (some ⟨g, 0, none⟩) (br.length + 1) c) (br.length + 1) (strL br ++ [.string s])) (hn : n = br.length + 1) :
    w'.cell? ⟨N.n, 5, none⟩ = some V.b ∧ w'.frozen? ⟨N.n, 5, none⟩ = false ∧ ElAt w' W.heap.size e ∧ PutK W (w'.setCell ⟨N.n, 5, none⟩ (.slice (some ⟨g, 0, none⟩) n c)) B N ⟨V.l, V.n, .slice (some ⟨g, 0, none⟩) n c⟩ e l nodes (br ++ [s]) ks ps bs := by
  subst hn
  obtain ⟨z1, z2, z3⟩ := h.R.appB1 hg (hat_or hat) s hown
  have hE := h.E.grown hg h.O.vb.symm
  have hB2 : B ≤ w.heap.size := by have := h.size; have := h.hB; omega
  refine ⟨z1, z2, hE, z3, ⟨h.O.n, h.O.m, h.O.p, h.O.b, h.O.vl, h.O.vn, ?_⟩, hE.setOther h.O.n _, (h.bl.grown hg hB2 (fun k hk => (h.R.Q.lt k hk).1)).setCell h.R.gn _, h.hB⟩
  have := h.size
  rcases hat_or (n := br.length + 1) (c := c) hat with h1 | h1
  · rw [h1]; exact h.O.vb
  · rw [h1]; intro h2; injection h2 with h2; omega
theorem OutN.appN {g n c : Nat} {o : Nat} (ho : OutN N V o) (hlt : o < w.heap.size) (hat : V.n.ownBlock = some g ∨ g = w.heap.size) : OutN N ⟨V.l, .slice (some ⟨g, 0, none⟩) n c, V.b⟩ o := by
  refine ⟨ho.n, ho.m, ho.p, ho.b, ho.vl, ?_, ho.vb⟩
  rcases hat_or (n := n) (c := c) hat with h1 | h1
  · rw [h1]; exact ho.vn
  · rw [h1]; intro h2; injection h2 with h2; omega
/-- The row of the element's four nodes. -/
def FourAt (w : World) (c : Nat) (e : El) : Prop := w.heap[c]? = some (.cells (strL (fourE e)).toArray 9 (0, 0))
theorem FourAt.lt {c : Nat} (h : FourAt w c e) : c < w.heap.size := (Array.getElem?_eq_some_iff.1 h).1
theorem FourAt.cell {c : Nat} (h : FourAt w c e) {k : Nat} {x : ByteArray} (hx : (fourE e)[k]? = some x) : w.cell? ⟨c, k, none⟩ = some (.string x) := by
  unfold FourAt at h
  simp [World.cell?, h, strL, hx]
theorem FourAt.grown {c : Nat} (h : FourAt w c e) {row : Option Nat} (hg : w.grownBy w' row) (hne : some c ≠ row) : FourAt w' c e := by
  have := hg.block c h.lt hne
  unfold FourAt at *
  rw [this, h]
theorem FourAt.setOther {c : Nat} (h : FourAt w c e) {a : Addr} (ha : c ≠ a.block) (u : Value) : FourAt (w.setCell a u) c e := by
  unfold FourAt at *
  rw [Below.heap_setCell _ _ _ _ ha, h]
theorem FourAt.below {c : Nat} (h : FourAt w c e) (hb : Below w.heap.size w w') : FourAt w' c e := h.grown (grown_of_below hb) (by simp)
/-- Up to the node k. -/
def PutLoop (W : World) (B : Nat) (N : NB) (lv bv : Value) (e : El) (l : List El) (ns br ks bs : List ByteArray) (c : Nat) (i : Value) (w : World) : Prop := ∃ k : Nat, i = .int .i64 k ∧ k ≤ 4 ∧ ∃ nv, PutK W w B N ⟨lv, nv, bv⟩ e l (((fourE e).take k).foldl putNode ns) br ks (((fourE e).take k).foldl putNode ns) bs ∧ FourAt w c e ∧ OutN N ⟨lv, nv, bv⟩ c
theorem fold_len (xs : List ByteArray) : ∀ ns : List ByteArray, (xs.foldl putNode ns).length ≤ ns.length + xs.length := by
  induction xs with
  | nil => intro ns; simp
  | cons x xs ih =>
    intro ns
    have h1 := ih (putNode ns x)
    have h2 := putNode_len ns x
    simp only [List.foldl_cons, List.length_cons]
    omega
theorem new_cases (ns : List ByteArray) (x : ByteArray) : (newNode ns x = true ∧ hasS ns x = false ∧ ((x.toList = []) = False ∧ x.toList.isEmpty = false) ∧ (x.toList == [48]) = false) ∨ (newNode ns x = false ∧ (hasS ns x = true ∨ (hasS ns x = false ∧ (((x.toList = []) = True ∧ x.toList.isEmpty = true) ∨ (((x.toList = []) = False ∧ x.toList.isEmpty = false) ∧ (x.toList == [48]) = true))))) := by
  unfold newNode
  have h1 : (x.toList != [48]) = !(x.toList == [48]) := rfl
  have h2 : (x.toList != []) = !x.toList.isEmpty := by cases x.toList <;> rfl
  have h3 : (x.toList = []) = (x.toList.isEmpty = true) := by simp
  rw [h1, h2, h3]
  generalize hasS ns x = a
  generalize x.toList.isEmpty = b
  generalize (x.toList == [48]) = c
  cases a <;> cases b <;> cases c <;> simp
theorem form_L (h : NetR w B N V l nodes br ks ps bs) : ∃ a cap, V.l = .slice a l.length cap := by
  rcases h.L.2 with ⟨h1, h2⟩ | ⟨g, cap, cur, h1, _⟩
  · exact ⟨none, 0, by rw [h1, h2]⟩
  · exact ⟨_, _, h1⟩
theorem form_N (h : NetR w B N V l nodes br ks ps bs) : ∃ a cap, V.n = .slice a nodes.length cap := by
  rcases h.R.2 with ⟨h1, h2⟩ | ⟨g, cap, cur, h1, _⟩
  · exact ⟨none, 0, by rw [h1, h2]⟩
  · exact ⟨_, _, h1⟩
theorem form_B (h : NetR w B N V l nodes br ks ps bs) : ∃ a cap, V.b = .slice a br.length cap := by
  rcases h.Q.2 with ⟨h1, h2⟩ | ⟨g, cap, cur, h1, _⟩
  · exact ⟨none, 0, by rw [h1, h2]⟩
  · exact ⟨_, _, h1⟩
end
theorem info_el : (Try.prog.info? 54).map (fun i => (i.zero, i.size, i.bytes)) = some (some (.agg #[.int .u8 0, .string ⟨#[]⟩, .string ⟨#[]⟩, .string ⟨#[]⟩, .string ⟨#[]⟩, .string ⟨#[]⟩, .float .f64 0, .int .i64 0]), 8, 104) := by kernel_rfl
theorem info_str : (Try.prog.info? 9).map (fun i => (i.zero, i.size, i.bytes)) = some (some (.string ⟨#[]⟩), 1, 16) := by kernel_rfl

end Go.Proofs.Ytgcakhmdmajplaa

namespace Go.Proofs.Ytgcakhmdmajplaa
open Go.RowKit Go.Maps

/-- The cell for the fault that is told. -/
def FltAt (w : World) (b : Nat) (x y : Int) : Prop := w.heap[b]? = some (.cells #[.int .i64 x, .int .i64 y] 29 (0, 0))
section
variable {w w' : World} {b : Nat} {x y : Int}
theorem FltAt.c0 (h : FltAt w b x y) : w.cell? ⟨b, 0, none⟩ = some (.int .i64 x) := by unfold FltAt at h; simp [World.cell?, h]
theorem FltAt.c1 (h : FltAt w b x y) : w.cell? ⟨b, 1, none⟩ = some (.int .i64 y) := by unfold FltAt at h; simp [World.cell?, h]
theorem FltAt.fr (h : FltAt w b x y) (j : Nat) : w.frozen? ⟨b, j, none⟩ = false := by unfold FltAt at h; simp [World.frozen?, h]
theorem FltAt.lt (h : FltAt w b x y) : b < w.heap.size := (Array.getElem?_eq_some_iff.1 h).1
theorem FltAt.new (w : World) (x y : Int) : FltAt (w.alloc (.cells #[.int .i64 x, .int .i64 y] 29)) w.heap.size x y := blk_new _ _
theorem FltAt.set2 (h : FltAt w b x y) (x' y' : Int) : FltAt ((w.setCell ⟨b, 0, none⟩ (.int .i64 x')).setCell ⟨b, 1, none⟩ (.int .i64 y')) b x' y' := by
  unfold FltAt at *
  simp [World.setCell, Array.getElem?_modify, h]
theorem FltAt.below {B : Nat} (h : FltAt w b x y) (hb : Below B w w') (hB : b < B) : FltAt w' b x y := by
  unfold FltAt at *
  rw [hb.block b hB, h]
end
theorem results_flt {fn : Func} {t p : Tmp} (h : fn.results = #[.tmp t, .cell p 29]) (tmps : Array Value) (w : World) (b : Nat) (x y : Int) (hp : tmps.getD p undef = .pointer (some ⟨b, 0, none⟩)) (hf : FltAt w b x y) :
    (results fn tmps).run Try.prog w = .ok (.tuple #[tmps.getD t undef, .agg #[.int .i64 x, .int .i64 y]]) w := by
  have h0 := hf.c0
  have h1 := hf.c1
  simp only [Array.getD_eq_getD_getElem?] at hp ⊢
  simp [results, h, hp, go_sem, h0, h1, Sem.run_bind, Result.andThen]
theorem below_set2 {B : Nat} {w w' : World} {b : Nat} (h : Below B w w') (x' y' : Value) (hb : B ≤ b) : Below B w ((w'.setCell ⟨b, 0, none⟩ x').setCell ⟨b, 1, none⟩ y') :=
  (h.setCell hb _).setCell hb _

/-- A slice of elements reads as L. -/
def ElsAt (w : World) (v : Value) (L : List El) : Prop := ∃ a cap, v = .slice a L.length cap ∧ ∀ k e, L[k]? = some e → ∃ b off, a = some ⟨b, off, none⟩ ∧ ∀ j x, (elC e)[j]? = some x → w.cell? ⟨b, off + k * 8 + j, none⟩ = some x
theorem ElsAt.below {w w' : World} {v : Value} {L : List El} (h : ElsAt w v L) (hb : Below w.heap.size w w') : ElsAt w' v L := by
  obtain ⟨a, cap, rfl, hr⟩ := h
  refine ⟨a, cap, rfl, fun k e he => ?_⟩
  obtain ⟨b, off, rfl, hc⟩ := hr k e he
  exact ⟨b, off, rfl, fun j x hx => by rw [hb.cell (World.block_lt_of_cell? _ _ (hc j x hx))]; exact hc j x hx⟩
theorem ElsAt.at {w : World} {a : Option Addr} {n cap : Nat} {L : List El} (h : ElsAt w (.slice a n cap) L) {k : Nat} {e : El} (he : L[k]? = some e) :
    ∃ b off, a = some ⟨b, off, none⟩ ∧ b < w.heap.size ∧ w.cell? ⟨b, off + k * 8, none⟩ = some (.int .u8 e.kind) ∧ w.cell? ⟨b, off + k * 8 + 1, none⟩ = some (.string e.name) ∧ w.cell? ⟨b, off + k * 8 + 2, none⟩ = some (.string e.a) ∧ w.cell? ⟨b, off + k * 8 + 3, none⟩ = some (.string e.b) ∧ w.cell? ⟨b, off + k * 8 + 4, none⟩ = some (.string e.c) ∧ w.cell? ⟨b, off + k * 8 + 5, none⟩ = some (.string e.d) ∧ w.cell? ⟨b, off + k * 8 + 6, none⟩ = some (.float .f64 e.v) ∧ w.cell? ⟨b, off + k * 8 + 7, none⟩ = some (.int .i64 e.ph) := by
  obtain ⟨a', cap', e1, hr⟩ := h
  cases e1
  obtain ⟨b, off, rfl, hc⟩ := hr k e he
  exact ⟨b, off, rfl, World.block_lt_of_cell? _ _ (hc 0 _ rfl), hc 0 _ rfl, hc 1 _ rfl, hc 2 _ rfl, hc 3 _ rfl, hc 4 _ rfl, hc 5 _ rfl, hc 6 _ rfl, hc 7 _ rfl⟩
theorem ElsAt.form {w : World} {v : Value} {L : List El} (h : ElsAt w v L) : ∃ a cap, v = .slice a L.length cap := by
  obtain ⟨a, cap, rfl, _⟩ := h
  exact ⟨a, cap, rfl⟩
theorem ElsAt.of_owns {w : World} {B : Nat} {v : Value} {L : List El} (h : w.ownsRow B 54 8 v L.length (cellsL L)) : ElsAt w v L := by
  rcases h.2 with ⟨rfl, h0⟩ | ⟨g, cap, cur, rfl, hb, hg, hn1, hn2, r1⟩
  · refine ⟨none, 0, by rw [h0], fun k e he => ?_⟩
    have := (List.getElem?_eq_some_iff.1 he).1
    omega
  · refine ⟨some ⟨g, 0, none⟩, cap, rfl, fun k e he => ⟨g, 0, rfl, fun j x hx => ?_⟩⟩
    have hk := (List.getElem?_eq_some_iff.1 he).1
    have hj : j < 8 := by have := (List.getElem?_eq_some_iff.1 hx).1; simpa [elC] using this
    rw [Nat.zero_add, h.cellAt (k * 8 + j) (by omega)]
    have key : ∀ (L : List El) (k : Nat), L[k]? = some e → (cellsL L)[k * 8 + j]? = some x := by
      intro L
      induction L with
      | nil => intro k h; simp at h
      | cons e' r ih =>
        intro k h
        have hc : cellsL (e' :: r) = elC e' ++ cellsL r := rfl
        cases k with
        | zero =>
          simp at h
          subst h
          rw [hc, List.getElem?_append_left (by simp [elC]; omega)]
          simpa using hx
        | succ k =>
          rw [hc, List.getElem?_append_right (by simp [elC]; omega)]
          have := ih k (by simpa using h)
          rw [← this]
          congr 1
          simp [elC]
          omega
    exact key L k he

theorem checkE_sizes {e : El} (h : checkE e = 0) : e.name.size ≤ 65536 ∧ e.a.size ≤ 65536 ∧ e.b.size ≤ 65536 ∧ e.c.size ≤ 65536 ∧ e.d.size ≤ 65536 := by
  unfold checkE at h
  split at h
  · split at h
    · split at h
      · cases h
      · rename_i h1 h2 h3
        simp only [namedE, Bool.and_eq_true, decide_eq_true_eq, Bool.or_eq_true] at h2
        obtain ⟨⟨⟨n1, n2⟩, n3⟩, n4⟩ := h2
        have hn : ∀ s, nodeS s = true → s.size ≤ 16 := by
          intro s hs
          simp only [nodeS, Bool.and_eq_true, decide_eq_true_eq] at hs
          exact hs.1.2
        have h0 : e.name.size ≤ 16 := by
          unfold nameK at n1
          split at n1
          · rename_i h5
            simp only [lenS, Bool.and_eq_true, decide_eq_true_eq] at h5
            exact h5.1.2
          · rw [← n1] at h1
            cases h1
        have hcd : e.c.size ≤ 16 ∧ e.d.size ≤ 16 := by
          rcases n4 with h5 | h5
          · simp only [argE, Bool.or_eq_true, Bool.and_eq_true, not_or, not_and] at h3
            have h6 := h3.1.2 h5
            have hz : ∀ s : ByteArray, ¬ (s.toList != []) = true → s.size ≤ 16 := by
              intro s hs
              have : s.toList = [] := by simpa using hs
              rw [ByteArray.toList_eq] at this
              have h7 : s.data.size = 0 := by simpa using congrArg List.length this
              show s.data.size ≤ 16
              omega
            exact ⟨hz _ h6.1, hz _ h6.2⟩
          · exact ⟨hn _ h5.1, hn _ h5.2⟩
        have := hn _ n2
        have := hn _ n3
        omega
    · cases h
  · cases h

/-- Up to the element i. -/
structure OfInv (L : List El) (i : Nat) (s : NetS) : Prop where
  l : s.l = L.take i
  g : netG net0 0 L = netG s i (L.drop i)
  n : s.nodes.length ≤ 4 * i
  b : s.br.length ≤ i
  h : ∀ x, hasS s.br x = true → hasS (nmL s.l) x = true
theorem OfInv.start (L : List El) : OfInv L 0 net0 := ⟨rfl, rfl, Nat.le_refl _, Nat.le_refl _, fun x h => by cases h⟩
section
variable {L : List El} {i : Nat} {s : NetS} {e : El}
theorem drop_at (he : L[i]? = some e) : L.drop i = e :: L.drop (i + 1) := by
  have hi := (List.getElem?_eq_some_iff.1 he).1
  rw [List.drop_eq_getElem_cons hi]
  congr 1
  have := List.getElem?_eq_getElem hi
  rw [this] at he
  exact Option.some.inj he
theorem OfInv.bad1 (h : OfInv L i s) (he : L[i]? = some e) (hc : checkE e ≠ 0) : netG net0 0 L = .inl (checkE e, (i : Int)) := by
  rw [h.g, drop_at he]
  unfold netG
  rw [if_neg hc]
theorem OfInv.bad2 (h : OfInv L i s) (he : L[i]? = some e) (hc : checkE e = 0) (hn : hasS (nmL s.l) e.name = true) : netG net0 0 L = .inl (9, (i : Int)) := by
  rw [h.g, drop_at he]
  unfold netG
  rw [if_pos hc, if_pos hn]
theorem OfInv.step (h : OfInv L i s) (he : L[i]? = some e) (hc : checkE e = 0) (hn : hasS (nmL s.l) e.name = false) : OfInv L (i + 1) (putN s e) := by
  have h1 := putN_nodes s e
  refine ⟨?_, ?_, ?_, ?_, ?_⟩
  · show s.l ++ [e] = _
    rw [h.l, List.take_add_one, he]
    rfl
  · rw [h.g, drop_at he]
    conv => lhs; unfold netG
    rw [if_pos hc, if_neg (by simp [hn])]
  · have := h.n; omega
  · have := h.b
    show (if brK e.kind = true then s.br ++ [e.name] else s.br).length ≤ _
    split
    · rw [List.length_append, List.length_singleton]; omega
    · omega
  · intro x hx
    have hm : nmL (putN s e).l = nmL s.l ++ [e.name] := by simp [nmL, putN]
    rw [hm, hasS_snoc]
    change hasS (if brK e.kind = true then s.br ++ [e.name] else s.br) x = true at hx
    split at hx
    · rw [hasS_snoc, Bool.or_eq_true] at hx
      rcases hx with hx | hx
      · rw [h.h x hx]; rfl
      · rw [hx, Bool.or_true]
    · rw [h.h x hx]; rfl
theorem OfInv.done (h : OfInv L L.length s) : netG net0 0 L = .inr s := by
  rw [h.g, List.drop_length]
  rfl
end
/-- What netlist.Of hands back. -/
def RetNet (w : World) (r : (Int × Int) × Option NetS) (E : Ending) (w' : World) : Prop :=
  match r.2 with
  | none => E = .returned (.tuple #[.pointer none, .agg #[.int .i64 r.1.1, .int .i64 r.1.2]]) ∧ Below w.heap.size w w'
  | some s => ∃ N V, E = .returned (.tuple #[.pointer (some ⟨N.n, 0, none⟩), .agg #[.int .i64 r.1.1, .int .i64 r.1.2]]) ∧ NetR w' (w.heap.size + 1) N V s.l s.nodes s.br (nmL s.l) s.nodes s.br ∧ Below w.heap.size w w'
theorem RetNet_none {w : World} {x y : Int} {E : Ending} {w' : World} (h1 : E = .returned (.tuple #[.pointer none, .agg #[.int .i64 x, .int .i64 y]])) (h2 : Below w.heap.size w w') {r : (Int × Int) × Option NetS} (hr : r = ((x, y), none)) : RetNet w r E w' := by
  subst hr
  exact ⟨h1, h2⟩
theorem RetNet_some {w : World} {E : Ending} {w' : World} {s : NetS} {N : NB} {V : NV} (h1 : E = .returned (.tuple #[.pointer (some ⟨N.n, 0, none⟩), .agg #[.int .i64 0, .int .i64 0]])) (hR : NetR w' (w.heap.size + 1) N V s.l s.nodes s.br (nmL s.l) s.nodes s.br) (h2 : Below w.heap.size w w') {r : (Int × Int) × Option NetS} (hr : r = ((0, 0), some s)) : RetNet w r E w' := by
  subst hr
  exact ⟨N, V, h1, hR, h2⟩
/-- Within the loop. -/
def OfLoop (W : World) (L : List El) (N : NB) (i : Value) (w : World) : Prop := ∃ (k : Nat) (s : NetS) (V : NV), i = .int .i64 k ∧ k ≤ L.length ∧ OfInv L k s ∧ NetR w (W.heap.size + 1) N V s.l s.nodes s.br (nmL s.l) s.nodes s.br ∧ FltAt w W.heap.size 0 0 ∧ Below W.heap.size W w
theorem NetR.new (w : World) {B : Nat} (hB : B ≤ w.heap.size) : NetR ((((w.alloc (.map #[] 0)).alloc (.map #[] 0)).alloc (.map #[] 0)).alloc (.cells #[.bool true, .slice none 0 0, .map (some w.heap.size), .slice none 0 0, .map (some (w.heap.size + 1)), .slice none 0 0, .map (some (w.heap.size + 2))] 59)) B ⟨w.heap.size + 3, w.heap.size, w.heap.size + 1, w.heap.size + 2⟩ ⟨.slice none 0 0, .slice none 0 0, .slice none 0 0⟩ [] [] [] [] [] [] := by
  have h1 := MapN.new w
  have h2 := MapN.new (w.alloc (.map #[] 0))
  have h3 := MapN.new ((w.alloc (.map #[] 0)).alloc (.map #[] 0))
  have bl : ∀ (w : World) (o : Obj), Below w.heap.size w (w.alloc o) := fun w o => (Below.refl _ w).alloc (Nat.le_refl _) o
  simp only [World.size_alloc] at h2 h3
  exact {
    blk := by
      have := blk_new (((w.alloc (.map #[] 0)).alloc (.map #[] 0)).alloc (.map #[] 0)) (.cells #[.bool true, .slice none 0 0, .map (some w.heap.size), .slice none 0 0, .map (some (w.heap.size + 1)), .slice none 0 0, .map (some (w.heap.size + 2))] 59)
      simp only [World.size_alloc] at this
      exact this
    L := World.ownsRow_nil _ _ _ _
    R := World.ownsRow_nil _ _ _ _
    Q := World.ownsRow_nil _ _ _ _
    KN := ((h1.below (bl _ _)).below (bl _ _)).below (bl _ _)
    KP := (h2.below (bl _ _)).below (bl _ _)
    KB := h3.below (bl _ _)
    ap := by constructor <;> simp [Value.ownBlock]
    gn := by show B ≤ w.heap.size + 3; omega
    gm := hB
    gp := by show B ≤ w.heap.size + 1; omega
    gb := by show B ≤ w.heap.size + 2; omega }
theorem netF_inl {L : List El} (hl : L.length ≤ 256) {f : Int × Int} (h : netG net0 0 L = .inl f) : netF L = (f, none) := by
  unfold netF
  rw [if_neg (by omega), h]
theorem netF_inr {L : List El} (hl : L.length ≤ 256) {s : NetS} (h : netG net0 0 L = .inr s) : netF L = if 32 < s.nodes.length ∨ 64 < s.nodes.length + s.br.length then ((3, -1), none) else ((0, 0), some s) := by
  unfold netF
  rw [if_neg (by omega), h]
theorem of_step {W wr w1 : World} {N : NB} {V : NV} {s : NetS} {e : El} (hR : NetR wr (W.heap.size + 1) N V s.l s.nodes s.br (nmL s.l) s.nodes s.br) (hF : FltAt wr W.heap.size 0 0) (hb : Below W.heap.size W wr) (hb1 : Below (wr.alloc (.cells (elC e).toArray 54)).heap.size (wr.alloc (.cells (elC e).toArray 54)) w1) :
    NetR w1 (W.heap.size + 1) N V s.l s.nodes s.br (nmL s.l) s.nodes s.br ∧ FltAt w1 W.heap.size 0 0 ∧ Below W.heap.size W w1 ∧ ElAt w1 wr.heap.size e := by
  have h1 : Below wr.heap.size wr (wr.alloc (.cells (elC e).toArray 54)) := (Below.refl _ _).alloc (Nat.le_refl _) _
  have h2 := h1.trans (hb1.mono (by simp))
  have hz := hb.size
  exact ⟨hR.below h2, hF.below h2 hF.lt, hb.trans (h2.mono hz), (ElAt.new wr e).below hb1 (by simp)⟩
/-- A store below the base. -/
theorem NetR.setBelow {w : World} {B : Nat} {N : NB} {V : NV} {l : List El} {nodes br ks ps bs : List ByteArray} (h : NetR w B N V l nodes br ks ps bs) {a : Addr} (ha : a.block < B) (u : Value) : NetR (w.setCell a u) B N V l nodes br ks ps bs := by
  have hg : w.grownBy (w.setCell a u) (some a.block) := ⟨rfl, rfl, rfl, by simp [World.setCell], fun k _ hi => Below.heap_setCell _ _ _ _ (fun e => hi (by rw [e]))⟩
  have h1 := h.gn
  have h2 := h.gm
  have h3 := h.gp
  have h4 := h.gb
  have own : ∀ v : Value, (∀ k, v.ownBlock = some k → B ≤ k ∧ k < w.heap.size) → v.ownBlock = none ∨ v.ownBlock ≠ some a.block := by
    intro v hv
    refine .inr fun e => ?_
    have := (hv _ e).1
    omega
  exact h.grown hg (by simp; omega) (by simp; omega) (by simp; omega) (by simp; omega) (own _ h.L.lt) (own _ h.R.lt) (own _ h.Q.lt)
end Go.Proofs.Ytgcakhmdmajplaa

namespace Go.Proofs.Ytgcakhmdmajplaa
open Go.RowKit

def el0 : El := ⟨0, ⟨#[]⟩, ⟨#[]⟩, ⟨#[]⟩, ⟨#[]⟩, ⟨#[]⟩, 0, 0⟩
def ladS (x : El) (a b : ByteArray) : El := ⟨x.kind, x.name, a, b, ⟨#[]⟩, ⟨#[]⟩, x.v, 0⟩
/-- The told list lies in the box lb. -/
structure LstAt (w : World) (B lb : Nat) (v : Value) (L : List El) : Prop where
  box : w.heap[lb]? = some (.cells #[v] 24 (0, 0))
  own : w.ownsRow B 54 8 v L.length (cellsL L)
  ne : v.ownBlock ≠ some lb
  ge : B ≤ lb
section
variable {w w' : World} {B lb : Nat} {v : Value} {L : List El}
theorem LstAt.lt (h : LstAt w B lb v L) : lb < w.heap.size := (Array.getElem?_eq_some_iff.1 h.box).1
theorem LstAt.cell (h : LstAt w B lb v L) : w.cell? ⟨lb, 0, none⟩ = some v := by have := h.box; simp [World.cell?, this]
theorem LstAt.frozen (h : LstAt w B lb v L) : w.frozen? ⟨lb, 0, none⟩ = false := by have := h.box; simp [World.frozen?, this]
theorem LstAt.grown (h : LstAt w B lb v L) {row : Option Nat} (hg : w.grownBy w' row) (h1 : some lb ≠ row) (h2 : v.ownBlock = none ∨ v.ownBlock ≠ row) : LstAt w' B lb v L :=
  ⟨by rw [hg.block _ h.lt h1]; exact h.box, h.own.kept hg h2, h.ne, h.ge⟩
theorem LstAt.below (h : LstAt w B lb v L) (hb : Below w.heap.size w w') : LstAt w' B lb v L := h.grown (grown_of_below hb) (by simp) (own_none _)
theorem LstAt.alloc (h : LstAt w B lb v L) (o : Obj) : LstAt (w.alloc o) B lb v L := h.below ((Below.refl _ w).alloc (Nat.le_refl _) o)
theorem LstAt.form (h : LstAt w B lb v L) : ∃ a cap, v = .slice a L.length cap := by
  rcases h.own.2 with ⟨h1, h2⟩ | ⟨g, cap, cur, h1, _⟩
  · exact ⟨none, 0, by rw [h1, h2]⟩
  · exact ⟨_, _, h1⟩
theorem LstAt.app (h : LstAt w B lb v L) {g n c : Nat} (hg : w.grownBy w' v.ownBlock) (hat : v.ownBlock = some g ∨ g = w.heap.size) (e : El) (hown : w'.ownsRow B 54 8 (.slice (some ⟨g, 0, none⟩) (L.length + 1) c) (L.length + 1) (cellsL L ++ elC e)) (hn : n = L.length + 1) :
    w'.cell? ⟨lb, 0, none⟩ = some v ∧ w'.frozen? ⟨lb, 0, none⟩ = false ∧ LstAt (w'.setCell ⟨lb, 0, none⟩ (.slice (some ⟨g, 0, none⟩) n c)) B lb (.slice (some ⟨g, 0, none⟩) n c) (L ++ [e]) := by
  subst hn
  have hb : w'.heap[lb]? = some (.cells #[v] 24 (0, 0)) := by rw [hg.block _ h.lt h.ne.symm]; exact h.box
  have hne : (Value.slice (some ⟨g, 0, none⟩) (L.length + 1) c).ownBlock ≠ some lb := by
    rcases hat with h1 | h1
    · have := h.ne
      rw [h1] at this
      exact this
    · rw [h1]
      intro h2
      injection h2 with h2
      have h3 := h.lt
      simp only at h2
      omega
  exact ⟨by simp [World.cell?, hb], by simp [World.frozen?, hb], one_setCell hb, by rw [List.length_append, cellsL_snoc]; exact ownsRow_setCell_other hown hne _, hne, h.ge⟩
end

def RetPutL (W : World) (B lb : Nat) (L : List El) (E : Ending) (w' : World) : Prop := E = .returned (.tuple #[]) ∧ Below B W w' ∧ ∃ v, LstAt w' B lb v L

def RetEls (w : World) (L : List El) (E : Ending) (w' : World) : Prop := ∃ v, E = .returned v ∧ w'.ownsRow w.heap.size 54 8 v L.length (cellsL L) ∧ Below w.heap.size w w'
end Go.Proofs.Ytgcakhmdmajplaa
