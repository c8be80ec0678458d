/- What holds within netlist.put. No condition. -/
import Derived.Test.YtfnbohpfcdddgaaNNet
import Derived.Test.YtfnbohpfcdddgaaNChk
namespace Go.Proofs.Ytfnbohpfcdddgaa
open Go.RowKit Go.Maps

/-- Within put: the net, apart from the box of the element; the box; nothing else is turned. -/
structure PutK (W : World) (w : World) (B : Nat) (N : NB) (V : NV) (e : El) (l : List El) (nodes br ks ps bs : List ByteArray) : Prop where
  R : NetR w B N V l nodes br ks ps bs
  O : OutN N V W.heap.size
  E : ElAt w W.heap.size e
  bl : Below B W w
  hB : B ≤ W.heap.size
section
variable {W w w' : World} {B : Nat} {N : NB} {V : NV} {e : El} {l : List El} {nodes br ks ps bs : List ByteArray}
theorem PutK.below (h : PutK W w B N V e l nodes br ks ps bs) (hb : Below w.heap.size w w') : PutK W w' B N V e l nodes br ks ps bs :=
  ⟨h.R.below hb, h.O, h.E.below hb h.E.lt, h.bl.trans (hb.mono (by have := h.bl.size; have := h.hB; omega)), h.hB⟩
theorem PutK.alloc (h : PutK W w B N V e l nodes br ks ps bs) (o : Obj) : PutK W (w.alloc o) B N V e l nodes br ks ps bs := h.below ((Below.refl _ _).alloc (Nat.le_refl _) o)
theorem PutK.drew (h : PutK W w B N V e l nodes br ks ps bs) : PutK W w.drew B N V e l nodes br ks ps bs := h.below ⟨rfl, rfl, rfl, Nat.le_refl _, fun _ _ => rfl⟩
theorem ElAt.grown {b : Nat} (h : ElAt w b e) {row : Option Nat} (hg : w.grownBy w' row) (hne : some b ≠ row) : ElAt w' b e := by
  have := hg.block b h.lt hne
  unfold ElAt at *
  rw [this, h]
theorem ElAt.setOther {b : Nat} (h : ElAt w b e) {a : Addr} (ha : b ≠ a.block) (u : Value) : ElAt (w.setCell a u) b e := by
  unfold ElAt at *
  rw [Below.heap_setCell _ _ _ _ ha, h]
theorem PutK.cells (h : PutK W w B N V e l nodes br ks ps bs) : (w.cell? ⟨N.n, 0, none⟩ = some (.bool true) ∧ w.cell? ⟨N.n, 1, none⟩ = some V.l ∧ w.cell? ⟨N.n, 2, none⟩ = some (.map (some N.nm)) ∧ w.cell? ⟨N.n, 3, none⟩ = some V.n ∧ w.cell? ⟨N.n, 4, none⟩ = some (.map (some N.pm)) ∧ w.cell? ⟨N.n, 5, none⟩ = some V.b ∧ w.cell? ⟨N.n, 6, none⟩ = some (.map (some N.bm))) ∧
    w.cell? ⟨W.heap.size, 0, none⟩ = some (.int .u8 e.kind) ∧ w.cell? ⟨W.heap.size, 1, none⟩ = some (.string e.name) ∧ w.cell? ⟨W.heap.size, 2, none⟩ = some (.string e.a) ∧ w.cell? ⟨W.heap.size, 3, none⟩ = some (.string e.b) ∧ w.cell? ⟨W.heap.size, 4, none⟩ = some (.string e.c) ∧ w.cell? ⟨W.heap.size, 5, none⟩ = some (.string e.d) ∧ w.cell? ⟨W.heap.size, 6, none⟩ = some (.float .f64 e.v) ∧ w.cell? ⟨W.heap.size, 7, none⟩ = some (.int .i64 e.ph) :=
  ⟨h.R.cells, h.E.cells⟩
theorem PutK.start (h : NetR W B N V l nodes br ks ps bs) (hB : B ≤ W.heap.size) : PutK W (W.alloc (.cells (elC e).toArray 74)) B N V e l nodes br ks ps bs :=
  ⟨h.alloc _, h.out (Nat.le_refl _), ElAt.new W e, (Below.refl _ W).alloc hB _, hB⟩
theorem PutK.size (h : PutK W w B N V e l nodes br ks ps bs) : W.heap.size < w.heap.size := h.E.lt
theorem PutK.putM (h : PutK W w B N V e l nodes br ks ps bs) {s : ByteArray} (hm : MapN w' N.nm (ks ++ [s])) (hg : w.grownBy w' (some N.nm)) : PutK W w' B N V e l nodes br (ks ++ [s]) ps bs :=
  ⟨h.R.putM hm hg, h.O, h.E.grown hg (by simp [h.O.m]), h.bl.grown hg (by have := h.size; have := h.hB; omega) (fun k hk => by cases hk; exact h.R.gm), h.hB⟩
theorem PutK.putP (h : PutK W w B N V e l nodes br ks ps bs) {s : ByteArray} (hm : MapN w' N.pm (ps ++ [s])) (hg : w.grownBy w' (some N.pm)) : PutK W w' B N V e l nodes br ks (ps ++ [s]) bs :=
  ⟨h.R.putP hm hg, h.O, h.E.grown hg (by simp [h.O.p]), h.bl.grown hg (by have := h.size; have := h.hB; omega) (fun k hk => by cases hk; exact h.R.gp), h.hB⟩
theorem PutK.putB (h : PutK W w B N V e l nodes br ks ps bs) {s : ByteArray} (hm : MapN w' N.bm (bs ++ [s])) (hg : w.grownBy w' (some N.bm)) : PutK W w' B N V e l nodes br ks ps (bs ++ [s]) :=
  ⟨h.R.putB hm hg, h.O, h.E.grown hg (by simp [h.O.b]), h.bl.grown hg (by have := h.size; have := h.hB; omega) (fun k hk => by cases hk; exact h.R.gb), h.hB⟩
theorem hat_or {v : Value} {g H n c : Nat} (hat : v.ownBlock = some g ∨ g = H) : (Value.slice (some ⟨g, 0, none⟩) n c).ownBlock = v.ownBlock ∨ (Value.slice (some ⟨g, 0, none⟩) n c).ownBlock = some H := by
  rcases hat with h | h
  · exact .inl h.symm
  · exact .inr (by rw [h]; rfl)
theorem PutK.appL1 (h : PutK W w B N V e l nodes br ks ps bs) {g n c : Nat} (hg : w.grownBy w' V.l.ownBlock) (hat : V.l.ownBlock = some g ∨ g = w.heap.size) (hown : w'.ownsRow B 74 8 (.slice (some ⟨g, 0, none⟩) (l.length + 1) c) (l.length + 1) (cellsL l ++ elC e)) (hn : n = l.length + 1) :
    w'.cell? ⟨N.n, 1, none⟩ = some V.l ∧ w'.frozen? ⟨N.n, 1, none⟩ = false ∧ ElAt w' W.heap.size e ∧ PutK W (w'.setCell ⟨N.n, 1, none⟩ (.slice (some ⟨g, 0, none⟩) n c)) B N ⟨.slice (some ⟨g, 0, none⟩) n c, V.n, V.b⟩ e (l ++ [e]) nodes br ks ps bs := by
  subst hn
  obtain ⟨z1, z2, z3⟩ := h.R.appL1 hg (hat_or hat) e hown
  have hE := h.E.grown hg h.O.vl.symm
  have hB2 : B ≤ w.heap.size := by have := h.size; have := h.hB; omega
  refine ⟨z1, z2, hE, z3, ⟨h.O.n, h.O.m, h.O.p, h.O.b, ?_, h.O.vn, h.O.vb⟩, hE.setOther h.O.n _, (h.bl.grown hg hB2 (fun k hk => (h.R.L.lt k hk).1)).setCell h.R.gn _, h.hB⟩
  have := h.size
  rcases hat_or (n := l.length + 1) (c := c) hat with h1 | h1
  · rw [h1]; exact h.O.vl
  · rw [h1]; intro h2; injection h2 with h2; omega
theorem PutK.appN1 (h : PutK W w B N V e l nodes br ks ps bs) {s : ByteArray} {g n c : Nat} (hg : w.grownBy w' V.n.ownBlock) (hat : V.n.ownBlock = some g ∨ g = w.heap.size) (hown : w'.ownsRow B 9 1 (.slice (some ⟨g, 0, none⟩) (nodes.length + 1) c) (nodes.length + 1) (strL nodes ++ [.string s])) (hn : n = nodes.length + 1) :
    w'.cell? ⟨N.n, 3, none⟩ = some V.n ∧ w'.frozen? ⟨N.n, 3, none⟩ = false ∧ ElAt w' W.heap.size e ∧ PutK W (w'.setCell ⟨N.n, 3, none⟩ (.slice (some ⟨g, 0, none⟩) n c)) B N ⟨V.l, .slice (some ⟨g, 0, none⟩) n c, V.b⟩ e l (nodes ++ [s]) br ks ps bs := by
  subst hn
  obtain ⟨z1, z2, z3⟩ := h.R.appN1 hg (hat_or hat) s hown
  have hE := h.E.grown hg h.O.vn.symm
  have hB2 : B ≤ w.heap.size := by have := h.size; have := h.hB; omega
  refine ⟨z1, z2, hE, z3, ⟨h.O.n, h.O.m, h.O.p, h.O.b, h.O.vl, ?_, h.O.vb⟩, hE.setOther h.O.n _, (h.bl.grown hg hB2 (fun k hk => (h.R.R.lt k hk).1)).setCell h.R.gn _, h.hB⟩
  have := h.size
  rcases hat_or (n := nodes.length + 1) (c := c) hat with h1 | h1
  · rw [h1]; exact h.O.vn
  · rw [h1]; intro h2; injection h2 with h2; omega
theorem PutK.appB1 (h : PutK W w B N V e l nodes br ks ps bs) {s : ByteArray} {g n c : Nat} (hg : w.grownBy w' V.b.ownBlock) (hat : V.b.ownBlock = some g ∨ g = w.heap.size) (hown : w'.ownsRow B 9 1 (.slice (some ⟨g, 0, none⟩) (br.length + 1) c) (br.length + 1) (strL br ++ [.string s])) (hn : n = br.length + 1) :
    w'.cell? ⟨N.n, 5, none⟩ = some V.b ∧ w'.frozen? ⟨N.n, 5, none⟩ = false ∧ ElAt w' W.heap.size e ∧ PutK W (w'.setCell ⟨N.n, 5, none⟩ (.slice (some ⟨g, 0, none⟩) n c)) B N ⟨V.l, V.n, .slice (some ⟨g, 0, none⟩) n c⟩ e l nodes (br ++ [s]) ks ps bs := by
  subst hn
  obtain ⟨z1, z2, z3⟩ := h.R.appB1 hg (hat_or hat) s hown
  have hE := h.E.grown hg h.O.vb.symm
  have hB2 : B ≤ w.heap.size := by have := h.size; have := h.hB; omega
  refine ⟨z1, z2, hE, z3, ⟨h.O.n, h.O.m, h.O.p, h.O.b, h.O.vl, h.O.vn, ?_⟩, hE.setOther h.O.n _, (h.bl.grown hg hB2 (fun k hk => (h.R.Q.lt k hk).1)).setCell h.R.gn _, h.hB⟩
  have := h.size
  rcases hat_or (n := br.length + 1) (c := c) hat with h1 | h1
  · rw [h1]; exact h.O.vb
  · rw [h1]; intro h2; injection h2 with h2; omega
theorem OutN.appN {g n c : Nat} {o : Nat} (ho : OutN N V o) (hlt : o < w.heap.size) (hat : V.n.ownBlock = some g ∨ g = w.heap.size) : OutN N ⟨V.l, .slice (some ⟨g, 0, none⟩) n c, V.b⟩ o := by
  refine ⟨ho.n, ho.m, ho.p, ho.b, ho.vl, ?_, ho.vb⟩
  rcases hat_or (n := n) (c := c) hat with h1 | h1
  · rw [h1]; exact ho.vn
  · rw [h1]; intro h2; injection h2 with h2; omega
/-- The row of the element's four nodes. -/
def FourAt (w : World) (c : Nat) (e : El) : Prop := w.heap[c]? = some (.cells (strL (fourE e)).toArray 9 (0, 0))
theorem FourAt.lt {c : Nat} (h : FourAt w c e) : c < w.heap.size := (Array.getElem?_eq_some_iff.1 h).1
theorem FourAt.cell {c : Nat} (h : FourAt w c e) {k : Nat} {x : ByteArray} (hx : (fourE e)[k]? = some x) : w.cell? ⟨c, k, none⟩ = some (.string x) := by
  unfold FourAt at h
  simp [World.cell?, h, strL, hx]
theorem FourAt.grown {c : Nat} (h : FourAt w c e) {row : Option Nat} (hg : w.grownBy w' row) (hne : some c ≠ row) : FourAt w' c e := by
  have := hg.block c h.lt hne
  unfold FourAt at *
  rw [this, h]
theorem FourAt.setOther {c : Nat} (h : FourAt w c e) {a : Addr} (ha : c ≠ a.block) (u : Value) : FourAt (w.setCell a u) c e := by
  unfold FourAt at *
  rw [Below.heap_setCell _ _ _ _ ha, h]
theorem FourAt.below {c : Nat} (h : FourAt w c e) (hb : Below w.heap.size w w') : FourAt w' c e := h.grown (grown_of_below hb) (by simp)
/-- Up to the node k. -/
def PutLoop (W : World) (B : Nat) (N : NB) (lv bv : Value) (e : El) (l : List El) (ns br ks bs : List ByteArray) (c : Nat) (i : Value) (w : World) : Prop := ∃ k : Nat, i = .int .i64 k ∧ k ≤ 4 ∧ ∃ nv, PutK W w B N ⟨lv, nv, bv⟩ e l (((fourE e).take k).foldl putNode ns) br ks (((fourE e).take k).foldl putNode ns) bs ∧ FourAt w c e ∧ OutN N ⟨lv, nv, bv⟩ c
theorem fold_len (xs : List ByteArray) : ∀ ns : List ByteArray, (xs.foldl putNode ns).length ≤ ns.length + xs.length := by
  induction xs with
  | nil => intro ns; simp
  | cons x xs ih =>
    intro ns
    have h1 := ih (putNode ns x)
    have h2 := putNode_len ns x
    simp only [List.foldl_cons, List.length_cons]
    omega
theorem new_cases (ns : List ByteArray) (x : ByteArray) : (newNode ns x = true ∧ hasS ns x = false ∧ ((x.toList = []) = False ∧ x.toList.isEmpty = false) ∧ (x.toList == [48]) = false) ∨ (newNode ns x = false ∧ (hasS ns x = true ∨ (hasS ns x = false ∧ (((x.toList = []) = True ∧ x.toList.isEmpty = true) ∨ (((x.toList = []) = False ∧ x.toList.isEmpty = false) ∧ (x.toList == [48]) = true))))) := by
  unfold newNode
  have h1 : (x.toList != [48]) = !(x.toList == [48]) := rfl
  have h2 : (x.toList != []) = !x.toList.isEmpty := by cases x.toList <;> rfl
  have h3 : (x.toList = []) = (x.toList.isEmpty = true) := by simp
  rw [h1, h2, h3]
  generalize hasS ns x = a
  generalize x.toList.isEmpty = b
  generalize (x.toList == [48]) = c
  cases a <;> cases b <;> cases c <;> simp
theorem form_L (h : NetR w B N V l nodes br ks ps bs) : ∃ a cap, V.l = .slice a l.length cap := by
  rcases h.L.2 with ⟨h1, h2⟩ | ⟨g, cap, cur, h1, _⟩
  · exact ⟨none, 0, by rw [h1, h2]⟩
  · exact ⟨_, _, h1⟩
theorem form_N (h : NetR w B N V l nodes br ks ps bs) : ∃ a cap, V.n = .slice a nodes.length cap := by
  rcases h.R.2 with ⟨h1, h2⟩ | ⟨g, cap, cur, h1, _⟩
  · exact ⟨none, 0, by rw [h1, h2]⟩
  · exact ⟨_, _, h1⟩
theorem form_B (h : NetR w B N V l nodes br ks ps bs) : ∃ a cap, V.b = .slice a br.length cap := by
  rcases h.Q.2 with ⟨h1, h2⟩ | ⟨g, cap, cur, h1, _⟩
  · exact ⟨none, 0, by rw [h1, h2]⟩
  · exact ⟨_, _, h1⟩
end
theorem info_el : (Try.prog.info? 74).map (fun i => (i.zero, i.size, i.bytes)) = some (some (.agg #[.int .u8 0, .string ⟨#[]⟩, .string ⟨#[]⟩, .string ⟨#[]⟩, .string ⟨#[]⟩, .string ⟨#[]⟩, .float .f64 0, .int .i64 0]), 8, 104) := by kernel_rfl
theorem info_str : (Try.prog.info? 9).map (fun i => (i.zero, i.size, i.bytes)) = some (some (.string ⟨#[]⟩), 1, 16) := by kernel_rfl

end Go.Proofs.Ytfnbohpfcdddgaa

