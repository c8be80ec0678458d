/- stamp.Matrix: what it tells. Conditions: the net is made, its elements may be. -/
import Derived.Test.YtgcakhmdmajplaaTpDM
import Derived.Test.YtgcakhmdmajplaaKitE1M
import Derived.Deep.RegionHeld3
import Derived.Deep.AppendLies
namespace Go.Proofs.Ytgcakhmdmajplaa
open Go.RowKit Go.Maps

theorem results_mx {fn : Func} {p q : Tmp} (h : fn.results = #[.cell p 35, .cell q 29]) (tmps : Array Value) (w : World) (b d : Nat) (x y z u v : Value) (hp : tmps.getD p undef = .pointer (some ⟨b, 0, none⟩)) (hq : tmps.getD q undef = .pointer (some ⟨d, 0, none⟩))
    (c0 : w.cell? ⟨b, 0, none⟩ = some x) (c1 : w.cell? ⟨b, 1, none⟩ = some y) (c2 : w.cell? ⟨b, 2, none⟩ = some z) (d0 : w.cell? ⟨d, 0, none⟩ = some u) (d1 : w.cell? ⟨d, 1, none⟩ = some v) :
    (results fn tmps).run Try.prog w = .ok (.tuple #[.agg #[x, y, z], .agg #[u, v]]) w := by
  simp only [Array.getD_eq_getD_getElem?] at hp hq ⊢
  simp [results, h, hp, hq, go_sem, c0, c1, c2, d0, d1, Sem.run_bind, Result.andThen]
/-- The result's variable. -/
def MxAt (w : World) (b : Nat) (x y : Int) (v : Value) : Prop := w.heap[b]? = some (.cells #[.int .i64 x, .int .i64 y, v] 35 (0, 0))
section
variable {w w' : World} {b : Nat} {x y : Int} {v : Value}
theorem MxAt.lt (h : MxAt w b x y v) : b < w.heap.size := (Array.getElem?_eq_some_iff.1 h).1
theorem MxAt.below (h : MxAt w b x y v) (hb : Below w.heap.size w w') : MxAt w' b x y v := (hb.block b h.lt).trans h
theorem MxAt.grown (h : MxAt w b x y v) {r : Option Nat} (hg : w.grownBy w' r) (hne : some b ≠ r) : MxAt w' b x y v := (hg.block b h.lt hne).trans h
theorem MxAt.c0 (h : MxAt w b x y v) : w.cell? ⟨b, 0, none⟩ = some (.int .i64 x) := by unfold MxAt at h; simp [World.cell?, h]
theorem MxAt.c1 (h : MxAt w b x y v) : w.cell? ⟨b, 1, none⟩ = some (.int .i64 y) := by unfold MxAt at h; simp [World.cell?, h]
theorem MxAt.c2 (h : MxAt w b x y v) : w.cell? ⟨b, 2, none⟩ = some v := by unfold MxAt at h; simp [World.cell?, h]
theorem MxAt.fr (h : MxAt w b x y v) (j : Nat) : w.frozen? ⟨b, j, none⟩ = false := by unfold MxAt at h; simp [World.frozen?, h]
theorem MxAt.set (h : MxAt w b x y v) (x' y' : Int) (v' : Value) : MxAt (((w.setCell ⟨b, 0, none⟩ (.int .i64 x')).setCell ⟨b, 1, none⟩ (.int .i64 y')).setCell ⟨b, 2, none⟩ v') b x' y' v' := by
  unfold MxAt at *
  simp [World.setCell, Array.getElem?_modify, h]
end
theorem MxAt.other {w : World} {b : Nat} {x y : Int} {v : Value} (h : MxAt w b x y v) {a : Addr} (ha : b ≠ a.block) (u : Value) : MxAt (w.setCell a u) b x y v := by
  unfold MxAt at *
  rw [Below.heap_setCell _ _ _ _ ha, h]
theorem FltAt.other {w : World} {b : Nat} {x y : Int} (h : FltAt w b x y) {a : Addr} (ha : b ≠ a.block) (u : Value) : FltAt (w.setCell a u) b x y := by
  unfold FltAt at *
  rw [Below.heap_setCell _ _ _ _ ha, h]
/-- 'append(nil, row...)' at a step of a region that draws its order. -/
theorem step_app_all {ops : Array Oper} {o : Oper} {a : Act} {K : Act → World → Prop} {Q : Exit → Act → World → Prop} {E : Prop} {w : World} (hgd : o.guard = none) (s x : Operand)
    (ho : o.op = .call { callee := .builtin .append, args := #[s, x], argTypes := #[33, 33] }) (base b off m c : Nat) (news : List Value) (hl : news.length = m) (hnews : ∀ j u, news[j]? = some u → w.cell? ⟨b, off + j, none⟩ = some u) (h1 : ∀ u ∈ news, u.oneCell' = true) (hm : 0 < m) (h63 : m ≤ 100000) (hbase : base ≤ w.heap.size)
    (hs : a.eval s = .slice none 0 0) (hx : a.eval x = .slice (some ⟨b, off, none⟩) m c)
    (h : ∀ g cap w', w'.ownsRow base 44 1 (.slice (some ⟨g, 0, none⟩) m cap) m news → w.grownBy w' none → K (a.put o.dst (.slice (some ⟨g, 0, none⟩) m cap)) w') :
    if Region.wanted o (yielded ops a.tmps) = true then Oper.wp Try.prog o a w K Q else E := by
  obtain ⟨iC, hi1, hz0, hz1, hz2⟩ := info_parts info_c
  refine step_append_lies w hgd s x _ ho base 44 iC _ 1 16 Try.underlying33 hi1 hz0 hz1 hz2 rfl (by decide) (.slice none 0 0) 0 [] hs (World.ownsRow_nil _ _ _ _) ⟨b, off, none⟩ m c news hx (by omega) (fun j u hu => by rw [Go.WideShapes.add_plain]; exact hnews j u hu) h1 hm (by simp only [maxLen]; omega) (by omega) hbase _ rfl ?_
  intro g cap w' k1 k2 k3 k4
  refine (by simpa using h g cap w' (by simpa using k1) k2)
theorem lt_heap {w : World} {b : Nat} {o : Obj} (h : w.heap[b]? = some o) : b < w.heap.size := (Array.getElem?_eq_some_iff.1 h).1
theorem gr_cell0 {w w' : World} (h : w.grownBy w' none) {p : Addr} {v : Value} (hc : w.cell? p = some v) : w'.cell? p = some v := by
  have h1 := h.block p.block (World.block_lt_of_cell? _ _ hc) (by simp)
  unfold World.cell? at hc ⊢
  rw [h1]
  exact hc
theorem cell_other {w : World} {a p : Addr} {u x : Value} (h : w.cell? p = some x) (hne : p.block ≠ a.block) : (w.setCell a u).cell? p = some x := by
  unfold World.cell? at h ⊢
  rw [Below.heap_setCell _ _ _ _ hne]
  exact h
theorem gr_none {w w' : World} (h : w.grownBy w' none) : Below w.heap.size w w' := ⟨h.os, h.tape, h.output, h.size, fun k hk => h.block k hk (by simp)⟩
theorem own_setB {w : World} {base size n : Nat} {e : TypeId} {v : Value} {xs : List Value} (h : w.ownsRow base e size v n xs) {a : Addr} (ha : a.block < base) (u : Value) : (w.setCell a u).ownsRow base e size v n xs := by
  have hg : w.grownBy (w.setCell a u) (some a.block) := ⟨rfl, rfl, rfl, by simp [World.setCell], fun k _ hi => Below.heap_setCell _ _ _ _ (fun e => hi (by rw [e]))⟩
  refine h.kept hg (.inr fun e => ?_)
  have := (h.lt _ e).1
  omega
theorem own_weak {w : World} {b b' e size : Nat} {v : Value} {n : Nat} {xs : List Value} (h : w.ownsRow b e size v n xs) (hb : b' ≤ b) : w.ownsRow b' e size v n xs := by
  refine ⟨h.1, ?_⟩
  rcases h.2 with h2 | ⟨g, cap, cur, rfl, hbg, r⟩
  · exact .inl h2
  · exact .inr ⟨g, cap, cur, rfl, Nat.le_trans hb hbg, r⟩
theorem cell_drew {w : World} {p : Addr} {x : Option Value} (h : w.cell? p = x) : w.drew.cell? p = x := h
theorem cell_at {w : World} {b e : Nat} {cs : Array Value} {j : Nat} {x : Value} (h : w.heap[b]? = some (.cells cs e (0, 0))) (hj : cs[j]? = some x) : w.cell? ⟨b, j, none⟩ = some x := by simp [World.cell?, h, hj]
theorem FltAt.grown {w w' : World} {b : Nat} {x y : Int} (h : FltAt w b x y) {r : Option Nat} (hg : w.grownBy w' r) (hne : some b ≠ r) : FltAt w' b x y := (hg.block b h.lt hne).trans h
/-- The two results, stored. -/
theorem mx_cells {w w2 : World} {x y p q : Int} {v : Value} (M : MxAt w2 w.heap.size x y v) (F : FltAt w2 (w.heap.size + 1) p q) (b2 : Below w.heap.size w w2) (x' y' : Int) (v' : Value) (p' q' : Int) : ∃ w3, w3 = (((((w2.setCell ⟨w.heap.size, 0, none⟩ (.int .i64 x')).setCell ⟨w.heap.size, 1, none⟩ (.int .i64 y')).setCell ⟨w.heap.size, 2, none⟩ v').setCell ⟨w.heap.size + 1, 0, none⟩ (.int .i64 p')).setCell ⟨w.heap.size + 1, 1, none⟩ (.int .i64 q')) ∧ MxAt w3 w.heap.size x' y' v' ∧ FltAt w3 (w.heap.size + 1) p' q' ∧ Below w.heap.size w w3 := by
  have h1 : w.heap.size ≠ w.heap.size + 1 := by omega
  refine ⟨_, rfl, ((M.set x' y' v').other h1 _).other h1 _, (((F.other (by simp) _).other (by simp) _).other (by simp) _).set2 _ _, bls (bls (bls (bls (bls b2 (Nat.le_refl _)) (Nat.le_refl _)) (Nat.le_refl _)) (by simp)) (by simp)⟩
theorem mx_ret {fn : Func} (h : fn.results = #[.cell 4 35, .cell 5 29]) {tmps : Array Value} {w w3 : World} {x y p q : Int} {v : Value} (M : MxAt w3 w.heap.size x y v) (F : FltAt w3 (w.heap.size + 1) p q) (hp : tmps.getD 4 undef = .pointer (some ⟨w.heap.size, 0, none⟩)) (hq : tmps.getD 5 undef = .pointer (some ⟨w.heap.size + 1, 0, none⟩)) : (results fn tmps).run Try.prog w3 = .ok (.tuple #[.agg #[.int .i64 x, .int .i64 y, v], .agg #[.int .i64 p, .int .i64 q]]) w3 :=
  results_mx h _ _ _ _ _ _ _ _ _ hp hq M.c0 M.c1 M.c2 F.c0 F.c1
set_option maxRecDepth 100000 in
set_option maxHeartbeats 8000000 in
theorem Matrix_any {w : World} {B : Nat} {N : NB} {V : NV} {L : List El} {nodes br ks : List ByteArray} (K : NetR w B N V L nodes br ks nodes br) (hh : hasS ks ⟨#[]⟩ = false) (hs : nodes.length + br.length ≤ 64) (hL : L.length ≤ 256) (hck : ∀ e ∈ L, checkE e = 0) (hbr : ∀ e ∈ L, brK e.kind = true → hasS br e.name = true) (hkw : ∀ e ∈ L, e.kind < 256 ∧ IsW e.v) (o : Nat) :
    Calls Try.prog 8 #[.pointer (some ⟨N.n, 0, none⟩), .float .f64 o] w (RetMx w (nodes.length + br.length) (matF nodes br L (val o))) := by
  have b0 : Below w.heap.size w ((w.alloc (.cells #[.int .i64 0, .int .i64 0, .slice none 0 0] 35)).alloc (.cells #[.int .i64 0, .int .i64 0] 29)) := bla _ (bl_a _ _)
  have M0 : MxAt ((w.alloc (.cells #[.int .i64 0, .int .i64 0, .slice none 0 0] 35)).alloc (.cells #[.int .i64 0, .int .i64 0] 29)) w.heap.size 0 0 (.slice none 0 0) := MxAt.below (blk_new _ _) (bl_a _ _)
  have F0 : FltAt ((w.alloc (.cells #[.int .i64 0, .int .i64 0, .slice none 0 0] 35)).alloc (.cells #[.int .i64 0, .int .i64 0] 29)) (w.heap.size + 1) 0 0 := flt_n _ 0 0 (by simp)
  have HM := hid (made_any (K.below b0) hh)
  have HI := hid fun w => isInf_any o w
  go_enter Try.func8, Try.ntmps8
  go_upto_region 1 with (fail)
  obtain ⟨w1, hw1⟩ : ∃ w1, w1 = ((w.alloc (.cells #[.int .i64 0, .int .i64 0, .slice none 0 0] 35)).alloc (.cells #[.int .i64 0, .int .i64 0] 29)) := ⟨_, rfl⟩
  rw [← hw1] at b0 M0 F0 HM ⊢
  clear hw1
  go_upto_region 3 with (go_at_call 25; (with_reducible refine HM.out.mono ?_); rintro E2 w2 ⟨rfl, hb2⟩)
  have b2 := bl2 b0 hb2
  have M2 := M0.below hb2
  have F2 := flt_b F0 hb2
  have m0 := M2.c0
  have m1 := M2.c1
  have m2 := M2.c2
  have p0 := F2.c0
  have p1 := F2.c1
  have m3 := M2.fr 0
  have m4 := M2.fr 1
  have m5 := M2.fr 2
  have p3 := F2.fr 0
  have p4 := F2.fr 1
  have hm : matF nodes br L (val o) = if mxE (val o) = 0 then (if (matG nodes br (val o) 0 bd0 L).1.1 = 0 then ((0, 0), (List.range ((nodes.length + br.length) * (nodes.length + br.length))).map (matG nodes br (val o) 0 bd0 L).2.z) else ((matG nodes br (val o) 0 bd0 L).1, [])) else ((mxE (val o), -1), []) := rfl
  have hm2 : mxE (val o) = if (isInf (val o) || !feq (val o) (val o)) = true then 5 else if fle (val o) (val 0) = true then 2 else 0 := rfl
  generalize matF nodes br L (val o) = MF at *
  clear b0 hb2 M0 F0 HM
  generalize isInf (val o) = q1 at *
  generalize hq2 : feq (val o) (val o) = q2 at hm2
  generalize hq3 : fle (val o) (val 0) = q3 at hm2
  cases q1 with
  | true =>
    have HF := hid (hm.trans (by rw [hm2]; rfl) : MF = ((5, -1), []))
    clear hm hm2
    go_wp2_with (first | (go_at_call 26; (with_reducible refine (HI.out _).mono ?_); rintro E3 w3 ⟨rfl, rfl⟩) | ((with_reducible refine upon_fadd ?_); intro r n hr hl) | ((with_reducible refine upon_fsub ?_); intro r n hr hl) | ((with_reducible refine upon_fmul ?_); intro r n hr hl) | ((with_reducible refine upon_fdiv ?_); intro r n hr hl) | ((with_reducible refine upon_fmax (by assumption) (by assumption) ?_); intro r n hr hl) | ((with_reducible refine upon_fmin (by assumption) (by assumption) ?_); intro r n hr hl))
    obtain ⟨w3, hw3, M3, F3, b3⟩ := mx_cells M2 F2 b2 0 0 (.slice none 0 0) 5 (-1)
    rw [← hw3]
    refine bodyPost_ret (mx_ret rfl M3 F3 rfl rfl) rfl ?_
    exact ⟨_, [], by rw [HF.out]; rfl, World.ownsRow_nil _ _ _ _, by rw [HF.out]; rfl, b3⟩
  | false =>
    cases q2 with
    | false =>
      have HF := hid (hm.trans (by rw [hm2]; rfl) : MF = ((5, -1), []))
      clear hm hm2
      go_wp2_with (first | (go_at_call 26; (with_reducible refine (HI.out _).mono ?_); rintro E3 w3 ⟨rfl, rfl⟩) | ((with_reducible refine upon_fadd ?_); intro r n hr hl) | ((with_reducible refine upon_fsub ?_); intro r n hr hl) | ((with_reducible refine upon_fmul ?_); intro r n hr hl) | ((with_reducible refine upon_fdiv ?_); intro r n hr hl) | ((with_reducible refine upon_fmax (by assumption) (by assumption) ?_); intro r n hr hl) | ((with_reducible refine upon_fmin (by assumption) (by assumption) ?_); intro r n hr hl))
      obtain ⟨w3, hw3, M3, F3, b3⟩ := mx_cells M2 F2 b2 0 0 (.slice none 0 0) 5 (-1)
      rw [← hw3]
      refine bodyPost_ret (mx_ret rfl M3 F3 rfl rfl) rfl ?_
      exact ⟨_, [], by rw [HF.out]; rfl, World.ownsRow_nil _ _ _ _, by rw [HF.out]; rfl, b3⟩
    | true =>
      cases q3 with
      | true =>
        have HF := hid (hm.trans (by rw [hm2]; rfl) : MF = ((2, -1), []))
        clear hm hm2
        go_wp2_with (first | (go_at_call 26; (with_reducible refine (HI.out _).mono ?_); rintro E3 w3 ⟨rfl, rfl⟩) | ((with_reducible refine upon_fadd ?_); intro r n hr hl) | ((with_reducible refine upon_fsub ?_); intro r n hr hl) | ((with_reducible refine upon_fmul ?_); intro r n hr hl) | ((with_reducible refine upon_fdiv ?_); intro r n hr hl) | ((with_reducible refine upon_fmax (by assumption) (by assumption) ?_); intro r n hr hl) | ((with_reducible refine upon_fmin (by assumption) (by assumption) ?_); intro r n hr hl))
        obtain ⟨w3, hw3, M3, F3, b3⟩ := mx_cells M2 F2 b2 0 0 (.slice none 0 0) 2 (-1)
        rw [← hw3]
        refine bodyPost_ret (mx_ret rfl M3 F3 rfl rfl) rfl ?_
        exact ⟨_, [], by rw [HF.out]; rfl, World.ownsRow_nil _ _ _ _, by rw [HF.out]; rfl, b3⟩
      | false =>
        have hm3 : MF = if (matG nodes br (val o) 0 bd0 L).1.1 = 0 then ((0, 0), (List.range ((nodes.length + br.length) * (nodes.length + br.length))).map (matG nodes br (val o) 0 bd0 L).2.z) else ((matG nodes br (val o) 0 bd0 L).1, []) := hm.trans (by rw [hm2]; rfl)
        clear hm hm2
        replace hm3 := hid hm3
        go_upto_region 7 with (first | (go_at_call 26; (with_reducible refine (HI.out _).mono ?_); rintro E3 w3 ⟨rfl, rfl⟩) | ((with_reducible refine upon_fadd ?_); intro r n hr hl) | ((with_reducible refine upon_fsub ?_); intro r n hr hl) | ((with_reducible refine upon_fmul ?_); intro r n hr hl) | ((with_reducible refine upon_fdiv ?_); intro r n hr hl) | ((with_reducible refine upon_fmax (by assumption) (by assumption) ?_); intro r n hr hl) | ((with_reducible refine upon_fmin (by assumption) (by assumption) ?_); intro r n hr hl))
        clear m0 m1 m2 m3 m4 m5 p0 p1 p3 p4 HI
        have HNd := hid (nNodes_any (K.below b2) (by omega))
        have HO := hid fun w' (h : Below w.heap.size w w') => Order_any (K.below h) (by omega) (by omega)
        go_upto_region 8 with (first
          | (go_at_call 10; (with_reducible refine HNd.out.mono ?_); rintro E3 w3 ⟨v3, rfl, o3, hb3⟩; obtain ⟨a3, c3, rfl, -⟩ := owns_cap o3; have b3 := bl2 b2 hb3)
          | (go_at_call 22; (with_reducible refine (HO.out _ b3).mono ?_); rintro E4 w4 ⟨rfl, ⟨n4, rfl⟩⟩))
        have H5 := bd_new N.n nodes.length (nodes.length + br.length) ((nodes.length : Int) + br.length) (by push_cast; rfl) (w3.drewN n4)
        generalize ((Try.zeroCells71.setIfInBounds 0 (.pointer (some ⟨N.n, 0, none⟩))).setIfInBounds 1 (.int .i64 nodes.length)).setIfInBounds 2 (.int .i64 ((nodes.length : Int) + br.length)) = cs at *
        have b5 : Below w.heap.size w ((w3.drewN n4).alloc (.cells cs 71)) := bla _ (below_drewN' b3 n4)
        have z5 : w3.heap.size < ((w3.drewN n4).alloc (.cells cs 71)).heap.size := by simp [World.drewN]
        have M5 := (M2.below hb3).below (w' := (w3.drewN n4).alloc (.cells cs 71)) (bla _ (below_drewN' (Below.refl _ _) n4))
        have F5 : FltAt ((w3.drewN n4).alloc (.cells cs 71)) (w.heap.size + 1) 0 0 := flt_b (flt_b F2 hb3) (bla _ (below_drewN' (Below.refl _ _) n4))
        have hW3 := b3.size
        have hWb : w.heap.size + 1 < w3.heap.size := Nat.lt_of_lt_of_le F2.lt hb3.size
        obtain ⟨w5, hw5⟩ : ∃ w5, w5 = (w3.drewN n4).alloc (.cells cs 71) := ⟨_, rfl⟩
        rw [← hw5] at b5 M5 F5 z5 ⊢
        have H5' : BdAt w5 w3.heap.size N.n nodes.length (nodes.length + br.length) false (fun _ => (0, 0)) := by rw [hw5]; exact H5
        obtain ⟨b, hb⟩ : ∃ b, b = w3.heap.size := ⟨_, rfl⟩
        rw [← hb] at H5' z5 hW3 hWb ⊢
        clear hw5 H5 HNd o3 b3 hb3 M2 F2 b2 hb
        have P5 : BdP w5 b N.n nodes.length (nodes.length + br.length) bd0 := ⟨_, H5', fun k => rfl⟩
        clear H5'
        have HT : Hid (Calls Try.prog 27 #[] w5 (RetV w5 (.agg #[.func (.func 45) #[] #[], .func (.func 46) #[] #[], .func (.func 46) #[] #[], .func (.func 46) #[] #[], .func (.func 45) #[] #[], .func (.func 47) #[] #[], .func (.func 48) #[] #[], .func (.func 49) #[] #[], .func (.func 46) #[] #[]]))) := hid (stamps_any w5)
        go_upto_region 9 with (go_at_call 27; (with_reducible refine HT.out.mono ?_); rintro E6 w6 ⟨rfl, hb6⟩)
        have P6 := P5.below hb6
        have M6 := M5.below hb6
        have F6 := flt_b F5 hb6
        have b6 := bl2 b5 hb6
        have z6 : b < w6.heap.size := Nat.lt_of_lt_of_le z5 hb6.size
        have bT : Below w6.heap.size w6 (w6.alloc (.cells #[.func (.func 45) #[] #[], .func (.func 46) #[] #[], .func (.func 46) #[] #[], .func (.func 46) #[] #[], .func (.func 45) #[] #[], .func (.func 47) #[] #[], .func (.func 48) #[] #[], .func (.func 49) #[] #[], .func (.func 46) #[] #[]] 73)) := bl_a _ _
        have T7 : (w6.alloc (.cells #[.func (.func 45) #[] #[], .func (.func 46) #[] #[], .func (.func 46) #[] #[], .func (.func 46) #[] #[], .func (.func 45) #[] #[], .func (.func 47) #[] #[], .func (.func 48) #[] #[], .func (.func 49) #[] #[], .func (.func 46) #[] #[]] 73)).heap[w6.heap.size]? = some (.cells #[.func (.func 45) #[] #[], .func (.func 46) #[] #[], .func (.func 46) #[] #[], .func (.func 46) #[] #[], .func (.func 45) #[] #[], .func (.func 47) #[] #[], .func (.func 48) #[] #[], .func (.func 49) #[] #[], .func (.func 46) #[] #[]] 73 (0, 0)) := blk_new _ _
        have z7 : w6.heap.size < (w6.alloc (.cells #[.func (.func 45) #[] #[], .func (.func 46) #[] #[], .func (.func 46) #[] #[], .func (.func 46) #[] #[], .func (.func 45) #[] #[], .func (.func 47) #[] #[], .func (.func 48) #[] #[], .func (.func 49) #[] #[], .func (.func 46) #[] #[]] 73)).heap.size := by simp
        obtain ⟨w7, hw7⟩ : ∃ w7, w7 = w6.alloc (.cells #[.func (.func 45) #[] #[], .func (.func 46) #[] #[], .func (.func 46) #[] #[], .func (.func 46) #[] #[], .func (.func 45) #[] #[], .func (.func 47) #[] #[], .func (.func 48) #[] #[], .func (.func 49) #[] #[], .func (.func 46) #[] #[]] 73) := ⟨_, rfl⟩
        rw [← hw7] at bT T7 z7 ⊢
        clear hw7
        have P7 := P6.below bT
        have M7 := M6.below bT
        have F7 := flt_b F6 bT
        have b7 := bl2 b6 bT
        clear P5 M5 F5 b5 P6 M6 F6 b6 bT hb6 HT HO
        have HE := hid (nElements_any (K.below b7) (by omega))
        go_wp2_with (go_at_call 16; (with_reducible refine HE.out.mono ?_); rintro E8 w8 ⟨v8, rfl, o8, hb8⟩; obtain ⟨a8, c8, rfl, -⟩ := owns_cap o8)
        have P8 := P7.below hb8
        have M8 := M7.below hb8
        have F8 := flt_b F7 hb8
        have b8 := bl2 b7 hb8
        have T8 := (hb8.block _ z7).trans T7
        have S8 : StK w B N V L nodes br ks w8 b bd0 := ⟨K, b8, hW3, P8, hs⟩
        have E8 := ElsAt.of_owns o8
        clear P7 M7 F7 b7 P8 HE hb8
        have hmt : matG nodes br (val o) 0 bd0 L = matG nodes br (val o) 0 bd0 (L.drop 0) := by rw [List.drop_zero]
        go_loopw [45] (fun i w' => ∃ (k : Nat) (S : Bd), i = .int .i64 k ∧ k ≤ L.length ∧ w8.grownBy w' (some b) ∧ StK w B N V L nodes br ks w' b S ∧ matG nodes br (val o) 0 bd0 L = matG nodes br (val o) k S (L.drop k)) (fun i _ => L.length + 1 - (intOf i).toNat)
        case atStart => exact ⟨0, bd0, rfl, Nat.zero_le _, gr_refl _ _, S8, hmt⟩
        case round =>
          obtain ⟨k, S, rfl, hk, hg, hS, hm⟩ := hrel
          clear hmt S8
          have Mr := M8.grown hg (by simp; omega)
          have Fr : FltAt wr (w.heap.size + 1) 0 0 := by
            refine (hg.block _ F8.lt ?_).trans F8
            simp
            omega
          have br0 := hS.bl
          by_cases hkn : k < L.length
          · obtain ⟨e, he⟩ : ∃ e, L[k]? = some e := ⟨L[k]'hkn, List.getElem?_eq_getElem hkn⟩
            have hmem := List.mem_of_getElem? he
            obtain ⟨⟨hk1, hk8⟩, hES⟩ := checkE_ok (hck e hmem)
            have hbe := hbr e hmem
            obtain ⟨hk256, hvw⟩ := hkw e hmem
            have hdr : L.drop k = e :: L.drop (k + 1) := by rw [List.drop_eq_getElem_cons hkn, (List.getElem?_eq_some_iff.1 he).2]
            rw [hdr] at hm
            obtain ⟨be, off, ea, -⟩ := E8.at he
            subst ea
            have hbeb : be ≠ b := by
              have := (o8.lt be rfl).1
              omega
            obtain ⟨x0, x1, x2, x3, x4, x5, x6, x7⟩ := E8.cellsAt he
            have x0 := gr_cell hg hbeb x0
            have x1 := gr_cell hg hbeb x1
            have x2 := gr_cell hg hbeb x2
            have x3 := gr_cell hg hbeb x3
            have x4 := gr_cell hg hbeb x4
            have x5 := gr_cell hg hbeb x5
            have x6 := gr_cell hg hbeb x6
            have x7 := gr_cell hg hbeb x7
            have g6 : (k : Int) < (L.length : Int) := by omega
            obtain ⟨w9, hw9, bw9, e0, e1, e2, e3, e4, e5, e6, e7⟩ := el_open wr e
            have S9 := hS.below bw9
            have g9 := gr_trans hg (gr_of _ bw9)
            have M9 := Mr.below bw9
            have F9 := flt_b Fr bw9
            go_upto_region 12 with (fail)
            rw [← hw9]
            clear hw9 bw9 x0 x1 x2 x3 x4 x5 x6 x7 Mr Fr br0 hS he hdr
            have HA : ∀ w', Calls Try.prog 28 #[.agg #[.int .u8 e.kind, .string e.name, .string e.a, .string e.b, .string e.c, .string e.d, .float .f64 e.v, .int .i64 e.ph], .float .f64 o] w' (RetCB w' (recG true e (val o)) (recE true e (val o))) := fun w' => AOf_any e hk256 hvw o w'
            have HT : ∀ w' S' x y, StK w B N V L nodes br ks w' b S' → Calls Try.prog (fnK e.kind) #[.pointer (some ⟨b, 0, none⟩), .agg #[.int .u8 e.kind, .string e.name, .string e.a, .string e.b, .string e.c, .string e.d, .float .f64 e.v, .int .i64 e.ph], .complex .f64 x y] w' (RetSt w B N V L nodes br ks w' b (stampE nodes br S' e (cv x y))) := fun w' S' x y h => stamp_any e hES hbe x y h
            have hm2 : matG nodes br (val o) k S (e :: L.drop (k + 1)) = if admK e.kind = true ∧ recE true e (val o) ≠ 0 then ((recE true e (val o), (k : Int)), S) else if (stampE nodes br S e (if admK e.kind = true then recG true e (val o) else (val 0, val 0))).over = true then ((6, (k : Int)), stampE nodes br S e (if admK e.kind = true then recG true e (val o) else (val 0, val 0))) else matG nodes br (val o) (k + 1) (stampE nodes br S e (if admK e.kind = true then recG true e (val o) else (val 0, val 0))) (L.drop (k + 1)) := rfl
            rw [hm2] at hm
            clear hm2 hES hbe hk256 hvw hmem
            generalize recG true e (val o) = gg at *
            generalize recE true e (val o) = ee at *
            have T9 := T8
            rcases (by omega : (e.kind = 1 ∨ e.kind = 2 ∨ e.kind = 3 ∨ e.kind = 8) ∨ (e.kind = 4 ∨ e.kind = 5 ∨ e.kind = 6 ∨ e.kind = 7)) with hkd | hkd
            · have hadm : admK e.kind = true := by unfold admK; rcases hkd with h | h | h | h <;> rw [h] <;> rfl
              have hfn : fnK e.kind = 46 := by unfold fnK; rcases hkd with h | h | h | h <;> rw [h] <;> rfl
              rw [hadm] at hm
              rw [hfn] at HT
              simp only [true_and, if_true] at hm
              clear hadm hfn
              by_cases hee : ee = 0
              · subst hee
                simp only [ne_eq, not_true_eq_false, if_false] at hm
                rcases hkd with hkd | hkd | hkd | hkd
                all_goals
                  rw [hkd] at e0 HA HT
                  push_cast at e0 HA HT
                  replace HA := hid HA
                  go_upto_region 22 with (go_at_call 28; (with_reducible refine (HA.out _).mono ?_); rintro E10 w10 ⟨x, y, rfl, hb10, hxy, -, -⟩)
                  have S10 := S9.below hb10
                  have g10 := gr_trans g9 (gr_of _ hb10)
                  have M10 := M9.below hb10
                  have F10 := flt_b F9 hb10
                  have y0 := (hb10.cell (World.block_lt_of_cell? _ _ e0)).trans e0
                  have y1 := (hb10.cell (World.block_lt_of_cell? _ _ e1)).trans e1
                  have y2 := (hb10.cell (World.block_lt_of_cell? _ _ e2)).trans e2
                  have y3 := (hb10.cell (World.block_lt_of_cell? _ _ e3)).trans e3
                  have y4 := (hb10.cell (World.block_lt_of_cell? _ _ e4)).trans e4
                  have y5 := (hb10.cell (World.block_lt_of_cell? _ _ e5)).trans e5
                  have y6 := (hb10.cell (World.block_lt_of_cell? _ _ e6)).trans e6
                  have y7 := (hb10.cell (World.block_lt_of_cell? _ _ e7)).trans e7
                  have T10 := (g10.block w6.heap.size (lt_heap T8) (by simp; omega)).trans T8
                  have t1 := cell_at (j := 1) T10 rfl
                  have t2 := cell_at (j := 2) T10 rfl
                  have t3 := cell_at (j := 3) T10 rfl
                  have t8 := cell_at (j := 8) T10 rfl
                  have HS := HT w10.drew S x y (S10.drewN 1)
                  rw [hxy] at HS
                  replace HS := hid HS
                  clear HA HT S9 g9 M9 F9 hb10 T10 hxy
                  go_region_with (first | (go_at_call 46; (with_reducible refine HS.out.mono ?_); rintro E11 w11 ⟨rfl, S11, b11⟩))
                  all_goals
                    clear HS y0 y1 y2 y3 y4 y5 y6 y7 t1 t2 t3 t8
                    have g11 := gr_trans (gr_drewN g10 1) b11
                    have M11 := (M10.grown (gr_drewN (gr_refl _ (some b)) 1) (by simp; omega)).grown b11 (by simp; omega)
                    have F11 := (F10.grown (gr_drewN (gr_refl _ (some b)) 1) (by simp; omega)).grown b11 (by simp; omega)
                    have b11' := S11.bl
                    obtain ⟨zs, hB, -⟩ := S11.P
                    have z3 := hB.c3
                    clear hB zs e0 e1 e2 e3 e4 e5 e6 e7 b11
                    generalize hS2 : stampE nodes br S e gg = S2 at *
                    clear hS2
                    obtain ⟨ov, hov⟩ : ∃ ov, ov = S2.over := ⟨_, rfl⟩
                    rw [← hov] at z3 hm
                    replace hov := hid hov
                    cases ov with
                    | true =>
                      have HF := hid (hm3.out.trans (by rw [hm]; rfl) : MF = ((6, (k : Int)), []))
                      clear hm hm3
                      have m0 := M11.c0
                      have m1 := M11.c1
                      have m2 := M11.c2
                      have p0 := F11.c0
                      have p1 := F11.c1
                      have m3 := M11.fr 0
                      have m4 := M11.fr 1
                      have m5 := M11.fr 2
                      have p3 := F11.fr 0
                      have p4 := F11.fr 1
                      go_wp2
                      obtain ⟨w12, hw12, M12, F12, b12⟩ := mx_cells M11 F11 b11' 0 0 (.slice none 0 0) 6 (k : Int)
                      rw [← hw12]
                      refine bodyPost_ret (mx_ret rfl M12 F12 rfl rfl) rfl ?_
                      exact ⟨_, [], by rw [HF.out]; rfl, World.ownsRow_nil _ _ _ _, by rw [HF.out]; rfl, b12⟩
                    | false =>
                      have HM := hid (hm.trans (if_neg (by decide)))
                      clear hm
                      go_wp2
                      go_roundw
                      case rel => exact ⟨k + 1, S2, by go_num, by omega, g11, S11, HM.out⟩
                      case measure => simp [intOf] <;> omega

              · have HF := hid (hm3.out.trans (by rw [hm, if_pos hee]; exact if_neg hee) : MF = ((ee, (k : Int)), []))
                have g7 : (ee == 0) = false := by simpa using hee
                clear hm hm3
                rcases hkd with hkd | hkd | hkd | hkd
                all_goals
                  rw [hkd] at e0 HA
                  push_cast at e0 HA
                  replace HA := hid HA
                  go_wp2_with (go_at_call 28; (with_reducible refine (HA.out _).mono ?_); rintro E10 w10 ⟨x, y, rfl, hb10, hxy, -, -⟩; have M10 := M9.below hb10; have F10 := flt_b F9 hb10; have m0 := M10.c0; have m1 := M10.c1; have m2 := M10.c2; have p0 := F10.c0; have p1 := F10.c1; have m3 := M10.fr 0; have m4 := M10.fr 1; have m5 := M10.fr 2; have p3 := F10.fr 0; have p4 := F10.fr 1)
                  have b10 := bl2 S9.bl hb10
                  obtain ⟨w12, hw12, M12, F12, b12⟩ := mx_cells M10 F10 b10 0 0 (.slice none 0 0) ee (k : Int)
                  rw [← hw12]
                  refine bodyPost_ret (mx_ret rfl M12 F12 rfl rfl) rfl ?_
                  exact ⟨_, [], by rw [HF.out]; simp only [if_neg hee], World.ownsRow_nil _ _ _ _, by rw [HF.out]; rfl, b12⟩
            · have hadm : admK e.kind = false := by unfold admK; rcases hkd with h | h | h | h <;> rw [h] <;> rfl
              rw [hadm] at hm
              simp only [Bool.false_eq_true, false_and, if_false] at hm
              clear hadm HA
              rcases hkd with hkd | hkd | hkd | hkd
              · have hfn : fnK e.kind = 45 := by unfold fnK; rw [hkd]; rfl
                rw [hfn] at HT
                rw [hkd] at e0 HT
                push_cast at e0 HT
                clear hfn
                go_upto_region 22 with (fail)
                have g10 := g9
                have M10 := M9
                have F10 := F9
                have T10 := (g10.block w6.heap.size (lt_heap T8) (by simp; omega)).trans T8
                have t4 := cell_at (j := 4) T10 rfl
                have HS : Hid (Calls Try.prog 45 #[.pointer (some ⟨b, 0, none⟩), .agg #[.int .u8 4, .string e.name, .string e.a, .string e.b, .string e.c, .string e.d, .float .f64 e.v, .int .i64 e.ph], .complex .f64 0 0] w9.drew (RetSt w B N V L nodes br ks w9.drew b (stampE nodes br S e (val 0, val 0)))) := hid (HT w9.drew S 0 0 (S9.drewN 1))
                clear HT S9 T10
                go_region_with (first | (go_at_call 45; (with_reducible refine HS.out.mono ?_); rintro E11 w11 ⟨rfl, S11, b11⟩))
                all_goals
                  clear HS t4
                  have g11 := gr_trans (gr_drewN g10 1) b11
                  have M11 := (M10.grown (gr_drewN (gr_refl _ (some b)) 1) (by simp; omega)).grown b11 (by simp; omega)
                  have F11 := (F10.grown (gr_drewN (gr_refl _ (some b)) 1) (by simp; omega)).grown b11 (by simp; omega)
                  have b11' := S11.bl
                  obtain ⟨zs, hB, -⟩ := S11.P
                  have z3 := hB.c3
                  clear hB zs e0 e1 e2 e3 e4 e5 e6 e7 b11
                  generalize hS2 : stampE nodes br S e (val 0, val 0) = S2 at *
                  clear hS2
                  obtain ⟨ov, hov⟩ : ∃ ov, ov = S2.over := ⟨_, rfl⟩
                  rw [← hov] at z3 hm
                  replace hov := hid hov
                  cases ov with
                  | true =>
                    have HF := hid (hm3.out.trans (by rw [hm]; rfl) : MF = ((6, (k : Int)), []))
                    clear hm hm3
                    have m0 := M11.c0
                    have m1 := M11.c1
                    have m2 := M11.c2
                    have p0 := F11.c0
                    have p1 := F11.c1
                    have m3 := M11.fr 0
                    have m4 := M11.fr 1
                    have m5 := M11.fr 2
                    have p3 := F11.fr 0
                    have p4 := F11.fr 1
                    go_wp2
                    obtain ⟨w12, hw12, M12, F12, b12⟩ := mx_cells M11 F11 b11' 0 0 (.slice none 0 0) 6 (k : Int)
                    rw [← hw12]
                    refine bodyPost_ret (mx_ret rfl M12 F12 rfl rfl) rfl ?_
                    exact ⟨_, [], by rw [HF.out]; rfl, World.ownsRow_nil _ _ _ _, by rw [HF.out]; rfl, b12⟩
                  | false =>
                    have HM := hid (hm.trans (if_neg (by decide)))
                    clear hm
                    go_wp2
                    go_roundw
                    case rel => exact ⟨k + 1, S2, by go_num, by omega, g11, S11, HM.out⟩
                    case measure => simp [intOf] <;> omega
              · have hfn : fnK e.kind = 47 := by unfold fnK; rw [hkd]; rfl
                rw [hfn] at HT
                rw [hkd] at e0 HT
                push_cast at e0 HT
                clear hfn
                go_upto_region 22 with (fail)
                have g10 := g9
                have M10 := M9
                have F10 := F9
                have T10 := (g10.block w6.heap.size (lt_heap T8) (by simp; omega)).trans T8
                have t5 := cell_at (j := 5) T10 rfl
                have HS : Hid (Calls Try.prog 47 #[.pointer (some ⟨b, 0, none⟩), .agg #[.int .u8 5, .string e.name, .string e.a, .string e.b, .string e.c, .string e.d, .float .f64 e.v, .int .i64 e.ph], .complex .f64 0 0] w9.drew (RetSt w B N V L nodes br ks w9.drew b (stampE nodes br S e (val 0, val 0)))) := hid (HT w9.drew S 0 0 (S9.drewN 1))
                clear HT S9 T10
                go_region_with (first | (go_at_call 47; (with_reducible refine HS.out.mono ?_); rintro E11 w11 ⟨rfl, S11, b11⟩))
                all_goals
                  clear HS t5
                  have g11 := gr_trans (gr_drewN g10 1) b11
                  have M11 := (M10.grown (gr_drewN (gr_refl _ (some b)) 1) (by simp; omega)).grown b11 (by simp; omega)
                  have F11 := (F10.grown (gr_drewN (gr_refl _ (some b)) 1) (by simp; omega)).grown b11 (by simp; omega)
                  have b11' := S11.bl
                  obtain ⟨zs, hB, -⟩ := S11.P
                  have z3 := hB.c3
                  clear hB zs e0 e1 e2 e3 e4 e5 e6 e7 b11
                  generalize hS2 : stampE nodes br S e (val 0, val 0) = S2 at *
                  clear hS2
                  obtain ⟨ov, hov⟩ : ∃ ov, ov = S2.over := ⟨_, rfl⟩
                  rw [← hov] at z3 hm
                  replace hov := hid hov
                  cases ov with
                  | true =>
                    have HF := hid (hm3.out.trans (by rw [hm]; rfl) : MF = ((6, (k : Int)), []))
                    clear hm hm3
                    have m0 := M11.c0
                    have m1 := M11.c1
                    have m2 := M11.c2
                    have p0 := F11.c0
                    have p1 := F11.c1
                    have m3 := M11.fr 0
                    have m4 := M11.fr 1
                    have m5 := M11.fr 2
                    have p3 := F11.fr 0
                    have p4 := F11.fr 1
                    go_wp2
                    obtain ⟨w12, hw12, M12, F12, b12⟩ := mx_cells M11 F11 b11' 0 0 (.slice none 0 0) 6 (k : Int)
                    rw [← hw12]
                    refine bodyPost_ret (mx_ret rfl M12 F12 rfl rfl) rfl ?_
                    exact ⟨_, [], by rw [HF.out]; rfl, World.ownsRow_nil _ _ _ _, by rw [HF.out]; rfl, b12⟩
                  | false =>
                    have HM := hid (hm.trans (if_neg (by decide)))
                    clear hm
                    go_wp2
                    go_roundw
                    case rel => exact ⟨k + 1, S2, by go_num, by omega, g11, S11, HM.out⟩
                    case measure => simp [intOf] <;> omega
              · have hfn : fnK e.kind = 48 := by unfold fnK; rw [hkd]; rfl
                rw [hfn] at HT
                rw [hkd] at e0 HT
                push_cast at e0 HT
                clear hfn
                go_upto_region 22 with (fail)
                have g10 := g9
                have M10 := M9
                have F10 := F9
                have T10 := (g10.block w6.heap.size (lt_heap T8) (by simp; omega)).trans T8
                have t6 := cell_at (j := 6) T10 rfl
                have HS : Hid (Calls Try.prog 48 #[.pointer (some ⟨b, 0, none⟩), .agg #[.int .u8 6, .string e.name, .string e.a, .string e.b, .string e.c, .string e.d, .float .f64 e.v, .int .i64 e.ph], .complex .f64 0 0] w9.drew (RetSt w B N V L nodes br ks w9.drew b (stampE nodes br S e (val 0, val 0)))) := hid (HT w9.drew S 0 0 (S9.drewN 1))
                clear HT S9 T10
                go_region_with (first | (go_at_call 48; (with_reducible refine HS.out.mono ?_); rintro E11 w11 ⟨rfl, S11, b11⟩))
                all_goals
                  clear HS t6
                  have g11 := gr_trans (gr_drewN g10 1) b11
                  have M11 := (M10.grown (gr_drewN (gr_refl _ (some b)) 1) (by simp; omega)).grown b11 (by simp; omega)
                  have F11 := (F10.grown (gr_drewN (gr_refl _ (some b)) 1) (by simp; omega)).grown b11 (by simp; omega)
                  have b11' := S11.bl
                  obtain ⟨zs, hB, -⟩ := S11.P
                  have z3 := hB.c3
                  clear hB zs e0 e1 e2 e3 e4 e5 e6 e7 b11
                  generalize hS2 : stampE nodes br S e (val 0, val 0) = S2 at *
                  clear hS2
                  obtain ⟨ov, hov⟩ : ∃ ov, ov = S2.over := ⟨_, rfl⟩
                  rw [← hov] at z3 hm
                  replace hov := hid hov
                  cases ov with
                  | true =>
                    have HF := hid (hm3.out.trans (by rw [hm]; rfl) : MF = ((6, (k : Int)), []))
                    clear hm hm3
                    have m0 := M11.c0
                    have m1 := M11.c1
                    have m2 := M11.c2
                    have p0 := F11.c0
                    have p1 := F11.c1
                    have m3 := M11.fr 0
                    have m4 := M11.fr 1
                    have m5 := M11.fr 2
                    have p3 := F11.fr 0
                    have p4 := F11.fr 1
                    go_wp2
                    obtain ⟨w12, hw12, M12, F12, b12⟩ := mx_cells M11 F11 b11' 0 0 (.slice none 0 0) 6 (k : Int)
                    rw [← hw12]
                    refine bodyPost_ret (mx_ret rfl M12 F12 rfl rfl) rfl ?_
                    exact ⟨_, [], by rw [HF.out]; rfl, World.ownsRow_nil _ _ _ _, by rw [HF.out]; rfl, b12⟩
                  | false =>
                    have HM := hid (hm.trans (if_neg (by decide)))
                    clear hm
                    go_wp2
                    go_roundw
                    case rel => exact ⟨k + 1, S2, by go_num, by omega, g11, S11, HM.out⟩
                    case measure => simp [intOf] <;> omega
              · have hfn : fnK e.kind = 49 := by unfold fnK; rw [hkd]; rfl
                rw [hfn] at HT
                rw [hkd] at e0 HT
                push_cast at e0 HT
                clear hfn
                go_upto_region 22 with (fail)
                have g10 := g9
                have M10 := M9
                have F10 := F9
                have T10 := (g10.block w6.heap.size (lt_heap T8) (by simp; omega)).trans T8
                have t7 := cell_at (j := 7) T10 rfl
                have HS : Hid (Calls Try.prog 49 #[.pointer (some ⟨b, 0, none⟩), .agg #[.int .u8 7, .string e.name, .string e.a, .string e.b, .string e.c, .string e.d, .float .f64 e.v, .int .i64 e.ph], .complex .f64 0 0] w9.drew (RetSt w B N V L nodes br ks w9.drew b (stampE nodes br S e (val 0, val 0)))) := hid (HT w9.drew S 0 0 (S9.drewN 1))
                clear HT S9 T10
                go_region_with (first | (go_at_call 49; (with_reducible refine HS.out.mono ?_); rintro E11 w11 ⟨rfl, S11, b11⟩))
                all_goals
                  clear HS t7
                  have g11 := gr_trans (gr_drewN g10 1) b11
                  have M11 := (M10.grown (gr_drewN (gr_refl _ (some b)) 1) (by simp; omega)).grown b11 (by simp; omega)
                  have F11 := (F10.grown (gr_drewN (gr_refl _ (some b)) 1) (by simp; omega)).grown b11 (by simp; omega)
                  have b11' := S11.bl
                  obtain ⟨zs, hB, -⟩ := S11.P
                  have z3 := hB.c3
                  clear hB zs e0 e1 e2 e3 e4 e5 e6 e7 b11
                  generalize hS2 : stampE nodes br S e (val 0, val 0) = S2 at *
                  clear hS2
                  obtain ⟨ov, hov⟩ : ∃ ov, ov = S2.over := ⟨_, rfl⟩
                  rw [← hov] at z3 hm
                  replace hov := hid hov
                  cases ov with
                  | true =>
                    have HF := hid (hm3.out.trans (by rw [hm]; rfl) : MF = ((6, (k : Int)), []))
                    clear hm hm3
                    have m0 := M11.c0
                    have m1 := M11.c1
                    have m2 := M11.c2
                    have p0 := F11.c0
                    have p1 := F11.c1
                    have m3 := M11.fr 0
                    have m4 := M11.fr 1
                    have m5 := M11.fr 2
                    have p3 := F11.fr 0
                    have p4 := F11.fr 1
                    go_wp2
                    obtain ⟨w12, hw12, M12, F12, b12⟩ := mx_cells M11 F11 b11' 0 0 (.slice none 0 0) 6 (k : Int)
                    rw [← hw12]
                    refine bodyPost_ret (mx_ret rfl M12 F12 rfl rfl) rfl ?_
                    exact ⟨_, [], by rw [HF.out]; rfl, World.ownsRow_nil _ _ _ _, by rw [HF.out]; rfl, b12⟩
                  | false =>
                    have HM := hid (hm.trans (if_neg (by decide)))
                    clear hm
                    go_wp2
                    go_roundw
                    case rel => exact ⟨k + 1, S2, by go_num, by omega, g11, S11, HM.out⟩
                    case measure => simp [intOf] <;> omega
          · obtain rfl : k = L.length := by omega
            have g6 : ¬ (L.length : Int) < (L.length : Int) := by omega
            rw [List.drop_length] at hm
            have HF := hid (hm3.out.trans (by rw [hm]; rfl) : MF = ((0, 0), (List.range ((nodes.length + br.length) * (nodes.length + br.length))).map S.z))
            clear hm hm3
            obtain ⟨zs, hB, hz⟩ := hS.P
            have hlt := hB.lt
            obtain ⟨sz, hsz⟩ : ∃ sz, sz = nodes.length + br.length := ⟨_, rfl⟩
            rw [← hsz] at hB HF hs ⊢
            obtain ⟨m, hm⟩ : ∃ m, m = sz * sz := ⟨_, rfl⟩
            rw [← hm] at HF
            have hmi : (sz : Int) * (sz : Int) = (m : Int) := by rw [hm]; push_cast; rfl
            have hm4 : m ≤ 4096 := by
              have := Nat.mul_le_mul hs hs
              omega
            have hwm : IntKind.i64.wrap (m : Int) = (m : Int) := IntWalk.i64_in _ (by omega)
            have hm5 : (m : Int) ≤ 4096 := by omega
            have z2 := hB.c2
            replace hsz := hid hsz
            by_cases hm0 : m = 0
            · have hs0 : sz = 0 := by
                rcases Nat.eq_zero_or_pos sz with h | h
                · exact h
                · have := Nat.mul_pos h h
                  omega
              subst hs0
              subst hm0
              have y0 : wr.cell? ⟨b, 2, none⟩ = some (.int .i64 0) := z2
              have hw0 : IntKind.i64.wrap (0 : Int) = 0 := by decide
              clear hmi hwm hm5 hm4 z2 hB hz hm
              have m0 := Mr.c0
              have m1 := Mr.c1
              have m2 := Mr.c2
              have p0 := Fr.c0
              have p1 := Fr.c1
              have m3 := Mr.fr 0
              have m4 := Mr.fr 1
              have m5 := Mr.fr 2
              have p3 := Fr.fr 0
              have p4 := Fr.fr 1
              go_upto_region 26 with (fail)
              have y1 : wr.drew.cell? ⟨b, 2, none⟩ = some (.int .i64 0) := y0
              go_region_held3 (fun w' => w'.cell? ⟨b, 2, none⟩ = some (.int .i64 0)) (repeat (first | with_reducible exact y0 | with_reducible exact y1 | with_reducible apply cell_drew | (with_reducible refine cell_other ?_ (by dsimp only; omega)) | fail)) (first | fail)
              all_goals
                clear m0 m1 m2 m3 m4 m5 p0 p1 p3 p4 y0 y1
                go_wp2
                obtain ⟨w12, hw12, M12, F12, b12⟩ := mx_cells Mr Fr br0 0 0 (.slice none 0 0) 0 0
                rw [← hw12]
                refine bodyPost_ret (mx_ret (w3 := w12.drew) rfl M12 F12 rfl rfl) rfl ?_
                exact ⟨_, [], by rw [HF.out, ← hsz.out]; rfl, World.ownsRow_nil _ _ _ _, by rw [HF.out]; rfl, b12.drew⟩
            · have m0 := Mr.c0
              have m1 := Mr.c1
              have m2 := Mr.c2
              have p0 := Fr.c0
              have p1 := Fr.c1
              have m3 := Mr.fr 0
              have m4 := Mr.fr 1
              have m5 := Mr.fr 2
              have p3 := Fr.fr 0
              have p4 := Fr.fr 1
              have hnl : ((List.range m).map fun j => C (zs j)).length = m := by simp
              have hnews : ∀ j u, ((List.range m).map fun j => C (zs j))[j]? = some u → wr.drew.cell? ⟨b, 4 + j, none⟩ = some u := by
                intro j u hu
                have hj := (List.getElem?_eq_some_iff.1 hu).1
                simp at hj
                rw [List.getElem?_map, List.getElem?_range hj] at hu
                obtain rfl := Option.some.inj hu
                exact hB.cz (by omega)
              have hone : ∀ u ∈ (List.range m).map fun j => C (zs j), u.oneCell' = true := by
                intro u hu
                obtain ⟨j, -, rfl⟩ := List.mem_map.1 hu
                rfl
              have hwr0 : w.heap.size + 2 ≤ wr.drew.heap.size := by show w.heap.size + 2 ≤ wr.heap.size; omega
              have HB := hid (And.intro hB hz)
              clear hB hz hm
              go_upto_region 26 with (fail)
              have y1 : wr.drew.cell? ⟨b, 2, none⟩ = some (.int .i64 sz) := z2
              go_region_held3 (fun w' => w'.cell? ⟨b, 2, none⟩ = some (.int .i64 sz)) (repeat (first | with_reducible exact z2 | with_reducible exact y1 | with_reducible exact y2 | (with_reducible refine cell_other ?_ (by dsimp only; omega)) | fail)) (first
                | (apply step_app_all rfl _ _ rfl (w.heap.size + 2) b 4 m 4096 _ hnl hnews hone (by omega) (by omega) hwr0; (· rfl); (· first | rfl | (refine Eq.trans (b := Value.slice (some ⟨b, 4, none⟩) m 4096) rfl ?_; simp)); intro g cap w' k1 k2; have y2 := gr_cell0 k2 z2; have Mq := MxAt.grown (w := wr.drew) Mr k2 (by simp); have Fq := FltAt.grown (w := wr.drew) Fr k2 (by simp); have n0 := Mq.c0; have n1 := Mq.c1; have n2 := Mq.c2; have q0 := Fq.c0; have q1 := Fq.c1; have n3 := Mq.fr 0; have n4 := Mq.fr 1; have n5 := Mq.fr 2; have q3 := Fq.fr 0; have q4 := Fq.fr 1)
                | fail)
              all_goals
                clear m0 m1 m2 m3 m4 m5 p0 p1 p3 p4 n0 n1 n2 n3 n4 n5 q0 q1 q3 q4 y1 y2 z2
                go_wp2
                obtain ⟨w12, hw12, M12, F12, b12⟩ := mx_cells Mq Fq (bl2 (bld br0) (gr_none k2)) (sz : Int) (sz : Int) (.slice (some ⟨g, 0, none⟩) m cap) 0 0
                have o12 : w12.ownsRow (w.heap.size + 2) 44 1 (.slice (some ⟨g, 0, none⟩) m cap) m ((List.range m).map fun j => C (zs j)) := by
                  rw [hw12]
                  exact own_setB (own_setB (own_setB (own_setB (own_setB k1 (by simp) _) (by simp) _) (by simp) _) (by simp) _) (by simp) _
                rw [← hw12]
                refine bodyPost_ret (mx_ret rfl M12 F12 rfl rfl) rfl ?_
                refine ⟨_, (List.range m).map zs, by rw [HF.out, hsz.out]; rfl, ?_, ?_, b12⟩
                · rw [List.length_map, List.length_range, List.map_map]
                  exact own_weak o12 (by omega)
                · rw [HF.out, List.map_map]
                  exact List.map_congr_left fun j _ => HB.out.2 j
end Go.Proofs.Ytgcakhmdmajplaa

