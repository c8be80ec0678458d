/- alive: the known net is solved, a net of nothing joined to the ground is refused. No condition. Elements changed one behind the other in two rows; numbers held against their opposites and against noughts. No condition. -/
import Derived.Test.YtgcakhmdmajplaaTuC
import Derived.Laws.OwnMore
namespace Go.Proofs.Ytgcakhmdmajplaa
open Go.RowKit

/-- The known net, plainly. -/
def knS : NetS := ⟨knL, [⟨#[97]⟩, ⟨#[98]⟩], [⟨#[86, 49]⟩]⟩
def kmL : List El := knL.take 1
def kmS : NetS := ⟨kmL, [⟨#[97]⟩, ⟨#[98]⟩], []⟩
theorem kn_net : netF knL = ((0, 0), some knS) := by kernel_rfl
theorem km_net : netF kmL = ((0, 0), some kmS) := by kernel_rfl
theorem kn_slv : (slvF knS.nodes knS.br knS.l (val 4607182418800017408)).1 = (0, 0) := by decide +kernel
theorem kn_vals : (List.range 3).map (slvF knS.nodes knS.br knS.l (val 4607182418800017408)).2 = [(some 4618441417868443648, some 0), (some 4616189618054758400, some 0), (some 13830554455654793216, some 0)] := by decide +kernel
theorem km_slv : (slvF kmS.nodes kmS.br kmS.l (val 4607182418800017408)).1.1 = 11 := by decide +kernel
theorem els_blk {w : World} {b : Nat} {L : List El} {t : Nat} (h : w.heap[b]? = some (.cells (cellsL L).toArray t (0, 0))) {k : Nat} (hk : k ≤ L.length) (cap : Nat) : ElsAt w (.slice (some ⟨b, 0, none⟩) k cap) (L.take k) := by
  refine ⟨_, cap, by rw [List.length_take, Nat.min_eq_left hk], fun i e he => ⟨b, 0, rfl, fun j x hx => ?_⟩⟩
  have hi : L[i]? = some e := by
    rw [List.getElem?_take] at he
    split at he
    · exact he
    · cases he
  have key : ∀ (L : List El) (k : Nat), L[k]? = some e → (cellsL L)[k * 8 + j]? = some x := by
    intro L
    induction L with
    | nil => intro k h; simp at h
    | cons e' r ih =>
      intro k h
      have hc : cellsL (e' :: r) = elC e' ++ cellsL r := rfl
      have hj : j < 8 := by have := (List.getElem?_eq_some_iff.1 hx).1; simpa [elC] using this
      cases k with
      | zero =>
        simp at h
        subst h
        rw [hc, List.getElem?_append_left (by simp [elC]; omega)]
        simpa using hx
      | succ k =>
        rw [hc, List.getElem?_append_right (by simp [elC]; omega)]
        have := ih k (by simpa using h)
        rw [← this]
        congr 1
        simp [elC]
        omega
  have hh := key L i hi
  rw [Nat.zero_add]
  simp only [World.cell?, h]
  simpa using hh
theorem kn_ok : (∀ e ∈ knL, e.kind < 256 ∧ IsW e.v) ∧ (∀ e ∈ kmL, e.kind < 256 ∧ IsW e.v) := by unfold IsW; decide +kernel
theorem kn_Of (v : Value) (w : World) (h : ElsAt w v knL) : Calls Try.prog 6 #[v] w fun E w' => ∃ N V, E = .returned (.tuple #[.pointer (some ⟨NB.n N, 0, none⟩), .agg #[.int .i64 0, .int .i64 0]]) ∧ NetR w' (w.heap.size + 1) N V knS.l knS.nodes knS.br (nmL knS.l) knS.nodes knS.br ∧ Below w.heap.size w w' := by
  have := Of_any knL (fun e he => (kn_ok.1 e he).1) v w h (by decide)
  rw [kn_net] at this
  exact this
theorem km_Of (v : Value) (w : World) (h : ElsAt w v kmL) : Calls Try.prog 6 #[v] w fun E w' => ∃ N V, E = .returned (.tuple #[.pointer (some ⟨NB.n N, 0, none⟩), .agg #[.int .i64 0, .int .i64 0]]) ∧ NetR w' (w.heap.size + 1) N V kmS.l kmS.nodes kmS.br (nmL kmS.l) kmS.nodes kmS.br ∧ Below w.heap.size w w' := by
  have := Of_any kmL (fun e he => (kn_ok.2 e he).1) v w h (by decide)
  rw [km_net] at this
  exact this
theorem kn_Solve {w : World} {B : Nat} {N : NB} {V : NV} (K : NetR w B N V knS.l knS.nodes knS.br (nmL knS.l) knS.nodes knS.br) : Calls Try.prog 24 #[.pointer (some ⟨N.n, 0, none⟩), .float .f64 4607182418800017408] w fun E w' => ∃ (aa : Option Addr) (ac : Nat) (ba : Option Addr) (bc : Nat) (l m : List Z), E = .returned (.tuple #[.agg #[.float .f64 4607182418800017408, .slice aa 2 ac, .slice ba 1 bc], .agg #[.int .i64 0, .int .i64 0]]) ∧ Sl w' (.slice aa 2 ac) (l.map C) ∧ Sl w' (.slice ba 1 bc) (m.map C) ∧ l.map zv = [(some 4618441417868443648, some 0), (some 4616189618054758400, some 0)] ∧ m.map zv = [(some 13830554455654793216, some 0)] ∧ Below w.heap.size w w' := by
  have hS := PSolve_any K (netF_mn kn_net kn_ok.1) 4607182418800017408
  have e0 := kn_slv
  have e1 := kn_vals
  obtain ⟨G, hG⟩ : ∃ G, G = slvF knS.nodes knS.br knS.l (val 4607182418800017408) := ⟨_, rfl⟩
  rw [← hG] at hS e0 e1
  clear hG
  obtain ⟨⟨g1, g2⟩, gx⟩ := G
  obtain ⟨rfl, rfl⟩ := Prod.mk.inj e0
  refine hS.mono fun E w' ⟨ov, aa, an, ac, ba, bn, bc, h1, h2, h3⟩ => ?_
  rcases h3 with ⟨h, -⟩ | ⟨-, rfl, l, hl, ha, hb⟩
  · exact absurd rfl h
  · have hl2 : l.map zv = [(some 4618441417868443648, some 0), (some 4616189618054758400, some 0), (some 13830554455654793216, some 0)] := hl.trans e1
    have hll : l.length = 3 := by
      have := congrArg List.length hl2
      rwa [List.length_map] at this
    rw [show l.length - knS.nodes.length = 1 by rw [hll]; rfl] at hb
    obtain ⟨_, _, ea, -⟩ := own_cap ha
    obtain ⟨_, _, eb, -⟩ := own_cap hb
    cases ea
    cases eb
    refine ⟨aa, ac, ba, bc, l.take 2, l.drop 2, h1, Sl.of_owns ha, Sl.of_owns hb, ?_, ?_, h2⟩
    · rw [List.map_take, hl2]; rfl
    · rw [List.map_drop, hl2]; rfl
theorem km_Solve {w : World} {B : Nat} {N : NB} {V : NV} (K : NetR w B N V kmS.l kmS.nodes kmS.br (nmL kmS.l) kmS.nodes kmS.br) : Calls Try.prog 24 #[.pointer (some ⟨N.n, 0, none⟩), .float .f64 4607182418800017408] w fun E w' => ∃ (y : Int), E = .returned (.tuple #[.agg #[.float .f64 0, .slice none 0 0, .slice none 0 0], .agg #[.int .i64 11, .int .i64 y]]) ∧ Below w.heap.size w w' := by
  have hS := PSolve_any K (netF_mn km_net kn_ok.2) 4607182418800017408
  have e0 := km_slv
  obtain ⟨G, hG⟩ : ∃ G, G = slvF kmS.nodes kmS.br kmS.l (val 4607182418800017408) := ⟨_, rfl⟩
  rw [← hG] at hS e0
  clear hG
  obtain ⟨⟨g1, g2⟩, gx⟩ := G
  obtain rfl : g1 = 11 := e0
  refine hS.mono fun E w' ⟨ov, aa, an, ac, ba, bn, bc, h1, h2, h3⟩ => ?_
  rcases h3 with ⟨-, rfl, e1, e2⟩ | ⟨h, -⟩
  · rw [e1, e2] at h1
    exact ⟨g2, h1, h2⟩
  · cases h
theorem eq_two (l : List Z) (v v' : Value) (w : World) (hs : Sl w v (l.map C)) (hs' : Sl w v' (([(4618441417868443648, 0), (4616189618054758400, 0)] : List Z).map C)) (h : l.map zv = [(some 4618441417868443648, some 0), (some 4616189618054758400, some 0)]) : Calls Try.prog 17 #[v, v'] w (RetB w true) :=
  nm_Eq l v v' w hs hs' h (by decide +kernel) (by decide +kernel)
theorem eq_one (l : List Z) (v v' : Value) (w : World) (hs : Sl w v (l.map C)) (hs' : Sl w v' (([(13830554455654793216, 0)] : List Z).map C)) (h : l.map zv = [(some 13830554455654793216, some 0)]) : Calls Try.prog 17 #[v, v'] w (RetB w true) := by
  obtain ⟨x, rfl⟩ : ∃ x, l = [x] := by
    cases l with
    | nil => simp at h
    | cons x r =>
      cases r with
      | nil => exact ⟨x, rfl⟩
      | cons y r => simp at h
  have h1 : zv x = (some 13830554455654793216, some 0) := by simpa using h
  have := EqualNumbers_any [x] [(13830554455654793216, 0)] v v' w hs hs' (by simp)
  have e : equalL [x] [(13830554455654793216, 0)] = true := by
    unfold equalL
    simp only [List.length_cons, List.length_nil, List.range, List.range.loop, List.all_cons, List.all_nil, Bool.and_true]
    show (decide (0 + 1 = 0 + 1) && (feq (zv x).1 (val 13830554455654793216) && feq (zv x).2 (val 0))) = true
    rw [h1]
    decide +kernel
  rw [e] at this
  exact this
set_option maxRecDepth 100000 in
set_option maxHeartbeats 4000000 in
theorem alive_any (w : World) : Calls Try.prog 7 #[] w fun E w' => E = .returned (.bool true) ∧ Below w.heap.size w w' := by
  go_enter Try.func7, Try.ntmps7
  have HK := hid fun w => known_any w
  go_upto_region 2 with (first
    | (go_at_call 23; (with_reducible refine (HK.out _).mono ?_); rintro E1 w1 ⟨b1, rfl, hk1, hb1⟩; have n1 := els_blk hk1 (k := 3) (by decide) 3)
    | (go_at_call 6; (with_reducible refine (kn_Of _ _ n1).mono ?_); rintro E2 w2 ⟨N, V, rfl, K2, hb2⟩))
  have hb3 := bl_a w2 (.cells #[.int .i64 0, .int .i64 0] 29)
  have F3 := FltAt.new w2 0 0
  have K3 := K2.below hb3
  obtain ⟨w3, hw3⟩ : ∃ w3, w3 = w2.alloc (.cells #[.int .i64 0, .int .i64 0] 29) := ⟨_, rfl⟩
  rw [← hw3] at hb3 F3 K3 ⊢
  clear hw3
  have b3 := bl2 (bl2 hb1 hb2) hb3
  clear hb1 hb2 hb3 hk1 n1 K2
  go_upto_region 3 with (first
    | (go_at_call 23; (with_reducible refine (HK.out _).mono ?_); rintro E1 w4 ⟨b4, rfl, hk4, hb4⟩; have n4 := els_blk hk4 (k := 1) (by decide) 3)
    | (go_at_call 6; (with_reducible refine (km_Of _ _ n4).mono ?_); rintro E2 w5 ⟨M, U, rfl, M5, hb5⟩))
  have hb6 := bl_a w5 (.cells #[.int .i64 0, .int .i64 0] 29)
  have X6 := FltAt.new w5 0 0
  have M6 := M5.below hb6
  obtain ⟨w6, hw6⟩ : ∃ w6, w6 = w5.alloc (.cells #[.int .i64 0, .int .i64 0] 29) := ⟨_, rfl⟩
  rw [← hw6] at hb6 X6 M6 ⊢
  clear hw6
  have hb36 := bl2 (bl2 hb4 hb5) hb6
  have b6 := bl2 b3 hb36
  have K6 := K3.below hb36
  have F6 := flt_b F3 hb36
  have f0 := F6.c0
  have f1 := F6.c1
  have x0 := X6.c0
  have x1 := X6.c1
  clear hb4 hb5 hb6 hb36 hk4 n4 M5 K3 F3 b3
  go_upto_region 6 with (go_at_call 24; (with_reducible refine (kn_Solve K6).mono ?_); rintro E7 w7 ⟨aa, ac, ba, bc, l, m, rfl, sa, sb, hl, hm, hb7⟩)
  have hb8 := bla (.cells #[.int .i64 0, .int .i64 0] 29) (bl_a w7 (.cells #[.float .f64 4607182418800017408, .slice aa 2 ac, .slice ba 1 bc] 47))
  have S8 : SolB ((w7.alloc (.cells #[.float .f64 4607182418800017408, .slice aa 2 ac, .slice ba 1 bc] 47)).alloc (.cells #[.int .i64 0, .int .i64 0] 29)) w7.heap.size 4607182418800017408 (.slice aa 2 ac) (.slice ba 1 bc) := SolB.below (blk_new _ _) (bl_a _ _)
  have F8 : FltAt ((w7.alloc (.cells #[.float .f64 4607182418800017408, .slice aa 2 ac, .slice ba 1 bc] 47)).alloc (.cells #[.int .i64 0, .int .i64 0] 29)) (w7.heap.size + 1) 0 0 := flt_n _ _ _ (by simp)
  obtain ⟨w8, hw8⟩ : ∃ w8, w8 = (w7.alloc (.cells #[.float .f64 4607182418800017408, .slice aa 2 ac, .slice ba 1 bc] 47)).alloc (.cells #[.int .i64 0, .int .i64 0] 29) := ⟨_, rfl⟩
  rw [← hw8] at hb8 S8 F8 ⊢
  clear hw8
  have hb68 := bl2 hb7 hb8
  have M8 := M6.below hb68
  have b8 := bl2 b6 hb68
  replace sa := sa.below hb8
  replace sb := sb.below hb8
  clear hb7 hb8 hb68 M6 K6 F6 X6 f0 f1 x0 x1 b6
  go_upto_region 7 with (go_at_call 24; (with_reducible refine (km_Solve M8).mono ?_); rintro E9 w9 ⟨y, rfl, hb9⟩)
  have hb10 := bla (.cells #[.int .i64 11, .int .i64 y] 29) (bl_a w9 (.cells #[.float .f64 0, .slice none 0 0, .slice none 0 0] 47))
  have F10 : FltAt ((w9.alloc (.cells #[.float .f64 0, .slice none 0 0, .slice none 0 0] 47)).alloc (.cells #[.int .i64 11, .int .i64 y] 29)) (w9.heap.size + 1) 11 y := flt_n _ _ _ (by simp)
  obtain ⟨w10, hw10⟩ : ∃ w10, w10 = (w9.alloc (.cells #[.float .f64 0, .slice none 0 0, .slice none 0 0] 47)).alloc (.cells #[.int .i64 11, .int .i64 y] 29) := ⟨_, rfl⟩
  rw [← hw10] at hb10 F10 ⊢
  clear hw10
  have hb810 := bl2 hb9 hb10
  have b10 := bl2 b8 hb810
  have S10 := SolB.below S8 hb810
  have G10 := flt_b F8 hb810
  have f0 := G10.c0
  have f1 := G10.c1
  have s0 := S10.c0
  have s1 := S10.c1
  have s2 := S10.c2
  have l10 := S10.lt
  have hlA := b10.size
  have hH := hid (And.intro (sa.below hb810) (And.intro (sb.below hb810) (And.intro F10 S10)))
  have q1 : feq (val 4607182418800017408) (val 4607182418800017408) = true := by decide +kernel
  clear hb9 hb10 hb810 M8 S8 F8 b8 sa sb F10 G10 S10
  obtain ⟨w11, hw11⟩ : ∃ w11, w11 = w10.alloc (.cells #[.complex .f64 4618441417868443648 0, .complex .f64 4616189618054758400 0] 44) := ⟨_, rfl⟩
  have T11 : Sl w11 (.slice (some ⟨w10.heap.size, 0, none⟩) 2 2) (([(4618441417868443648, 0), (4616189618054758400, 0)] : List Z).map C) := by
    rw [hw11]
    exact Sl_lit w10 44 (([(4618441417868443648, 0), (4616189618054758400, 0)] : List Z).map C)
  have hb11 : Below w10.heap.size w10 w11 := by
    rw [hw11]
    exact bl_a w10 _
  have hs11 : w11.heap.size = w10.heap.size + 1 := by rw [hw11]; simp
  have E11 := hid (eq_two l (.slice aa 2 ac) (.slice (some ⟨w10.heap.size, 0, none⟩) 2 2) w11 (hH.out.1.below hb11) T11 hl)
  have K11 : ∀ n, Below w10.heap.size w10 ((w11.drewN n).alloc (.cells #[.complex .f64 13830554455654793216 0] 44)) := fun n => bla _ (below_drewN' hb11 n)
  have E12 := hid fun n => eq_one m (.slice ba 1 bc) (.slice (some ⟨w11.heap.size, 0, none⟩) 1 1) ((w11.drewN n).alloc (.cells #[.complex .f64 13830554455654793216 0] 44)) (hH.out.2.1.below (K11 n)) (Sl_lit (w11.drewN n) 44 (([(13830554455654793216, 0)] : List Z).map C)) hm
  have f12 := fun n => (flt_b hH.out.2.2.1 (K11 n)).c0
  have t2 : ∀ n, (w11.drewN n).cell? ⟨w7.heap.size, 2, none⟩ = some (.slice ba 1 bc) := fun n => (hH.out.2.2.2.below hb11).c2
  have b12 := fun n => bl2 b10 (K11 n)
  replace hw11 := hid hw11
  clear HK hl hm T11 K11 hH hs11
  go_wp2_with (go_at_call 17; first
    | (rw [← hw11.out]; (with_reducible refine E11.out.mono ?_); rintro E13 w13 ⟨rfl, n13, rfl⟩; have u1 := t2 n13; have u2 := f12 n13)
    | (go_loud ((with_reducible refine (E12.out n13).mono ?_); rintro E14 w14 ⟨rfl, n14, rfl⟩; have u3 : World.cell? (World.drewN (World.alloc (w11.drewN n13) (.cells #[.complex .f64 13830554455654793216 0] 44)) n14) ⟨w9.heap.size + 1, 0, none⟩ = some (.int .i64 11) := u2)))
  go_ret
  exact ⟨rfl, below_drewN' (b12 n13) n14⟩
end Go.Proofs.Ytgcakhmdmajplaa

namespace Go.Proofs.Ytgcakhmdmajplaa
open Go.RowKit

theorem cellsL_set {u : Value} {j : Nat} (hj : j < 8) {e e' : El} (hs : (elC e).set j u = elC e') : ∀ (L : List El) (k : Nat), L[k]? = some e → (cellsL L).set (k * 8 + j) u = cellsL (L.set k e')
  | [], k, h => by simp at h
  | x :: r, 0, h => by
    obtain rfl : x = e := by simpa using h
    show (elC x ++ cellsL r).set (0 * 8 + j) u = elC e' ++ cellsL r
    rw [Nat.zero_mul, Nat.zero_add, List.set_append_left _ _ (by simpa [elC] using hj), hs]
  | x :: r, k + 1, h => by
    show (elC x ++ cellsL r).set ((k + 1) * 8 + j) u = elC x ++ cellsL (r.set k e')
    rw [← cellsL_set hj hs r k (by simpa using h), List.set_append_right _ _ (by simp [elC]; omega)]
    congr 2
    simp [elC]
    omega
def mix (f : El → El) (L : List El) (k : Nat) : List El := (L.take k).map f ++ L.drop k
theorem mix_0 (f : El → El) (L : List El) : mix f L 0 = L := by simp [mix]
theorem mix_end (f : El → El) (L : List El) : mix f L L.length = L.map f := by simp [mix]
theorem mix_get (f : El → El) {L : List El} {k : Nat} {e : El} (h : L[k]? = some e) : (mix f L k)[k]? = some e := by
  have hk := (List.getElem?_eq_some_iff.1 h).1
  unfold mix
  rw [List.getElem?_append_right (by simp; omega)]
  simp only [List.length_map, List.length_take, List.getElem?_drop]
  rw [show k + (k - min k L.length) = k by omega]
  exact h
theorem mix_set (f : El → El) {L : List El} {k : Nat} {e : El} (h : L[k]? = some e) : (mix f L k).set k (f e) = mix f L (k + 1) := by
  have hk := (List.getElem?_eq_some_iff.1 h).1
  have hd : L.drop k = e :: L.drop (k + 1) := by
    rw [List.drop_eq_getElem_cons hk]
    have := (List.getElem?_eq_some_iff.1 h).2
    rw [this]
  unfold mix
  rw [hd, List.set_append_right _ _ (by simp; omega), List.length_map, List.length_take, Nat.min_eq_left (by omega), Nat.sub_self, List.set_cons_zero, List.take_add_one, h]
  simp
theorem mix_same (f : El → El) {L : List El} {k : Nat} {e : El} (h : L[k]? = some e) (hf : f e = e) : mix f L (k + 1) = mix f L k := by
  rw [← mix_set f h, hf]
  have := mix_get f h
  obtain ⟨h1, h2⟩ := List.getElem?_eq_some_iff.1 this
  rw [← h2]
  exact List.set_getElem_self h1
theorem mix_len (f : El → El) (L : List El) (k : Nat) : (mix f L k).length = L.length := by
  unfold mix
  simp
  omega
/-- Two rows of elements, changed up to k. -/
structure TQ (W : World) (L : List El) (k : Nat) (vt vq : Value) (w : World) : Prop where
  t : w.ownsRow W.heap.size 54 8 vt L.length (cellsL (mix tE L k))
  q : w.ownsRow W.heap.size 54 8 vq L.length (cellsL (mix qE L k))
  ne : vt.ownBlock = none ∨ vt.ownBlock ≠ vq.ownBlock
  b : Below W.heap.size W w
theorem TQ.start {W w1 w2 : World} {L : List El} {v1 v2 : Value} (h1 : w1.ownsRow W.heap.size 54 8 v1 L.length (cellsL L)) (h2 : w2.ownsRow w1.heap.size 54 8 v2 L.length (cellsL L)) (b1 : Below W.heap.size W w1) (b2 : Below w1.heap.size w1 w2) : TQ W L 0 v1 v2 w2 := by
  refine ⟨by rw [mix_0]; exact owns_below h1 b2, by rw [mix_0]; exact own_mono h2 b1.size, ?_, bl2 b1 b2⟩
  rcases h1.2 with ⟨rfl, -⟩ | ⟨g, cap, cur, rfl, -, hg, -⟩
  · exact .inl rfl
  · refine .inr fun e => ?_
    have hl : g < w1.heap.size := (Array.getElem?_eq_some_iff.1 hg).1
    rcases h2.2 with ⟨rfl, -⟩ | ⟨g2, cap2, cur2, rfl, hb2, -⟩
    · cases e
    · cases e
      omega
theorem TQ.form {W w : World} {L : List El} {k : Nat} {vt vq : Value} (h : TQ W L k vt vq w) {e : El} (he : L[k]? = some e) : ∃ g cap g2 cap2, vt = .slice (some ⟨g, 0, none⟩) L.length cap ∧ vq = .slice (some ⟨g2, 0, none⟩) L.length cap2 ∧ g ≠ g2 ∧ W.heap.size ≤ g ∧ W.heap.size ≤ g2 ∧ w.cell? ⟨g, k * 8, none⟩ = some (.int .u8 e.kind) ∧ w.cell? ⟨g, k * 8 + 7, none⟩ = some (.int .i64 e.ph) ∧ w.cell? ⟨g2, k * 8 + 6, none⟩ = some (.float .f64 e.v) ∧ w.frozen? ⟨g, k * 8 + 7, none⟩ = false ∧ w.frozen? ⟨g2, k * 8 + 6, none⟩ = false := by
  have hk := (List.getElem?_eq_some_iff.1 he).1
  have ht := h.t
  have hq := h.q
  have ht2 := ht.2
  have hq2 := hq.2
  rcases ht2 with ⟨rfl, h0⟩ | ⟨g, cap, cur, rfl, hb, -⟩
  · omega
  · rcases hq2 with ⟨rfl, h0⟩ | ⟨g2, cap2, cur2, rfl, hb2, -⟩
    · omega
    · refine ⟨g, cap, g2, cap2, rfl, rfl, ?_, hb, hb2, ?_, ?_, ?_, ht.frozenAt _, hq.frozenAt _⟩
      · intro e2
        rcases h.ne with e | e
        · cases e
        · exact e (by rw [e2]; rfl)
      · have et := ElsAt.of_owns (by rw [mix_len]; exact ht : w.ownsRow W.heap.size 54 8 (.slice (some ⟨g, 0, none⟩) L.length cap) (mix tE L k).length (cellsL (mix tE L k)))
        obtain ⟨b, off, e1, -, c, -⟩ := et.at (mix_get tE he)
        cases e1
        rw [Nat.zero_add] at c
        exact c
      · have et := ElsAt.of_owns (by rw [mix_len]; exact ht : w.ownsRow W.heap.size 54 8 (.slice (some ⟨g, 0, none⟩) L.length cap) (mix tE L k).length (cellsL (mix tE L k)))
        obtain ⟨b, off, e1, -, -, -, -, -, -, -, -, c⟩ := et.at (mix_get tE he)
        cases e1
        rw [Nat.zero_add] at c
        exact c
      · have et := ElsAt.of_owns (by rw [mix_len]; exact hq : w.ownsRow W.heap.size 54 8 (.slice (some ⟨g2, 0, none⟩) L.length cap2) (mix qE L k).length (cellsL (mix qE L k)))
        obtain ⟨b, off, e1, -, -, -, -, -, -, -, c, -⟩ := et.at (mix_get qE he)
        cases e1
        rw [Nat.zero_add] at c
        exact c
theorem TQ.same {W w : World} {L : List El} {k : Nat} {vt vq : Value} (h : TQ W L k vt vq w) {e : El} (he : L[k]? = some e) (hs : srcK e.kind = false) : TQ W L (k + 1) vt vq w :=
  ⟨by rw [mix_same tE he (src_t.o e hs)]; exact h.t, by rw [mix_same qE he (src_q.o e hs)]; exact h.q, h.ne, h.b⟩
theorem TQ.step {W w : World} {L : List El} {k : Nat} {g cap g2 cap2 : Nat} (h : TQ W L k (.slice (some ⟨g, 0, none⟩) L.length cap) (.slice (some ⟨g2, 0, none⟩) L.length cap2) w) {e : El} (he : L[k]? = some e) (hs : srcK e.kind = true) (hne : g ≠ g2) (hg : W.heap.size ≤ g) (hg2 : W.heap.size ≤ g2) :
    TQ W L (k + 1) (.slice (some ⟨g, 0, none⟩) L.length cap) (.slice (some ⟨g2, 0, none⟩) L.length cap2) ((w.setCell ⟨g, k * 8 + 7, none⟩ (.int .i64 (e.ph.tmod 24 + 12))).setCell ⟨g2, k * 8 + 6, none⟩ (.float .f64 0)) := by
  obtain ⟨s1, g1⟩ := h.t.stored (k * 8 + 7) (.int .i64 (e.ph.tmod 24 + 12))
  have q1 := h.q.kept g1 (.inr fun e2 => hne (by cases e2; rfl))
  obtain ⟨s2, g2'⟩ := q1.stored (k * 8 + 6) (.float .f64 0)
  have t2 := s1.kept g2' (.inr fun e2 => hne (by cases e2; rfl))
  rw [cellsL_set (by omega) (e' := tE e) (by unfold tE; rw [if_pos hs]; rfl) _ _ (mix_get tE he), mix_set tE he] at t2
  rw [cellsL_set (by omega) (e' := qE e) (by unfold qE; rw [if_pos hs]; rfl) _ _ (mix_get qE he), mix_set qE he] at s2
  exact ⟨t2, s2, h.ne, (h.b.setCell hg _).setCell hg2 _⟩
theorem equalL_yes {xs ys : List Z} (hl : xs.length = ys.length) (h : ∀ (i : Nat) x y, xs[i]? = some x → ys[i]? = some y → eqZ x y = true) : equalL xs ys = true := by
  unfold equalL
  rw [decide_eq_true hl, Bool.true_and, List.all_eq_true]
  intro i hi
  have hi := List.mem_range.1 hi
  rw [List.getD_eq_getElem?_getD, List.getD_eq_getElem?_getD, List.getElem?_eq_getElem hi, List.getElem?_eq_getElem (hl ▸ hi)]
  exact h i _ _ (List.getElem?_eq_getElem hi) (List.getElem?_eq_getElem (hl ▸ hi))
def ngZ (z : Z) : Z := (negB z.1, negB z.2)
theorem eq_opp {x y : Nat} (h : Op (val x) (val y)) (hf : fin (val x) = true) : feq (val y) (val (negB x)) = true := by
  obtain ⟨a, s, m, e, hx, hr⟩ := fin_iff.1 hf
  have hn : nanB x = false := by
    unfold val at hx
    split at hx
    · cases hx
    · rename_i h
      simpa using h
  have hn2 : nanB (negB x) = false := by
    unfold nanB at hn ⊢
    rw [negB_mod]
    exact hn
  rw [val_some hn] at h hf
  rw [val_some hn2]
  exact h.two (op_neg hn) hf
theorem eqZ_opp {x y : Z} (h : COp (zv x) (zv y)) (hf : cfin (zv x) = true) : eqZ y (ngZ x) = true := by
  obtain ⟨h1, h2⟩ := cfin_iff.1 hf
  unfold eqZ ngZ
  rw [eq_opp h.1 h1, eq_opp h.2 h2]
  rfl
theorem eqZ_zero {x : Z} (h : CZ (zv x)) : eqZ x (0, 0) = true := by
  unfold eqZ
  rw [show feq (val x.1) (val 0) = true from h.1.eq, show feq (val x.2) (val 0) = true from h.2.eq]
  rfl
/-- The two laws on lists. -/
theorem opp_lists {n : Nat} {f g : Nat → CV} {xs ys : List Z} (hx : xs.map zv = (List.range n).map f) (hy : ys.map zv = (List.range n).map g) (hf : ∀ j, j < n → cfin (f j) = true) (h : ∀ j, COp (f j) (g j)) (k : Nat) : equalL (ys.take k) ((xs.take k).map ngZ) = true ∧ equalL (ys.drop k) ((xs.drop k).map ngZ) = true := by
  have lx : xs.length = n := by have := congrArg List.length hx; rw [List.length_map, List.length_map, List.length_range] at this; exact this
  have ly : ys.length = n := by have := congrArg List.length hy; rw [List.length_map, List.length_map, List.length_range] at this; exact this
  have key : ∀ (i : Nat) x y, xs[i]? = some x → ys[i]? = some y → eqZ y (ngZ x) = true := by
    intro i x y h1 h2
    have hi : i < n := by have := (List.getElem?_eq_some_iff.1 h1).1; omega
    have e1 : zv x = f i := by
      have := congrArg (fun l => l[i]?) hx
      simp only [List.getElem?_map, h1, List.getElem?_range hi, Option.map_some] at this
      exact Option.some.inj this
    have e2 : zv y = g i := by
      have := congrArg (fun l => l[i]?) hy
      simp only [List.getElem?_map, h2, List.getElem?_range hi, Option.map_some] at this
      exact Option.some.inj this
    exact eqZ_opp (by rw [e1, e2]; exact h i) (by rw [e1]; exact hf i hi)
  constructor
  · refine equalL_yes (by simp [lx, ly]) fun i y x h1 h2 => ?_
    rw [List.getElem?_map, List.getElem?_take] at h2
    rw [List.getElem?_take] at h1
    split at h1
    · rename_i hi
      rw [if_pos hi] at h2
      obtain ⟨z, hz, rfl⟩ := Option.map_eq_some_iff.1 h2
      exact key i z y hz h1
    · cases h1
  · refine equalL_yes (by simp [lx, ly]) fun i y x h1 h2 => ?_
    rw [List.getElem?_map, List.getElem?_drop] at h2
    rw [List.getElem?_drop] at h1
    obtain ⟨z, hz, rfl⟩ := Option.map_eq_some_iff.1 h2
    exact key (k + i) z y hz h1
theorem zero_lists {n : Nat} {f : Nat → CV} {xs : List Z} (hx : xs.map zv = (List.range n).map f) (h : ∀ j, CZ (f j)) (k m : Nat) (hk : (xs.take k).length = k) (hm : (xs.drop k).length = m) : equalL (xs.take k) (z0L k) = true ∧ equalL (xs.drop k) (z0L m) = true := by
  have lx : xs.length = n := by have := congrArg List.length hx; rw [List.length_map, List.length_map, List.length_range] at this; exact this
  have key : ∀ x ∈ xs, eqZ x (0, 0) = true := by
    intro x hm
    obtain ⟨i, hi⟩ := List.getElem?_of_mem hm
    have hin : i < n := by have := (List.getElem?_eq_some_iff.1 hi).1; omega
    have e1 : zv x = f i := by
      have := congrArg (fun l => l[i]?) hx
      simp only [List.getElem?_map, hi, List.getElem?_range hin, Option.map_some] at this
      exact Option.some.inj this
    exact eqZ_zero (by rw [e1]; exact h i)
  have rep : ∀ {i q : Nat} {y : Z}, (z0L q)[i]? = some y → y = (0, 0) := by
    intro i q y hy
    unfold z0L at hy
    exact (List.mem_replicate.1 (List.mem_of_getElem? hy)).2
  constructor
  · refine equalL_yes (by rw [hk]; simp [z0L]) fun i x y h1 h2 => ?_
    rw [rep h2]
    exact key x (List.mem_of_mem_take (List.mem_of_getElem? h1))
  · refine equalL_yes (by rw [hm]; simp [z0L]) fun i x y h1 h2 => ?_
    rw [rep h2]
    exact key x (List.mem_of_mem_drop (List.mem_of_getElem? h1))
end Go.Proofs.Ytgcakhmdmajplaa
