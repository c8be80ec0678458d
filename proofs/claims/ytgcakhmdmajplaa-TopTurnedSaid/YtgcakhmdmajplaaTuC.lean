/- passive; solved. Conditions: lengths as the reach has them; kinds are bytes, Values have 64 bits. -/
import Derived.Test.YtgcakhmdmajplaaTuAM
import Derived.Test.YtgcakhmdmajplaaTzQ
namespace Go.Proofs.Ytgcakhmdmajplaa
open Go.RowKit

def pasF (L : List El) : Bool := L.all fun e => !(e.kind == 6 || e.kind == 7)
def PasLoop (w : World) (L : List El) (i : Value) (wr : World) : Prop := ∃ k : Nat, i = .int .i64 k ∧ k ≤ L.length ∧ (∀ j e, j < k → L[j]? = some e → e.kind ≠ 6 ∧ e.kind ≠ 7) ∧ wr = w
theorem pas_no {L : List El} {k : Nat} {e : El} (he : L[k]? = some e) (h : e.kind = 6 ∨ e.kind = 7) : pasF L = false := by
  unfold pasF
  rw [List.all_eq_false]
  refine ⟨e, List.mem_of_getElem? he, ?_⟩
  rcases h with h | h <;> simp [h]
theorem pas_yes {L : List El} (h : ∀ j e, j < L.length → L[j]? = some e → e.kind ≠ 6 ∧ e.kind ≠ 7) : pasF L = true := by
  unfold pasF
  rw [List.all_eq_true]
  intro e he
  obtain ⟨j, hj⟩ := List.getElem?_of_mem he
  obtain ⟨h1, h2⟩ := h j e (List.getElem?_eq_some_iff.1 hj).1 hj
  simp [h1, h2]
set_option maxRecDepth 100000 in
set_option maxHeartbeats 1000000 in
theorem passive_any (L : List El) (v : Value) (w : World) (hL : ElsAt w v L) (hn : L.length ≤ 2000) : Calls Try.prog 13 #[v] w fun E w' => E = .returned (.bool (pasF L)) ∧ w' = w := by
  obtain ⟨G, hG⟩ : ∃ G, G = pasF L := ⟨_, rfl⟩
  rw [← hG]
  replace hG := hid hG
  obtain ⟨a, cap, rfl⟩ := hL.form
  go_enter Try.func13, Try.ntmps13
  go_wp2
  go_loopw [3] (fun i w' => PasLoop w L i w') (fun i _ => L.length + 1 - (intOf i).toNat)
  case atStart => exact ⟨0, rfl, by omega, fun j e h => by omega, rfl⟩
  case round =>
    obtain ⟨k, rfl, hk, hj, rfl⟩ := hrel
    by_cases hkl : k < L.length
    · obtain ⟨e, he⟩ : ∃ z, L[k]? = some z := ⟨L[k]'hkl, List.getElem?_eq_getElem hkl⟩
      obtain ⟨b, off, rfl, hb, c0, -⟩ := hL.at he
      have g3 : (k : Int) < (L.length : Int) := by omega
      by_cases h6 : e.kind = 6
      · have hGe := hid (hG.out.trans (pas_no he (.inl h6)))
        have g6 : (e.kind : Int) = 6 := by omega
        clear hj hL h6 he
        go_wp2
        go_ret
        exact ⟨by rw [hGe.out]; rfl, rfl⟩
      · by_cases h7 : e.kind = 7
        · have hGe := hid (hG.out.trans (pas_no he (.inr h7)))
          have g6 : ¬ (e.kind : Int) = 6 := by omega
          have g7 : (e.kind : Int) = 7 := by omega
          clear hj hL h6 h7 he
          go_wp2
          go_ret
          exact ⟨by rw [hGe.out]; rfl, rfl⟩
        · have g6 : ((e.kind : Int) == 6) = false := by simp; omega
          have g7 : ((e.kind : Int) == 7) = false := by simp; omega
          have hj2 : Hid (∀ j x, j < k + 1 → L[j]? = some x → x.kind ≠ 6 ∧ x.kind ≠ 7) := hid fun j x hjk hx => by
            rcases Nat.lt_or_ge j k with h | h
            · exact hj j x h hx
            · obtain rfl : j = k := by omega
              rw [he] at hx
              cases hx
              exact ⟨h6, h7⟩
          clear hj hL h6 h7 he
          go_wp2
          go_roundw
          case rel => exact ⟨k + 1, by go_num, by omega, hj2.out, rfl⟩
          case measure => simp [intOf] <;> omega
    · obtain rfl : k = L.length := by omega
      have hGe := hid (hG.out.trans (pas_yes hj))
      clear hj hL
      go_wp2
      go_ret
      exact ⟨by rw [hGe.out]; rfl, rfl⟩
/-- What solved hands back. -/
def RetSvd (w : World) (r : Option (NetS × (Nat → CV))) (o : Nat) (E : Ending) (w' : World) : Prop := match r with
  | none => ∃ p, E = .returned (.tuple #[p, .agg #[.float .f64 0, .slice none 0 0, .slice none 0 0], .bool false]) ∧ Below w.heap.size w w'
  | some (s, g) => ∃ (N : NB) (V : NV) (B : Nat) (aa : Option Addr) (ac : Nat) (ba : Option Addr) (bc : Nat) (l : List Z), E = .returned (.tuple #[.pointer (some ⟨N.n, 0, none⟩), .agg #[.float .f64 o, .slice aa s.nodes.length ac, .slice ba s.br.length bc], .bool true]) ∧ NetR w' B N V s.l s.nodes s.br (nmL s.l) s.nodes s.br ∧ l.map zv = (List.range (s.nodes.length + s.br.length)).map g ∧ Sl w' (.slice aa s.nodes.length ac) ((l.take s.nodes.length).map C) ∧ Sl w' (.slice ba s.br.length bc) ((l.drop s.nodes.length).map C) ∧ Below w.heap.size w w'
theorem results_svd {fn : Func} {p q r : Tmp} (h : fn.results = #[.tmp p, .cell q 47, .tmp r]) (tmps : Array Value) (w : World) (b o : Nat) (x y : Value) (hq : tmps.getD q undef = .pointer (some ⟨b, 0, none⟩)) (hw : SolB w b o x y) :
    (results fn tmps).run Try.prog w = .ok (.tuple #[tmps.getD p undef, .agg #[.float .f64 o, x, y], tmps.getD r undef]) w := by
  have c0 := hw.c0
  have c1 := hw.c1
  have c2 := hw.c2
  simp only [Array.getD_eq_getD_getElem?] at hq ⊢
  simp [results, h, hq, go_sem, c0, c1, c2, Sem.run_bind, Result.andThen]
theorem sol_box {w : World} {b o : Nat} {x y : Value} (W : SolB w b o x y) {B : Nat} {w0 : World} (hb : Below B w0 w) (hB : B ≤ b) (o' : Nat) (x' y' : Value) : ∃ w4, w4 = ((w.setCell ⟨b, 0, none⟩ (.float .f64 o')).setCell ⟨b, 1, none⟩ x').setCell ⟨b, 2, none⟩ y' ∧ SolB w4 b o' x' y' ∧ Below B w0 w4 ∧ w.grownBy w4 (some b) :=
  ⟨_, rfl, W.set _ _ _, ((hb.setCell hB _).setCell hB _).setCell hB _, rfl, rfl, rfl, by simp [World.setCell], fun k _ hi => by
    have hkb : b ≠ k := fun e => hi (by rw [e])
    simp [World.setCell, Array.getElem?_modify, hkb]⟩
set_option maxRecDepth 100000 in
set_option maxHeartbeats 4000000 in
theorem solved_any (L : List El) (hL : ∀ e ∈ L, e.kind < 256 ∧ IsW e.v) (hn : L.length ≤ 2000) (v : Value) (o : Nat) (w : World) (hs : ElsN w v L) : Calls Try.prog 14 #[v, .float .f64 o] w (RetSvd w (svdF L (val o)) o) := by
  have HC := hid fun w' (hb : Below w.heap.size w w') => CopyElements_any L v w' hn (hs.below hb)
  have b0 : Below w.heap.size w (w.alloc (.cells #[.float .f64 0, .slice none 0 0, .slice none 0 0] 47)) := bl_a _ _
  have W0 : SolB (w.alloc (.cells #[.float .f64 0, .slice none 0 0, .slice none 0 0] 47)) w.heap.size 0 (.slice none 0 0) (.slice none 0 0) := blk_new _ _
  obtain ⟨a, cap, rfl⟩ := hs.1.form
  obtain ⟨⟨⟨f1, f2⟩, on⟩, hr⟩ : ∃ r, r = netF L := ⟨_, rfl⟩
  go_enter Try.func14, Try.ntmps14
  go_upto_region 1 with (fail)
  obtain ⟨w1, hw1⟩ : ∃ w1, w1 = w.alloc (.cells #[.float .f64 0, .slice none 0 0, .slice none 0 0] 47) := ⟨_, rfl⟩
  rw [← hw1] at b0 W0 ⊢
  clear hw1
  cases on with
  | none =>
    have hf : f1 ≠ 0 := netF_none hr.symm
    have hf0 : (f1 == 0) = false := by simpa using hf
    have HN : Hid (∀ v w, ElsAt w v L → Calls Try.prog 6 #[v] w fun E w' => E = .returned (.tuple #[.pointer none, .agg #[.int .i64 f1, .int .i64 f2]]) ∧ Below w.heap.size w w') := hid fun v w h => by
      have := Of_any L (fun e he => (hL e he).1) v w h (by omega)
      rw [← hr] at this
      exact this
    have hG : Hid (svdF L (val o) = none) := hid (by unfold svdF; rw [← hr])
    clear hr hf hs
    go_upto_region 3 with (first
      | (go_at_call 32; (with_reducible refine (HC.out _ b0).mono ?_); rintro E3 w3 ⟨v3, rfl, own3, hb3⟩; have n3 := (ElsN.of_owns own3).1; have b3 := bl2 b0 hb3; have W3 := SolB.below W0 hb3)
      | (go_at_call 6; (with_reducible refine (HN.out _ _ n3).mono ?_); rintro E4 w4 ⟨rfl, hb4⟩; have b4 := bla (.cells #[.int .i64 f1, .int .i64 f2] 29) (bl2 b3 hb4); have W4 := SolB.below (SolB.below W3 hb4) (bl_a w4 (.cells #[.int .i64 f1, .int .i64 f2] 29)); have F4 := FltAt.new w4 f1 f2; have p0 := W4.c0; have p1 := W4.c1; have p2 := W4.c2; have q0 := W4.fr 0; have q1 := W4.fr 1; have q2 := W4.fr 2))
    go_wp2
    obtain ⟨w5, hw5, W5, b5, -⟩ := sol_box W4 b4 (Nat.le_refl _) 0 (.slice none 0 0) (.slice none 0 0)
    rw [← hw5]
    refine bodyPost_ret (results_svd rfl _ _ w.heap.size 0 _ _ rfl W5) rfl ?_
    rw [hG.out]
    exact ⟨_, rfl, b5⟩
  | some s =>
    obtain ⟨he0, hsl⟩ := netF_some hr.symm
    obtain ⟨rfl, rfl⟩ := Prod.mk.inj he0
    have hm := hid (netF_mn hr.symm hL)
    have HN : Hid (∀ v w, ElsAt w v L → Calls Try.prog 6 #[v] w fun E w' => ∃ N V, E = .returned (.tuple #[.pointer (some ⟨NB.n N, 0, none⟩), .agg #[.int .i64 0, .int .i64 0]]) ∧ NetR w' (w.heap.size + 1) N V s.l s.nodes s.br (nmL s.l) s.nodes s.br ∧ Below w.heap.size w w') := hid fun v w h => by
      have := Of_any L (fun e he => (hL e he).1) v w h (by omega)
      rw [← hr] at this
      exact this
    have hG : Hid (svdF L (val o) = if (slvF s.nodes s.br s.l (val o)).1.1 = 0 then some (s, (slvF s.nodes s.br s.l (val o)).2) else none) := hid (by unfold svdF; rw [← hr])
    clear hr hs he0
    go_upto_region 4 with (first
      | (go_at_call 32; (with_reducible refine (HC.out _ b0).mono ?_); rintro E3 w3 ⟨v3, rfl, own3, hb3⟩; have n3 := (ElsN.of_owns own3).1; have b3 := bl2 b0 hb3; have W3 := SolB.below W0 hb3)
      | (go_at_call 6; (with_reducible refine (HN.out _ _ n3).mono ?_); rintro E4 w4 ⟨N, V, rfl, K4, hb4⟩; have b4 := bla (.cells #[.int .i64 0, .int .i64 0] 29) (bl2 b3 hb4); have W4 := SolB.below (SolB.below W3 hb4) (bl_a w4 (.cells #[.int .i64 0, .int .i64 0] 29)); have F4 := FltAt.new w4 0 0; have c0 := F4.c0; have c1 := F4.c1; have K5 := K4.alloc (.cells #[.int .i64 0, .int .i64 0] 29)))
    obtain ⟨w5, hw5⟩ : ∃ w5, w5 = w4.alloc (.cells #[.int .i64 0, .int .i64 0] 29) := ⟨_, rfl⟩
    rw [← hw5] at b4 W4 K5 ⊢
    clear hw5 F4 c0 c1
    have HS := hid (PSolve_any K5 hm.out o)
    obtain ⟨G, hGe⟩ : ∃ G, G = slvF s.nodes s.br s.l (val o) := ⟨_, rfl⟩
    rw [← hGe] at HS
    have hG2 : Hid (svdF L (val o) = if G.1.1 = 0 then some (s, G.2) else none) := hid (by rw [hG.out, hGe])
    have hg0 : G.1.1 = 0 → G.1 = (0, 0) := fun h => by
      rw [hGe] at h ⊢
      obtain ⟨-, -, -, e⟩ := slvF_ok h
      rw [e] at h ⊢
      obtain ⟨h1, h2, h3, h4⟩ := withF_ok h
      rw [withF_eq h1 h2 h3 h4]
    clear hG hGe
    obtain ⟨⟨g1, g2⟩, gx⟩ := G
    go_upto_region 5 with (go_at_call 24; (with_reducible refine HS.out.mono ?_); rintro E6 w6 ⟨ov, aa, an, ac, ba, bn, bc, rfl, hb6, h6⟩)
    have hb7 := bla (.cells #[.int .i64 g1, .int .i64 g2] 29) (bl_a w6 (.cells #[.float .f64 ov, .slice aa an ac, .slice ba bn bc] 47))
    have X7 : SolB ((w6.alloc (.cells #[.float .f64 ov, .slice aa an ac, .slice ba bn bc] 47)).alloc (.cells #[.int .i64 g1, .int .i64 g2] 29)) w6.heap.size ov (.slice aa an ac) (.slice ba bn bc) := SolB.below (blk_new _ _) (bl_a _ _)
    have F7 : FltAt ((w6.alloc (.cells #[.float .f64 ov, .slice aa an ac, .slice ba bn bc] 47)).alloc (.cells #[.int .i64 g1, .int .i64 g2] 29)) (w6.heap.size + 1) g1 g2 := flt_n _ _ _ (by simp)
    obtain ⟨w7, hw7⟩ : ∃ w7, w7 = (w6.alloc (.cells #[.float .f64 ov, .slice aa an ac, .slice ba bn bc] 47)).alloc (.cells #[.int .i64 g1, .int .i64 g2] 29) := ⟨_, rfl⟩
    rw [← hw7] at hb7 X7 F7 ⊢
    clear hw7
    have W7 := SolB.below (SolB.below W4 hb6) hb7
    have b7 := bl2 (bl2 b4 hb6) hb7
    have K7 := (K5.below hb6).below hb7
    have hl4 := W4.lt
    have hl6 := hb6.size
    have x0 := X7.c0
    have x1 := X7.c1
    have x2 := X7.c2
    have y0 := F7.c0
    have y1 := F7.c1
    have p0 := W7.c0
    have p1 := W7.c1
    have p2 := W7.c2
    have q0 := W7.fr 0
    have q1 := W7.fr 1
    have q2 := W7.fr 2
    have ne1 : w6.heap.size ≠ w.heap.size := by omega
    have ne2 : w6.heap.size + 1 ≠ w.heap.size := by omega
    have ne3 := ne1.symm
    have ne4 := ne2.symm
    obtain ⟨w8, hw8, W8, b8, hg8⟩ := sol_box W7 b7 (Nat.le_refl _) ov (.slice aa an ac) (.slice ba bn bc)
    by_cases hg1 : g1 = 0
    · subst hg1
      obtain ⟨-, rfl⟩ := Prod.mk.inj (hg0 rfl)
      have hR : Hid (RetSvd w (svdF L (val o)) o (.returned (.tuple #[.pointer (some ⟨N.n, 0, none⟩), .agg #[.float .f64 ov, .slice aa an ac, .slice ba bn bc], .bool true])) w8.drew) := hid (by
        rw [hG2.out]
        rcases h6 with ⟨hg1, -⟩ | ⟨-, rfl, l, hl, ha, hb⟩
        · exact absurd rfl hg1
        · rw [if_pos rfl]
          have hll : l.length = s.nodes.length + s.br.length := by
            have := congrArg List.length hl
            rw [List.length_map, List.length_map, List.length_range] at this
            exact this
          rw [show l.length - s.nodes.length = s.br.length by omega] at hb
          have ea := own_cap ha
          have eb := own_cap hb
          obtain ⟨_, _, ea, -⟩ := ea
          obtain ⟨_, _, eb, -⟩ := eb
          cases ea
          cases eb
          have nB : ∀ {v n cs}, w6.ownsRow w5.heap.size 44 1 v n cs → Sl w8.drew v cs := fun {v n cs} h => Sl.drewN (Sl.of_owns (World.ownsRow.kept (owns_below h hb7) hg8 (.inr fun e2 => by have := (h.lt _ e2).1; omega))) 1
          have hl1 : w.heap.size < w3.heap.size + 1 := by have := b3.size; omega
          refine ⟨N, V, w3.heap.size + 1, aa, ac, ba, bc, l, rfl, ?_, hl, nB ha, nB hb, b8.drew⟩
          rw [hw8]
          exact NetR.below (((K7.setBelow (a := ⟨w.heap.size, 0, none⟩) hl1 _).setBelow (a := ⟨w.heap.size, 1, none⟩) hl1 _).setBelow (a := ⟨w.heap.size, 2, none⟩) hl1 _) (Below.refl _ _).drew)
      clear hG2 HS hm HN HC hg0
      go_region_with (fail)
      all_goals
        go_wp2
        rw [← hw8]
        refine bodyPost_ret (results_svd rfl _ _ w.heap.size ov _ _ rfl (show SolB w8.drew _ _ _ _ from W8)) rfl ?_
        exact hR.out
    · have hf0 : (g1 == 0) = false := by simpa using hg1
      have hR : Hid (RetSvd w (svdF L (val o)) o (.returned (.tuple #[.pointer (some ⟨N.n, 0, none⟩), .agg #[.float .f64 ov, .slice aa an ac, .slice ba bn bc], .bool false])) w8.drew) := hid (by
        rw [hG2.out]
        rcases h6 with ⟨-, rfl, e1, e2⟩ | ⟨h, -⟩
        · rw [if_neg hg1, e1, e2]
          exact ⟨_, rfl, b8.drew⟩
        · exact absurd h hg1)
      clear hG2 HS hm HN HC hg0
      go_region_with (fail)
      all_goals
        go_wp2
        rw [← hw8]
        refine bodyPost_ret (results_svd rfl _ _ w.heap.size ov _ _ rfl (show SolB w8.drew _ _ _ _ from W8)) rfl ?_
        exact hR.out
end Go.Proofs.Ytgcakhmdmajplaa

