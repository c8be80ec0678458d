/- The small functions of the theorems on the whole system: few, known, read, passive, opposites, Finite, FiniteNumbers, finite. Conditions: lengths as the reach has them. The loops of the theorems on the whole system: FiniteNumbers, finite, passive, opposites. Conditions: lengths as the reach has them. -/
import Derived.Test.YtgcakhmdmajplaaTlEM
import Derived.Test.YtgcakhmdmajplaaTpDM
import Derived.Deep.RegionHeldLaw
namespace Go.Proofs.Ytgcakhmdmajplaa
open Go.RowKit

theorem KsAt.take {w : World} {a : Option Addr} {n cap : Nat} {L : List El} (h : KsAt w (.slice a n cap) L) {k : Nat} (hk : k ≤ n) : KsAt w (.slice a k cap) (L.take k) := by
  obtain ⟨a', cap', e1, hr⟩ := h
  cases e1
  refine ⟨a, cap, by rw [List.length_take, Nat.min_eq_left hk], fun j e he => ?_⟩
  rw [List.getElem?_take] at he
  split at he
  · exact hr j e he
  · cases he
set_option maxRecDepth 100000 in
set_option maxHeartbeats 1000000 in
theorem few_any (L : List El) (a : Option Addr) (cap : Nat) (w : World) (hc : L.length ≤ cap) (hs : KsAt w (.slice a L.length cap) L) :
    Calls Try.prog 5 #[.slice a L.length cap] w (RetQ w (L.take 60)) := by
  by_cases h60 : 60 < L.length
  · have g1 : (60 : Int) < (L.length : Int) := by omega
    have g2 : (60 : Int) ≤ (cap : Int) := by omega
    have HE := hid (ElementsOf_any (L.take 60) (.slice a 60 cap) w (by rw [List.length_take]; omega) (hs.take (by omega)))
    obtain ⟨e, he⟩ : ∃ e, L[0]? = some e := ⟨L[0]'(by omega), List.getElem?_eq_getElem (by omega)⟩
    obtain ⟨b, off, rfl, -⟩ := hs.at he
    clear hs he
    go_enter Try.func5, Try.ntmps5
    go_wp2_with (go_at_call 19; (with_reducible refine HE.out.mono ?_); rintro E1 w1 ⟨v, rfl, o1, hb1⟩)
    go_ret
    exact ⟨v, rfl, o1, hb1⟩
  · have g1 : ¬ (60 : Int) < (L.length : Int) := by omega
    rw [List.take_of_length_le (by omega)]
    have HE := hid (ElementsOf_any L (.slice a L.length cap) w (by omega) hs)
    clear hs
    go_enter Try.func5, Try.ntmps5
    go_wp2_with (go_at_call 19; (with_reducible refine HE.out.mono ?_); rintro E1 w1 ⟨v, rfl, o1, hb1⟩)
    go_ret
    exact ⟨v, rfl, o1, hb1⟩
/-- The known net. -/
def knL : List El := [⟨1, ⟨#[82, 49]⟩, ⟨#[97]⟩, ⟨#[98]⟩, ⟨#[]⟩, ⟨#[]⟩, 4611686018427387904, 0⟩, ⟨1, ⟨#[82, 50]⟩, ⟨#[98]⟩, ⟨#[48]⟩, ⟨#[]⟩, ⟨#[]⟩, 4616189618054758400, 0⟩, ⟨5, ⟨#[86, 49]⟩, ⟨#[97]⟩, ⟨#[48]⟩, ⟨#[]⟩, ⟨#[]⟩, 4618441417868443648, 0⟩]
set_option maxRecDepth 100000 in
set_option maxHeartbeats 1000000 in
theorem known_any (w : World) : Calls Try.prog 23 #[] w fun E w' => ∃ b, E = .returned (.slice (some ⟨b, 0, none⟩) 3 3) ∧ w'.heap[b]? = some (.cells (cellsL knL).toArray 54 (0, 0)) ∧ Below w.heap.size w w' := by
  go_enter Try.func23, Try.ntmps23
  go_wp2
  go_ret
  exact ⟨_, rfl, blk_new _ _, bl_a _ _⟩
set_option maxRecDepth 100000 in
set_option maxHeartbeats 1000000 in
theorem read_any (x : Nat) (w : World) : Calls Try.prog 9 #[.int .u64 x] w fun E w' => E = .returned (.float .f64 x) ∧ w' = w := by
  go_enter Try.func9, Try.ntmps9
  go_wp2
  go_ret
  exact ⟨rfl, rfl⟩
set_option maxHeartbeats 400000 in
theorem kFin_any (a : Nat) (w : World) :
    Calls Try.prog 31 #[.float .f64 a] w (RetB w (fin (val a))) := by
  unfold fin
  go_enter Try.func31, Try.ntmps31
  go_wp2_with (first | ((with_reducible refine upon_fadd ?_); intro r n hr hl) | ((with_reducible refine upon_fsub ?_); intro r n hr hl) | ((with_reducible refine upon_fmul ?_); intro r n hr hl) | ((with_reducible refine upon_fdiv ?_); intro r n hr hl) | ((with_reducible refine upon_fmax (by assumption) (by assumption) ?_); intro r n hr hl) | ((with_reducible refine upon_fmin (by assumption) (by assumption) ?_); intro r n hr hl))
  go_ret
  exact ⟨by simp [*], (by first | with_reducible exact Dr.mk _ _ | with_reducible exact Dr.refl _)⟩
end Go.Proofs.Ytgcakhmdmajplaa

namespace Go.Proofs.Ytgcakhmdmajplaa
open Go.RowKit

def FnLoop (w : World) (xs : List Z) (i : Value) (wr : World) : Prop := ∃ k : Nat, k ≤ xs.length ∧ i = .int .i64 k ∧ (∀ q z, q < k → xs[q]? = some z → cfin (zv z) = true) ∧ Dr w wr
theorem all_cfin {xs : List Z} (h : ∀ q z, q < xs.length → xs[q]? = some z → cfin (zv z) = true) : (xs.map zv).all cfin = true := by
  rw [List.all_eq_true]
  intro x hx
  obtain ⟨z, hz, rfl⟩ := List.mem_map.1 hx
  obtain ⟨q, hq⟩ := List.getElem?_of_mem hz
  exact h q z (List.getElem?_eq_some_iff.1 hq).1 hq
theorem not_all_cfin {xs : List Z} {k : Nat} {z : Z} (hz : xs[k]? = some z) (h : cfin (zv z) = false) : (xs.map zv).all cfin = false := by
  rw [List.all_eq_false]
  exact ⟨zv z, List.mem_map.2 ⟨z, List.mem_of_getElem? hz, rfl⟩, by rw [h]; simp⟩
set_option maxRecDepth 100000 in
set_option maxHeartbeats 1000000 in
theorem FiniteNumbers_any (xs : List Z) (va : Value) (w : World) (hx : Sl w va (xs.map C)) (hn : xs.length ≤ 140737488355328) : Calls Try.prog 12 #[va] w (RetB w ((xs.map zv).all cfin)) := by
  obtain ⟨a, cap, rfl, hcx⟩ := hx.cz
  go_enter Try.func12, Try.ntmps12
  go_wp2
  go_loopw [3] (fun i w' => FnLoop w xs i w') (fun i _ => xs.length + 1 - (intOf i).toNat)
  case atStart => exact ⟨0, by omega, rfl, fun j z h => by omega, Dr.refl w⟩
  case round =>
    obtain ⟨k, hk, rfl, hj, nd, rfl⟩ := hrel
    by_cases hkl : k < xs.length
    · obtain ⟨⟨x1, x2⟩, hx1⟩ : ∃ z, xs[k]? = some z := ⟨xs[k]'hkl, List.getElem?_eq_getElem hkl⟩
      obtain ⟨b1, off1, rfl, cx⟩ := hcx k _ hx1
      have g3 : (k : Int) < (xs.length : Int) := by omega
      have H1 := hid fun w => kFin_any x1 w
      have H2 := hid fun w => kFin_any x2 w
      have HJ := hid hj
      have hnx := hid (not_all_cfin hx1)
      have hnj : Hid (cfin (zv (x1, x2)) = true → ∀ q z, q < k + 1 → xs[q]? = some z → cfin (zv z) = true) := hid fun h q z hq hz => by
        rcases Nat.lt_or_ge q k with h1 | h1
        · exact hj q z h1 hz
        · obtain rfl : q = k := by omega
          rw [hx1] at hz
          rw [← Option.some.inj hz]
          exact h
      have he : cfin (zv (x1, x2)) = (fin (val x1) && fin (val x2)) := rfl
      rw [he] at hnx hnj
      clear hcx hx1 hj he
      cases h1 : fin (val x1) with
      | false =>
        rw [h1] at hnx H1
        have hF := hid (hnx.out rfl)
        clear hnx hnj
        go_wp2_with (go_at_call 31; (with_reducible refine (H1.out _).mono ?_); rintro E1 w1 ⟨rfl, ⟨n1, rfl⟩⟩)
        go_ret
        exact ⟨by rw [hF.out]; rfl, (by first | with_reducible exact Dr.refl _ | with_reducible exact Dr.mk _ _ | with_reducible exact Dr.trans (Dr.mk _ _) (Dr.mk _ _))⟩
      | true =>
        rw [h1] at hnx hnj H1
        cases h2 : fin (val x2) with
        | false =>
          rw [h2] at hnx H2
          have hF := hid (hnx.out rfl)
          clear hnx hnj
          go_wp2_with (go_at_call 31; first | ((with_reducible refine (H1.out _).mono ?_); rintro E1 w1 ⟨rfl, ⟨n1, rfl⟩⟩) | ((with_reducible refine (H2.out _).mono ?_); rintro E2 w2 ⟨rfl, ⟨n2, rfl⟩⟩))
          go_ret
          exact ⟨by rw [hF.out]; rfl, (by first | with_reducible exact Dr.refl _ | with_reducible exact Dr.mk _ _ | with_reducible exact Dr.trans (Dr.mk _ _) (Dr.mk _ _))⟩
        | true =>
          rw [h2] at hnj H2
          have hF := hid (hnj.out rfl)
          clear hnx hnj
          go_wp2_with (go_at_call 31; first | ((with_reducible refine (H1.out _).mono ?_); rintro E1 w1 ⟨rfl, ⟨n1, rfl⟩⟩) | ((with_reducible refine (H2.out _).mono ?_); rintro E2 w2 ⟨rfl, ⟨n2, rfl⟩⟩))
          go_roundw
          case rel => exact ⟨k + 1, by omega, by go_num, hF.out, (by first | with_reducible exact Dr.refl _ | with_reducible exact Dr.mk _ _ | with_reducible exact Dr.trans (Dr.mk _ _) (Dr.mk _ _))⟩
          case measure => simp [intOf] <;> omega
    · obtain rfl : k = xs.length := by omega
      have HF := hid (all_cfin hj)
      clear hj hcx
      go_wp2
      go_ret
      exact ⟨by rw [HF.out]; rfl, (by first | with_reducible exact Dr.refl _ | with_reducible exact Dr.mk _ _ | with_reducible exact Dr.trans (Dr.mk _ _) (Dr.mk _ _))⟩
set_option maxRecDepth 100000 in
set_option maxHeartbeats 1000000 in
theorem finite_any (xs ys : List Z) (o : Nat) (a b : Option Addr) (n m c d : Nat) (w : World) (hx : Sl w (.slice a n c) (xs.map C)) (hy : Sl w (.slice b m d) (ys.map C)) (hn : xs.length ≤ 140737488355328) (hm : ys.length ≤ 140737488355328) :
    Calls Try.prog 15 #[.agg #[.float .f64 o, .slice a n c, .slice b m d]] w fun E w' => E = .returned (.bool ((xs.map zv).all cfin && (ys.map zv).all cfin)) ∧ Below w.heap.size w w' := by
  have H1 := hid fun w' (hb : Below w.heap.size w w') => FiniteNumbers_any xs (.slice a n c) w' (hx.below hb) hn
  have H2 := hid fun w' (hb : Below w.heap.size w w') => FiniteNumbers_any ys (.slice b m d) w' (hy.below hb) hm
  have hb1 := bl_a w (.cells #[.float .f64 o, .slice a n c, .slice b m d] 47)
  have S1 : SolB (w.alloc (.cells #[.float .f64 o, .slice a n c, .slice b m d] 47)) w.heap.size o (.slice a n c) (.slice b m d) := blk_new _ _
  generalize (xs.map zv).all cfin = p at H1 ⊢
  generalize (ys.map zv).all cfin = b2 at H2 ⊢
  go_enter Try.func15, Try.ntmps15
  go_upto_region 1 with (fail)
  obtain ⟨w1, hw1⟩ : ∃ w1, w1 = w.alloc (.cells #[.float .f64 o, .slice a n c, .slice b m d] 47) := ⟨_, rfl⟩
  rw [← hw1] at hb1 S1 ⊢
  clear hw1 hx hy
  have c1 := S1.c1
  have c2 := S1.c2
  cases p with
  | false =>
    go_wp2_with (go_at_call 12; (with_reducible refine (H1.out _ hb1).mono ?_); rintro E1 w2 ⟨rfl, ⟨n1, rfl⟩⟩)
    go_ret
    exact ⟨rfl, below_drewN' hb1 _⟩
  | true =>
    go_wp2_with (go_at_call 12; first | ((with_reducible refine (H1.out _ hb1).mono ?_); rintro E1 w2 ⟨rfl, ⟨n1, rfl⟩⟩; have hb2 := below_drewN' hb1 n1; have d2 : (w1.drewN n1).cell? ⟨w.heap.size, 2, none⟩ = some (.slice b m d) := c2) | ((with_reducible refine (H2.out _ hb2).mono ?_); rintro E2 w3 ⟨rfl, ⟨n2, rfl⟩⟩))
    go_ret
    exact ⟨rfl, below_drewN' hb1 _⟩
/-- Low cells are kept. -/
def Lowk (B : Nat) (w w' : World) : Prop := w.heap.size ≤ w'.heap.size ∧ ∀ p : Addr, p.block < B → w'.cell? p = w.cell? p
theorem lowk_ok (B : Nat) : RelOk (Lowk B) := ⟨fun _ => ⟨Nat.le_refl _, fun _ _ => rfl⟩, fun h h2 => ⟨Nat.le_trans h.1 h2.1, fun p hp => (h2.2 p hp).trans (h.2 p hp)⟩⟩
theorem lowk_below {B : Nat} {w w' : World} (h : Below B w w') : Lowk B w w' := ⟨h.size, fun _ hp => h.cell hp⟩
theorem lowk_al {B : Nat} (w : World) (o : Obj) (h : B ≤ w.heap.size) : Lowk B w (w.alloc o) := lowk_below ((Below.refl _ w).alloc h o)
/-- A slice of complex numbers, one more. -/
def OpLoop (W : World) (xs : List Z) (i out : Value) (w : World) : Prop := ∃ k : Nat, i = .int .i64 k ∧ k ≤ xs.length ∧ w.ownsRow W.heap.size 44 1 out k (((xs.take k).map fun z => ((negB z.1, negB z.2) : Z)).map C) ∧ Below W.heap.size W w
set_option maxRecDepth 100000 in
set_option maxHeartbeats 1000000 in
theorem opposites_any (xs : List Z) (va : Value) (w : World) (hx : Sl w va (xs.map C)) (hn : xs.length ≤ 1000) : Calls Try.prog 18 #[va] w fun E w' => ∃ v, E = .returned v ∧ w'.ownsRow w.heap.size 44 1 v xs.length ((xs.map fun z => ((negB z.1, negB z.2) : Z)).map C) ∧ Below w.heap.size w w' := by
  obtain ⟨a, cap, rfl, hc0⟩ := hx.cz
  obtain ⟨iC, hiC, hc0', hc1, hc2⟩ := info_parts info_c
  replace hc0 := hid hc0
  go_enter Try.func18, Try.ntmps18
  go_wp2
  go_loopw [4, 3] (fun i out w' => OpLoop w xs i out w') (fun i _ _ => xs.length + 1 - (intOf i).toNat)
  case atStart => exact ⟨0, rfl, by omega, World.ownsRow_nil _ _ _ _, Below.refl _ _⟩
  case round =>
    obtain ⟨k, rfl, hk, hown, hb⟩ := hrel
    have hx2 := hx.below hb
    obtain ⟨a', cap', e1, hcx⟩ := hx2.cz
    cases e1
    by_cases hkl : k < xs.length
    · obtain ⟨⟨x1, x2⟩, hx1⟩ : ∃ z, xs[k]? = some z := ⟨xs[k]'hkl, List.getElem?_eq_getElem hkl⟩
      obtain ⟨b1, off1, rfl, cx⟩ := hcx k _ hx1
      have cw : w.cell? ⟨b1, off1 + k, none⟩ = some (.complex .f64 x1 x2) := by
        obtain ⟨b2, o2, e2, c2⟩ := hc0.out k _ hx1
        cases e2
        exact c2
      have kl : b1 < w.heap.size := World.block_lt_of_cell? _ _ cw
      have g3 : (k : Int) < (xs.length : Int) := by omega
      have hsn : Hid (((xs.take (k + 1)).map fun z => ((negB z.1, negB z.2) : Z)).map C = ((xs.take k).map fun z => ((negB z.1, negB z.2) : Z)).map C ++ [C (negB x1, negB x2)]) := hid (by
        rw [List.take_add_one, hx1]
        simp)
      clear hcx hx2 hx1
      have hz := hb.size
      replace cx : wr.cell? ⟨b1, off1 + k, none⟩ = some (.complex .f64 x1 x2) := cx
      go_upto_region 5 with (fail)
      refine wp_region_takesR (lowk_ok w.heap.size) 14 2 (by kernel_rfl) (by kernel_rfl) (fun _ _ _ _ _ h => h) ?_
      try simp only [List.take_succ_cons, List.take_zero, List.drop_succ_cons, List.drop_zero]
      repeat
        first
          | (refine wpTk_reck rfl rfl (fun K hK => ?_); unfold Oper.gives; go_simp; refine hK _ ?_; clear hK K)
          | (refine wpTk_load rfl rfl (fun K hK => ?_); refine ⟨.complex .f64 x1 x2, fun wq hq => ?_, ?_⟩; (· (have eq1 := (hq.2 ⟨b1, off1 + k, none⟩ kl).trans cx; go_simp)); go_simp; refine hK _ ?_; clear hK K)
          | (refine wpTk_load rfl rfl (fun K hK => ?_); refine ⟨.float .f64 x1, fun wq hq => ?_, ?_⟩; (· (go_simp; done)); go_simp; refine hK _ ?_; clear hK K)
          | (refine wpTk_load rfl rfl (fun K hK => ?_); refine ⟨.float .f64 x2, fun wq hq => ?_, ?_⟩; (· (go_simp; done)); go_simp; refine hK _ ?_; clear hK K)
          | (refine wpTk_load rfl rfl (fun K hK => ?_); refine ⟨.complex .f64 (negB x1) (negB x2), fun wq hq => ?_, ?_⟩; (· (go_simp; done)); go_simp; refine hK _ ?_; clear hK K)
      refine wpTk_nil ?_
      refine wpDs_step rfl (fun K hK => ?_)
      go_simp
      refine hK _ _ (lowk_al _ _ hz) ?_
      clear hK K
      refine wpDs_step rfl (fun K hK => ?_)
      refine wp_append_lies _ _ _ 33 rfl w.heap.size 44 iC _ 1 16 Try.underlying33 hiC hc0' hc1 hc2 rfl (by decide) u3 k (((xs.take k).map fun z => ((negB z.1, negB z.2) : Z)).map C) rfl (by exact hown.alloc _) ⟨wr.heap.size, 0, none⟩ 1 1 [C (negB x1, negB x2)] rfl rfl (by exact cell_new wr _ _) (by simp [C, Value.oneCell']) (by decide) (by unfold maxLen; omega) (by omega) (by simp; omega) _ rfl ?_
      intro g7 cap7 w7 hown7 hg7 hat7 hlt7
      have h2 : Below w.heap.size w w7 := Below.grown (bla _ hb).drew hg7 (by simp; omega) (fun k hk => (hown.lt k hk).1)
      refine hK _ _ (lowk_below (Below.grown (Below.refl _ _) hg7 (by simp; omega) (fun k hk => (hown.lt k hk).1))) (wpDs_zero ?_)
      clear hK K
      go_wp2
      go_roundw
      case rel => exact ⟨k + 1, by go_num, by omega, by rw [hsn.out]; exact hown7, h2⟩
      case measure => simp [intOf] <;> omega
    · obtain rfl : k = xs.length := by omega
      rw [List.take_length] at hown
      clear hcx hx2
      go_wp2
      go_ret
      exact ⟨_, rfl, hown, hb⟩
end Go.Proofs.Ytgcakhmdmajplaa
