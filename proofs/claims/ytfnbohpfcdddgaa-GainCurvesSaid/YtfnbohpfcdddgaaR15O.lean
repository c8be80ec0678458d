/- gridworkref15.Of: it answers as netlist.Of. Conditions: kinds are bytes, Values have 64 bits. -/
import Derived.Test.YtfnbohpfcdddgaaR15N
import Derived.Test.YtfnbohpfcdddgaaNOfK
namespace Go.Proofs.Ytfnbohpfcdddgaa
open Go.RowKit

set_option maxRecDepth 100000 in
set_option maxHeartbeats 1000000 in
theorem rOrder_any (n : Nat) (L : List El) (w : World) (h : RfN w n L) (hl : L.length ≤ 1000) : Calls Try.prog 31 #[.pointer (some ⟨n, 0, none⟩)] w (RetV w (.int .i64 ((nodesF L).length + (brF L).length : Nat))) := by
  have HN := hid (rNodes_any n L w h hl)
  have HB := hid fun w' (hb : Below w.heap.size w w') => rBranches_any n L w' (h.below hb) hl
  have l1 := nodesF_len L
  have l2 := brF_len L
  go_enter Try.func31, Try.ntmps31
  go_wp2_with (first | (go_at_call 30; (with_reducible refine HN.out.mono ?_); rintro E1 w1 ⟨v1, rfl, o1, hb1⟩; obtain ⟨a1, c1, rfl, -⟩ := Row.of_owns o1) | (go_at_call 61; (with_reducible refine (HB.out _ hb1).mono ?_); rintro E2 w2 ⟨v2, rfl, o2, hb2⟩; obtain ⟨a2, c2, rfl, -⟩ := Row.of_owns o2))
  go_ret
  exact ⟨by go_num, hb1.trans (hb2.mono hb1.size)⟩

theorem bl_a (w : World) (o : Obj) : Below w.heap.size w (w.alloc o) := (Below.refl _ w).alloc (Nat.le_refl _) o
/-- What the reference's Of hands back. -/
def RetRf (w : World) (L : List El) (r : (Int × Int) × Option NetS) (E : Ending) (w' : World) : Prop :=
  match r.2 with
  | none => E = .returned (.tuple #[.pointer none, .agg #[.int .i64 r.1.1, .int .i64 r.1.2]]) ∧ Below w.heap.size w w'
  | some _ => ∃ n, E = .returned (.tuple #[.pointer (some ⟨n, 0, none⟩), .agg #[.int .i64 r.1.1, .int .i64 r.1.2]]) ∧ RfN w' n L ∧ Below w.heap.size w w'
theorem RetRf_none {w : World} {L : List El} {x y : Int} {E : Ending} {w' : World} (h1 : E = .returned (.tuple #[.pointer none, .agg #[.int .i64 x, .int .i64 y]])) (h2 : Below w.heap.size w w') {r : (Int × Int) × Option NetS} (hr : r = ((x, y), none)) : RetRf w L r E w' := by
  subst hr
  exact ⟨h1, h2⟩
theorem RetRf_some {w : World} {L : List El} {n : Nat} {s : NetS} {E : Ending} {w' : World} (h1 : E = .returned (.tuple #[.pointer (some ⟨n, 0, none⟩), .agg #[.int .i64 0, .int .i64 0]])) (hR : RfN w' n L) (h2 : Below w.heap.size w w') {r : (Int × Int) × Option NetS} (hr : r = ((0, 0), some s)) : RetRf w L r E w' := by
  subst hr
  exact ⟨n, h1, hR, h2⟩
theorem RfN.other {w w' : World} {n f : Nat} {x y : Int} {L : List El} (h : RfN w n L) (hF : FltAt w f x y) (hne : n ≠ f) (hw : ∀ k, k ≠ f → w'.heap[k]? = w.heap[k]?) : RfN w' n L := by
  obtain ⟨v, h1, ⟨a, cap, rfl, hr⟩, h2⟩ := h
  refine ⟨_, by rw [hw n hne]; exact h1, ⟨a, cap, rfl, fun k e he => ?_⟩, h2⟩
  obtain ⟨b, off, rfl, hc⟩ := hr k e he
  have hb : b ≠ f := by
    intro e1
    subst e1
    have c1 := hc 1 _ rfl
    unfold FltAt at hF
    simp only [World.cell?, hF] at c1
    generalize off + k * 8 + 1 = i at c1
    match i, c1 with
    | 0, c1 => simp at c1
    | 1, c1 => simp at c1
    | i + 2, c1 => simp at c1
  exact ⟨b, off, rfl, fun j u hu => (World.cell?_of_block (w := w) (hw b hb)).trans (hc j u hu)⟩
structure OfI2 (L : List El) (k : Nat) (s : NetS) : Prop where
  inv : OfInv L k s
  nodes : s.nodes = nodesF (L.take k)
  br : s.br = brF (L.take k)
theorem OfI2.start (L : List El) : OfI2 L 0 net0 := ⟨OfInv.start L, rfl, rfl⟩
theorem OfI2.step {L : List El} {k : Nat} {s : NetS} {e : El} (h : OfI2 L k s) (he : L[k]? = some e) (hc : checkE e = 0) (hn : hasS (nmL s.l) e.name = false) : OfI2 L (k + 1) (putN s e) := by
  refine ⟨h.inv.step he hc hn, ?_, ?_⟩
  · rw [el_snoc he, nodesF_snoc, ← h.nodes]
    rfl
  · rw [el_snoc he, brF_snoc, ← h.br]
    rfl
def RoL (W : World) (L : List El) (i : Value) (w : World) : Prop := ∃ (k : Nat) (s : NetS), i = .int .i64 k ∧ k ≤ L.length ∧ OfI2 L k s ∧ FltAt w W.heap.size 0 0 ∧ Below W.heap.size W w
def RiL (w0 : World) (L : List El) (k : Nat) (x : ByteArray) (j : Value) (w : World) : Prop := ∃ q : Nat, j = .int .i64 q ∧ q ≤ k ∧ hasS (nmL (L.take q)) x = false ∧ Dr w0 w
theorem nm_step {L : List El} {q : Nat} {y : El} (h : L[q]? = some y) (x : ByteArray) : hasS (nmL (L.take (q + 1))) x = (hasS (nmL (L.take q)) x || (y.name.toList == x.toList)) := by
  rw [el_snoc h, ByteArray.toList_eq, ByteArray.toList_eq, show nmL (L.take q ++ [y]) = nmL (L.take q) ++ [y.name] by simp [nmL], hasS_snoc]
theorem nm_more {L : List El} {x : ByteArray} {q k : Nat} (hqk : q ≤ k) (h : hasS (nmL (L.take q)) x = true) : hasS (nmL (L.take k)) x = true := by
  rw [hasS_iff] at *
  unfold nmL at *
  obtain ⟨e, he, rfl⟩ := List.mem_map.1 h
  refine List.mem_map.2 ⟨e, ?_, rfl⟩
  rw [show q = min q k by omega, ← List.take_take] at he
  exact List.mem_of_mem_take he
set_option maxRecDepth 100000 in
set_option maxHeartbeats 8000000 in
theorem rOf15_any (L : List El) (hk : ∀ e ∈ L, e.kind < 256 ∧ IsW e.v) (v : Value) (w : World) (hL : ElsN w v L) (hcap : L.length ≤ 100000) : Calls Try.prog 8 #[v] w (RetRf w L (netF L)) := by
  obtain ⟨a, cap, rfl⟩ := hL.1.form
  by_cases hlen : 256 < L.length
  · have HF := hid (show netF L = ((3, -1), none) by unfold netF; rw [if_pos hlen])
    have g1 : (256 : Int) < (L.length : Int) := by omega
    go_enter Try.func8, Try.ntmps8
    go_wp2
    refine bodyPost_ret (results_flt rfl _ _ w.heap.size 3 (-1) rfl (FltAt.new _ _ _)) rfl ?_
    exact RetRf_none rfl ((Below.refl _ w).alloc (Nat.le_refl _) _) HF.out
  · have hl256 : L.length ≤ 256 := by omega
    have g0 : ¬ (256 : Int) < (L.length : Int) := by omega
    have HF := hid (FltAt.new w 0 0)
    have HLN := hid hL
    clear hL
    go_enter Try.func8, Try.ntmps8
    go_wp2
    go_loopw [4] (fun i w' => RoL w L i w') (fun i _ => L.length + 1 - (intOf i).toNat)
    case atStart => exact ⟨0, net0, rfl, by omega, OfI2.start L, HF.out, (Below.refl _ w).alloc (Nat.le_refl _) _⟩
    case round =>
      obtain ⟨k, s, rfl, hkl, hinv, hF, hb⟩ := hrel
      clear HF
      have hE2 := HLN.out.1.below hb
      by_cases hk2 : k < L.length
      · obtain ⟨e, he⟩ : ∃ e, L[k]? = some e := ⟨L[k]'hk2, List.getElem?_eq_getElem hk2⟩
        have HEE := hid hE2
        obtain ⟨b, off, rfl, hblt, x0, x1, x2, x3, x4, x5, x6, x7⟩ := hE2.at he
        have hek := hk e (List.mem_of_getElem? he)
        have HCK := hid (show ∀ w, Calls Try.prog 29 #[.agg #[.int .u8 e.kind, .string e.name, .string e.a, .string e.b, .string e.c, .string e.d, .float .f64 e.v, .int .i64 e.ph]] w (RetV w (.int .i64 (checkE e))) from fun w => rCheck_any e hek.1 hek.2 w)
        have HE := hid he
        have HI := hid hinv
        have g2 : (k : Int) < (L.length : Int) := by omega
        have hsl : s.l = L.take k := hinv.inv.l
        have HSL := hid hsl
        clear he hinv hE2 hsl
        obtain ⟨ck, hck⟩ : ∃ ck, ck = checkE e := ⟨_, rfl⟩
        rw [← hck] at HCK
        have HC := hid hck
        clear hck
        by_cases hc0 : ck = 0
        · subst hc0
          go_wp2_with (go_at_call 29; (with_reducible refine (HCK.out _).mono ?_); rintro E1 w1 ⟨rfl, hb1⟩; have F1 := hF.below hb1 hF.lt; have b1 := hb.trans (hb1.mono hb.size); have E1 := HEE.out.below hb1; clear hb1 x0 x1 x2 x3 x4 x5 x6 x7)
          go_loopw [6] (fun j w' => RiL w1 L k e.name j w') (fun j _ => k + 1 - (intOf j).toNat)
          case atStart => exact ⟨0, rfl, by omega, rfl, Dr.refl _⟩
          case round =>
            obtain ⟨q, rfl, hq, hno, nd, rfl⟩ := hrel
            by_cases hqk : q < k
            · obtain ⟨y, hy⟩ : ∃ y, L[q]? = some y := ⟨L[q]'(by omega), List.getElem?_eq_getElem (by omega)⟩
              obtain ⟨_, _, e1, _, _, n1, _⟩ := E1.at HE.out
              cases e1
              obtain ⟨_, _, e1, _, _, n2, _⟩ := E1.at hy
              cases e1
              have HNS := hid (nm_step hy e.name)
              have HNO := hid hno
              have g3 : (q : Int) < (k : Int) := by omega
              have g4 : (q : Int) < (L.length : Int) := by omega
              clear hno hy
              obtain ⟨xn, hxn⟩ : ∃ xn, xn = e.name := ⟨_, rfl⟩
              obtain ⟨yn, hyn⟩ : ∃ yn, yn = y.name := ⟨_, rfl⟩
              rw [← hxn] at n1
              rw [← hyn] at n2
              rw [← hxn, ← hyn] at HNS
              have HX := hid hxn
              clear hxn hyn
              cases hc : (yn.toList == xn.toList)
              · have HCC := hid hc
                go_wp2
                go_quiet (fail)
                go_wp2
                go_roundw
                case rel => exact ⟨q + 1, by go_num, by omega, by rw [← HX.out, HNS.out, HCC.out, HX.out, HNO.out]; rfl, (by first | with_reducible exact Dr.refl _ | with_reducible exact Dr.mk _ _ | with_reducible exact Dr.trans (Dr.mk _ _) (Dr.mk _ _))⟩
                case measure => simp [intOf] <;> omega
              · have HB := hid (netF_inl hl256 (HI.out.inv.bad2 HE.out HC.out.symm (by rw [HSL.out, ← HX.out]; exact nm_more hqk (by rw [HNS.out, hc, Bool.or_true]))))
                have y0 := F1.c0
                have y1 := F1.c1
                have y2 := F1.fr 0
                have y3 := F1.fr 1
                go_wp2
                go_quiet (fail)
                go_wp2
                refine bodyPost_ret (results_flt rfl _ _ w.heap.size 9 k rfl ((show FltAt ((w1.drewN nd).drewN nq) w.heap.size 0 0 from F1).set2 _ _)) rfl ?_
                first | exact RetRf_none rfl (below_set2 (below_drewN' b1 _) _ _ (Nat.le_refl _)) HB.out | exact RetRf_none rfl (below_set2 (below_drewN' (below_drewN' b1 _) _) _ _ (Nat.le_refl _)) HB.out
            · obtain rfl : q = k := by omega
              have HNO := hid hno
              clear hno
              go_wp2
              go_roundw
              case rel => exact ⟨q + 1, putN s e, by go_num, by omega, HI.out.step HE.out HC.out.symm (by rw [HSL.out]; exact HNO.out), F1, below_drewN' b1 _⟩
              case measure => simp [intOf] <;> omega
        · have g3 : (ck != 0) = true := by simpa using hc0
          have HB := hid (netF_inl hl256 (HI.out.inv.bad1 HE.out (by rw [← HC.out]; exact hc0)))
          rw [← HC.out] at HB
          go_wp2_with (go_at_call 29; (with_reducible refine (HCK.out _).mono ?_); rintro E1 w1 ⟨rfl, hb1⟩; have F1 := hF.below hb1 hF.lt; have b1 := hb.trans (hb1.mono hb.size); clear hb1 x0 x1 x2 x3 x4 x5 x6 x7; have y0 := F1.c0; have y1 := F1.c1; have y2 := F1.fr 0; have y3 := F1.fr 1)
          refine bodyPost_ret (results_flt rfl _ _ w.heap.size ck k rfl (F1.set2 _ _)) rfl ?_
          exact RetRf_none rfl (below_set2 b1 _ _ (Nat.le_refl _)) HB.out
      · obtain rfl : k = L.length := by omega
        have HD := hid (netF_inr hl256 hinv.inv.done)
        have hn1 := hinv.nodes
        have hn2 := hinv.br
        rw [List.take_length] at hn1 hn2
        rw [hn1, hn2] at HD
        have HLW := hid (HLN.out.below hb)
        have l1 := nodesF_len L
        have l2 := brF_len L
        clear hn1 hn2 hinv hE2
        by_cases g1 : 32 < (nodesF L).length
        · rw [if_pos (.inl g1)] at HD
          have g2 : (32 : Int) < ((nodesF L).length : Int) := by omega
          go_wp2_with (first | (at_builtin; go_loud (refine wpList_appE rfl _ _ 26 rfl Try.underlying26 wr.heap.size (.slice none 0 0) 0 [] _ L rfl rfl HLW.out (World.ownsRow_nil _ _ _ _) (by omega) (Nat.le_refl _) ?_; intro v' w' h1 h2 h3; have h1' : w'.ownsRow wr.heap.size 74 8 v' L.length (cellsL L) := by simpa using h1); have hEN := ElsN.of_owns h1'; obtain ⟨a7, c7, rfl⟩ := hEN.1.form; have HRF : RfN (w'.alloc (.cells #[.slice a7 L.length c7, .bool true] 88)) w'.heap.size L := ⟨_, blk_new _ _, hEN.below (bl_a _ _)⟩; have F7 := (hF.below h2 hF.lt).below (bl_a w' (.cells #[.slice a7 L.length c7, .bool true] 88)) (by have := hF.lt; omega); have b7 := (hb.trans (h2.mono hb.size)).alloc (by have := hb.size; omega) (.cells #[.slice a7 L.length c7, .bool true] 88); have z7 := b7.size) | (go_at_call 30; refine (rNodes_any w'.heap.size L _ (by exact HRF) (by omega)).mono ?_; rintro E3 w3 ⟨v3, rfl, o3, hb3⟩; obtain ⟨a3, c3, rfl, -⟩ := Row.of_owns o3; have HRF3 := HRF.below hb3; have F8 := F7.below hb3 F7.lt; have b8 := b7.trans (hb3.mono b7.size); have z8 := b8.size; have y0 := F8.c0; have y1 := F8.c1; have y2 := F8.fr 0; have y3 := F8.fr 1) | (go_at_call 31; refine (rOrder_any w'.heap.size L _ (by exact HRF3) (by omega)).mono ?_; rintro E4 w4 ⟨rfl, hb4⟩; have HRF4 := HRF3.below hb4; have F9 := F8.below hb4 F8.lt; have b9 := b8.trans (hb4.mono b8.size); clear y0 y1 y2 y3; have y0 := F9.c0; have y1 := F9.c1; have y2 := F9.fr 0; have y3 := F9.fr 1))
          refine bodyPost_ret (results_flt rfl _ _ w.heap.size 3 (-1) rfl (F8.set2 _ _)) rfl ?_
          exact RetRf_none rfl (below_set2 b8 _ _ (Nat.le_refl _)) HD.out
        · have g2 : ¬ (32 : Int) < ((nodesF L).length : Int) := by omega
          by_cases g3 : 64 < (nodesF L).length + (brF L).length
          · rw [if_pos (.inr g3)] at HD
            have g4 : (64 : Int) < (((nodesF L).length + (brF L).length : Nat) : Int) := by omega
            go_wp2_with (first | (at_builtin; go_loud (refine wpList_appE rfl _ _ 26 rfl Try.underlying26 wr.heap.size (.slice none 0 0) 0 [] _ L rfl rfl HLW.out (World.ownsRow_nil _ _ _ _) (by omega) (Nat.le_refl _) ?_; intro v' w' h1 h2 h3; have h1' : w'.ownsRow wr.heap.size 74 8 v' L.length (cellsL L) := by simpa using h1); have hEN := ElsN.of_owns h1'; obtain ⟨a7, c7, rfl⟩ := hEN.1.form; have HRF : RfN (w'.alloc (.cells #[.slice a7 L.length c7, .bool true] 88)) w'.heap.size L := ⟨_, blk_new _ _, hEN.below (bl_a _ _)⟩; have F7 := (hF.below h2 hF.lt).below (bl_a w' (.cells #[.slice a7 L.length c7, .bool true] 88)) (by have := hF.lt; omega); have b7 := (hb.trans (h2.mono hb.size)).alloc (by have := hb.size; omega) (.cells #[.slice a7 L.length c7, .bool true] 88); have z7 := b7.size) | (go_at_call 30; refine (rNodes_any w'.heap.size L _ (by exact HRF) (by omega)).mono ?_; rintro E3 w3 ⟨v3, rfl, o3, hb3⟩; obtain ⟨a3, c3, rfl, -⟩ := Row.of_owns o3; have HRF3 := HRF.below hb3; have F8 := F7.below hb3 F7.lt; have b8 := b7.trans (hb3.mono b7.size); have z8 := b8.size; have y0 := F8.c0; have y1 := F8.c1; have y2 := F8.fr 0; have y3 := F8.fr 1) | (go_at_call 31; refine (rOrder_any w'.heap.size L _ (by exact HRF3) (by omega)).mono ?_; rintro E4 w4 ⟨rfl, hb4⟩; have HRF4 := HRF3.below hb4; have F9 := F8.below hb4 F8.lt; have b9 := b8.trans (hb4.mono b8.size); clear y0 y1 y2 y3; have y0 := F9.c0; have y1 := F9.c1; have y2 := F9.fr 0; have y3 := F9.fr 1))
            refine bodyPost_ret (results_flt rfl _ _ w.heap.size 3 (-1) rfl (F9.set2 _ _)) rfl ?_
            exact RetRf_none rfl (below_set2 b9 _ _ (Nat.le_refl _)) HD.out
          · rw [if_neg (by omega)] at HD
            have g4 : ¬ (64 : Int) < (((nodesF L).length + (brF L).length : Nat) : Int) := by omega
            go_wp2_with (first | (at_builtin; go_loud (refine wpList_appE rfl _ _ 26 rfl Try.underlying26 wr.heap.size (.slice none 0 0) 0 [] _ L rfl rfl HLW.out (World.ownsRow_nil _ _ _ _) (by omega) (Nat.le_refl _) ?_; intro v' w' h1 h2 h3; have h1' : w'.ownsRow wr.heap.size 74 8 v' L.length (cellsL L) := by simpa using h1); have hEN := ElsN.of_owns h1'; obtain ⟨a7, c7, rfl⟩ := hEN.1.form; have HRF : RfN (w'.alloc (.cells #[.slice a7 L.length c7, .bool true] 88)) w'.heap.size L := ⟨_, blk_new _ _, hEN.below (bl_a _ _)⟩; have F7 := (hF.below h2 hF.lt).below (bl_a w' (.cells #[.slice a7 L.length c7, .bool true] 88)) (by have := hF.lt; omega); have b7 := (hb.trans (h2.mono hb.size)).alloc (by have := hb.size; omega) (.cells #[.slice a7 L.length c7, .bool true] 88); have z7 := b7.size) | (go_at_call 30; refine (rNodes_any w'.heap.size L _ (by exact HRF) (by omega)).mono ?_; rintro E3 w3 ⟨v3, rfl, o3, hb3⟩; obtain ⟨a3, c3, rfl, -⟩ := Row.of_owns o3; have HRF3 := HRF.below hb3; have F8 := F7.below hb3 F7.lt; have b8 := b7.trans (hb3.mono b7.size); have z8 := b8.size; have y0 := F8.c0; have y1 := F8.c1; have y2 := F8.fr 0; have y3 := F8.fr 1) | (go_at_call 31; refine (rOrder_any w'.heap.size L _ (by exact HRF3) (by omega)).mono ?_; rintro E4 w4 ⟨rfl, hb4⟩; have HRF4 := HRF3.below hb4; have F9 := F8.below hb4 F8.lt; have b9 := b8.trans (hb4.mono b8.size); clear y0 y1 y2 y3; have y0 := F9.c0; have y1 := F9.c1; have y2 := F9.fr 0; have y3 := F9.fr 1))
            refine bodyPost_ret (results_flt rfl _ _ w.heap.size 0 0 rfl (F9.set2 _ _)) rfl ?_
            exact RetRf_some (n := w'.heap.size) rfl (HRF4.other F9 (by have := h2.size; have := hF.lt; omega) (fun k hk => by rw [Below.heap_setCell _ _ _ _ hk, Below.heap_setCell _ _ _ _ hk])) (below_set2 b9 _ _ (Nat.le_refl _)) HD.out
end Go.Proofs.Ytfnbohpfcdddgaa

