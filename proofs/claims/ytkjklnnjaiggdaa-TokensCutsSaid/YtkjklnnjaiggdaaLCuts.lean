/- The law TokensCuts returns true, whatever the text. No condition. -/
import Derived.Test.YtkjklnnjaiggdaaTMark
namespace Go.Proofs.Ytkjklnnjaiggdaa
open Go.RowKit

def markRow (i : Nat) (r : List Tok) : List Tok := (List.range r.length).map fun (k : Nat) => ([109, 97, 114, 107], -(i : Int), -(k : Int))
def moreRow (i : Nat) (r : List Tok) : List Tok := markRow i r ++ [([109, 111, 114, 101], (i : Int), 0)]
theorem markRow_len (i : Nat) (r : List Tok) : (markRow i r).length = r.length := by simp [markRow]
theorem markRow_at (i : Nat) (r : List Tok) {k : Nat} (hk : k < r.length) : (markRow i r)[k]? = some ([109, 97, 114, 107], -(i : Int), -(k : Int)) := by simp [markRow, hk]
theorem set_step {α : Type} {A B : List α} {k : Nat} {x : α} (hl : A.length = B.length) (hx : A[k]? = some x) : (A.take k ++ B.drop k).set k x = A.take (k + 1) ++ B.drop (k + 1) := by
  have hk : k < A.length := (List.getElem?_eq_some_iff.1 hx).1
  have h1 : (A.take k).length = k := by simp; omega
  rw [List.set_append_right _ _ (by omega), take_one hx]
  rw [h1, Nat.sub_self, List.drop_eq_getElem_cons (by omega : k < B.length), List.set_cons_zero]
  simp

theorem set_self2 {α : Type} {xs : List α} {i : Nat} {x : α} (h : xs[i]? = some x) : xs.set i x = xs := by
  obtain ⟨hi, rfl⟩ := List.getElem?_eq_some_iff.1 h
  exact List.set_getElem_self hi
theorem cellsOf_snoc (r : List Tok) (t : Tok) : cellsOf (r ++ [t]) = cellsOf r ++ [.string (mk t.1), .int .i64 t.2.1, .int .i64 t.2.2] := by simp [cellsOf, tokV]
theorem wordsW_len (t : List UInt8) : (wordsW t).length ≤ t.length := by
  have hb := bareW_len t
  unfold wordsW
  split
  · simp
  · rename_i st h
    obtain ⟨ws, o⟩ := st
    have := (stW_from h).2
    cases o with
    | none => simp [closeW] at this ⊢; omega
    | some f => simp [closeW] at this ⊢; omega
theorem cutOut_small (s : List UInt8) : ∀ r ∈ (cutOut s).1, r.length ≤ 100000 := by
  intro r hr
  unfold cutOut at hr
  split at hr
  · cases hr
  · rename_i hl
    split at hr
    · simp only [List.mem_mapIdx] at hr
      obtain ⟨i, hi, rfl⟩ := hr
      rw [rowT_len]
      have h1 := wordsW_len (lines s)[i]
      have h2 := lines_sub (List.getElem_mem hi)
      omega
    · cases hr
theorem own_form {w : World} {base e size : Nat} {v : Value} {n : Nat} {xs : List Value} (h : w.ownsRow base e size v n xs) (hn : 0 < n) : ∃ g cap, v = .slice (some ⟨g, 0, none⟩) n cap := by
  rcases h.2 with ⟨_, h0⟩ | ⟨g, cap, cur, e, _⟩
  · omega
  · exact ⟨g, cap, e⟩

def MarkO (W0 : World) (ba bb : Nat) (V : Value) (A rows : List (List Tok)) (i : Value) (wr : World) : Prop := ∃ (k : Nat) (vs : List Value), i = .int .i64 k ∧ k ≤ rows.length ∧ Marks W0 ba bb V (A.take k ++ rows.drop k) vs wr
def MarkI (W0 : World) (ba bb : Nat) (V : Value) (X : List (List Tok)) (i : Nat) (r : List Tok) (k : Value) (wr : World) : Prop := ∃ (j : Nat) (vs : List Value), k = .int .i64 j ∧ j ≤ r.length ∧ Marks W0 ba bb V (X.set i ((markRow i r).take j ++ r.drop j)) vs wr
def SeenO (rows : List (List Tok)) (W : World) (i : Value) (wr : World) : Prop := ∃ k : Nat, i = .int .i64 k ∧ k ≤ rows.length ∧ wr = W
def SeenI (r : List Tok) (W : World) (i : Value) (wr : World) : Prop := ∃ k : Nat, i = .int .i64 k ∧ k ≤ r.length ∧ wr = W

/-- A struct appended to a row of the call's own: and where the row then lies. -/
theorem wpList_appS_at {P : Program} {ops : Array Oper} {rest : List Oper} {o : Oper} {a : Act} {Q : Exit → Act → World → Prop} {w0 : World} (hgd : o.guard = none) (s x : Operand) (t : TypeId)
    (ho : o.op = .call { callee := .builtin .append, args := #[s, x], argTypes := #[t, t] })
    (base : Nat) (e : TypeId) (z : Value) (size bytes : Nat) (hsz : 0 < size) (ht : P.underlying t = some (.slice e)) (hinfo : (P.info? e).map (fun i => (i.zero, i.size, i.bytes)) = some (some z, size, bytes)) (hz : z.cells.size = size)
    (v : Value) (n : Nat) (xs : List Value) (cs : List Value) (hs : a.eval s = v) (hx : a.eval x = .slice (some ⟨w0.heap.size, 0, none⟩) 1 1) (hl : cs.length = size) (hu : ∀ u ∈ cs, u.oneCell' = true)
    (hown : w0.ownsRow base e size v n xs) (hbytes : (n + 1) * bytes ≤ 140737488355328) (h63 : n + 1 ≤ 9223372036854775807) (hbase : base ≤ w0.heap.size)
    (h : ∀ v' w', w'.ownsRow base e size v' (n + 1) (xs ++ cs) → (w0.alloc (.cells cs.toArray e)).grownBy w' v.ownBlock → (v'.ownBlock = v.ownBlock ∨ v'.ownBlock = some (w0.alloc (.cells cs.toArray e)).heap.size) → wpList P ops Q rest (a.put o.dst v') w') : wpList P ops Q (o :: rest) a (w0.alloc (.cells cs.toArray e)) := by
  obtain ⟨i, hi, hz0, hz1, hz2⟩ := info_parts hinfo
  refine wpList_append_own_at _ hgd s x t ho base e i z size bytes ht hi hz0 hz1 hz2 hz hsz v n xs hs (hown.alloc _) ⟨w0.heap.size, 0, none⟩ 1 1 cs hx (by rw [hl, Nat.one_mul]) (cells_new w0 cs e) hu (by unfold maxLen; omega) hbytes (by simp; omega) ?_
  intro v' w' h1 h2 _ h4
  exact h v' w' h1 h2 h4

theorem marksOut {W0 : World} {ba bb : Nat} {V : Value} {rows : List (List Tok)} {vs : List Value} {wr w2 : World} (h : Marks W0 ba bb V rows vs wr) {i g : Nat} {n cap : Nat} {r : List Tok} {v : Value} (_hr : rows[i]? = some r) (hv : vs[i]? = some v) (hV : V = .slice (some ⟨g, 0, none⟩) n cap)
    (o : Obj) (hg : (wr.alloc o).grownBy w2 v.ownBlock) : w2.cell? ⟨g, i, none⟩ = some v ∧ w2.frozen? ⟨g, i, none⟩ = false := by
  subst hV
  have hvo := h.grid.off i v hv
  have h1 : w2.ownsRow ba 30 1 (.slice (some ⟨g, 0, none⟩) n cap) rows.length vs := by
    refine (h.grid.out.alloc o).kept hg ?_
    rcases hvo with e | e
    · exact .inr (by rw [e]; simp [Value.ownBlock])
    · exact .inr fun e2 => e e2.symm
  have hn : n = rows.length := by
    rcases h1.2 with ⟨e, _⟩ | ⟨g, c, cur, e, _⟩
    · cases e
    · cases e; rfl
  subst hn
  have hi : i < rows.length := by have := (List.getElem?_eq_some_iff.1 hv).1; have := h.grid.len; omega
  exact ⟨by rw [h1.cellAt i (by omega)]; exact hv, h1.frozenAt i⟩

set_option maxRecDepth 100000 in
set_option maxHeartbeats 1000000 in
theorem TokensCuts_true (s : List UInt8) (w : World) (hs : s.length ≤ maxLen) : Calls Try.prog 3 #[.string (mk s)] w fun e w' => e = .returned (.bool true) ∧ Below w.heap.size w w' := by
  obtain ⟨rows, x, y, hc⟩ : ∃ rows x y, cutOut s = (rows, x, y) := ⟨_, _, _, rfl⟩
  have hsmall : ∀ r ∈ rows, r.length ≤ 100000 := by
    have := cutOut_small s
    rw [hc] at this
    exact this
  have hC : ∀ w, Calls Try.prog 5 #[.string (mk s)] w fun e w' => ∃ V vs, e = .returned (.tuple #[V, .agg #[.int .i64 x, .int .i64 y]]) ∧ Grid w' w.heap.size V rows vs ∧ Below w.heap.size w w' := by
    intro w
    refine (Cut_any s w hs).mono ?_
    rintro e w' ⟨V, vs, h1, h2, h3⟩
    rw [hc] at h1 h2
    exact ⟨V, vs, h1, h2, h3⟩
  have hR : ∀ w, Calls Try.prog 6 #[.string (mk s)] w fun e w' => ∃ V vs, e = .returned (.tuple #[V, .agg #[.int .i64 x, .int .i64 y]]) ∧ Grid w' w.heap.size V rows vs ∧ Below w.heap.size w w' := by
    intro w
    refine (rCut_any s w hs).mono ?_
    rintro e w' ⟨V, vs, h1, h2, h3⟩
    rw [hc] at h1 h2
    exact ⟨V, vs, h1, h2, h3⟩
  have HC := hid hC
  have HR := hid hR
  have HS := hid hsmall
  clear hC hR hc hsmall
  generalize mk s = t at *
  clear hs s
  go_enter Try.func3, Try.ntmps3
  go_wp2_with (go_at_call 5; refine (HC.out _).mono ?_)
  rintro e w1 ⟨A, va, rfl, hA1, hb1⟩
  have hf1 := FaultAt.new w1 x y
  go_wp2_with (go_at_call 5; refine (HC.out _).mono ?_)
  rintro e w2 ⟨B, vb, rfl, hB2, hb2⟩
  have hz1 := hb2.size
  simp only [World.size_alloc] at hz1
  have hA2 := (hA1.below ((Below.refl _ _).alloc (Nat.le_refl _) _)).below hb2
  have hf2 := hf1.below (below_mono hb2 (by simp))
  have hg2 := FaultAt.new w2 x y
  go_wp2_with (go_at_call 6; refine (HR.out _).mono ?_)
  rintro e w3 ⟨W, vw, rfl, hW3, hb3⟩
  have hz2 := hb3.size
  simp only [World.size_alloc] at hz2
  have hA3 := (hA2.below ((Below.refl _ _).alloc (Nat.le_refl _) _)).below hb3
  have hB3 := (hB2.below ((Below.refl _ _).alloc (Nat.le_refl _) _)).below hb3
  have hf3 := (hf2.below (w' := w2.alloc (.cells #[.int .i64 x, .int .i64 y] 25)) ((Below.refl _ _).alloc (by omega) _)).below (below_mono hb3 (by simp; omega))
  have hg3 := hg2.below (below_mono hb3 (by simp))
  have hh4 := FaultAt.new w3 x y
  obtain ⟨N2, hN2⟩ : ∃ N2, N2 = w1.heap.size + 1 := ⟨_, rfl⟩
  obtain ⟨N3, hN3⟩ : ∃ N3, N3 = w2.heap.size + 1 := ⟨_, rfl⟩
  simp only [World.size_alloc] at hB3 hW3
  rw [← hN2] at hB3
  rw [← hN3] at hW3
  have hbl4 : Below w3.heap.size w3 (w3.alloc (.cells #[.int .i64 x, .int .i64 y] 25)) := (Below.refl _ _).alloc (Nat.le_refl _) _
  have hA4 := hA3.below hbl4
  have hB4 := hB3.below hbl4
  have hW4 := hW3.below hbl4
  have hf4 := hf3.below (below_mono hbl4 (by omega))
  have hg4 := hg3.below (below_mono hbl4 (by omega))
  have hbw : Below w.heap.size w (w3.alloc (.cells #[.int .i64 x, .int .i64 y] 25)) := by
    have a1 := hb1.alloc hb1.size (.cells #[.int .i64 x, .int .i64 y] 25)
    have a2 := a1.trans (below_mono hb2 (by have := hb1.size; simp; omega))
    have a3 := a2.alloc (a2.size) (.cells #[.int .i64 x, .int .i64 y] 25)
    have a4 := a3.trans (below_mono hb3 (by have := a2.size; simp; omega))
    exact a4.alloc a4.size _
  have p0 := hf3.c0
  have p1 := hf3.c1
  have q0 := hg3.c0
  have q1 := hg3.c1
  have p2 := hf4.c0
  have p3 := hf4.c1
  have q2 := hg4.c0
  have q3 := hg4.c1
  have hzz : w1.heap.size < w3.heap.size ∧ w2.heap.size < w3.heap.size := by omega
  have hoff : ∀ g, A.ownBlock = some g → g < N2 := fun g h => by have := hA1.out.lt g h; omega
  have hoffr : ∀ (i : Nat) (v : Value) (g : Nat), va[i]? = some v → v.ownBlock = some g → g < N2 := fun i v g h1 h2 => by
    have := (hA1.row i v _ h1 (List.getElem?_eq_getElem (by have := (List.getElem?_eq_some_iff.1 h1).1; have := hA1.len; omega))).lt g h2
    omega
  clear hf1 hf2 hf3 hg2 hg3 hA1 hA2 hA3 hB2 hB3 hW3 hb1 hb2 hb3 hbl4 hf4 hg4 hh4
  have HOF := hid hoff
  have HOR := hid hoffr
  clear hoff hoffr
  go_wp2_with (first | (go_at_call 7; first | (with_reducible refine (same_any _ w.heap.size N3 A W rows va vw hA4 hW4).mono ?_; rintro e w5 ⟨rfl, n5, rfl⟩) | (with_reducible refine (same_any _ N2 N3 B W rows vb vw (hB4.drewN _) (hW4.drewN _)).mono ?_; rintro e w6 ⟨rfl, n6, rfl⟩)) | (go_at_call 8; with_reducible refine (lives_any _).mono ?_; rintro e W0 ⟨rfl, hbl⟩))
  have hbl' := below_mono (below_of_drewN hbl) (Nat.le_refl _)
  have hA0 := (hA4.drewN _).below hbl
  have hB0 := (hB4.drewN _).below hbl
  have hW0 := (hW4.drewN _).below hbl
  have hbw0 : Below w.heap.size w W0 := hbw.trans (below_mono (below_of_drewN hbl) (by have := hbw.size; simpa using this))
  have hzW : N3 ≤ W0.heap.size ∧ w.heap.size ≤ W0.heap.size := by
    have h1 := hbl.size
    have h2 := hbw0.size
    simp at h1
    omega
  have hM0 : Marks W0 w.heap.size N2 A rows va W0 := ⟨hA0, HOF.out, fun i v g h1 h2 => .inl (HOR.out i v g h1 h2), fun _ _ _ => rfl, Below.refl _ _⟩
  have hN23 : N2 ≤ N3 := by omega
  clear hA4 hB4 hW4 hbw p0 p1 q0 q1 p2 p3 q2 q3 hzz hbl hbl' HOF HOR hz1 hz2 hN2 hN3
  obtain ⟨aA, cA, rfl⟩ := gridV hA0
  clear hA0
  obtain ⟨MR, hMR⟩ : ∃ MR, MR = rows.mapIdx moreRow := ⟨_, rfl⟩
  have hMRl : MR.length = rows.length := by rw [hMR]; simp
  have hMRa : ∀ i r, rows[i]? = some r → MR[i]? = some (moreRow i r) := by
    intro i r h
    rw [hMR]
    simp [h]
  have HMA := hid hMRa
  have HM0 := hid hM0
  have HB0 := hid hB0
  have HW0 := hid hW0
  have Hbw0 := hid hbw0
  clear hM0 hB0 hW0 hbw0 hMRa hMR
  go_loopw [9, 10] (fun i _ wr => MarkO W0 w.heap.size N2 (.slice aA rows.length cA) MR rows i wr) (fun i _ _ => rows.length + 1 - (intOf i).toNat)
  case atStart => exact ⟨0, va, rfl, by omega, by simpa using HM0.out⟩
  case round =>
    obtain ⟨i, vs, rfl, hi, hM⟩ := hrel
    by_cases hil : i < rows.length
    · obtain ⟨r, hr⟩ : ∃ r, rows[i]? = some r := ⟨rows[i]'hil, by simp⟩
      have hX : (MR.take i ++ rows.drop i)[i]? = some r := by
        rw [List.getElem?_append_right (by simp; omega)]
        simp [hMRl, Nat.min_eq_left (Nat.le_of_lt hil), hr]
      obtain ⟨X, hXd⟩ : ∃ X, X = MR.take i ++ rows.drop i := ⟨_, rfl⟩
      have hXl : X.length = rows.length := by rw [hXd]; simp; omega
      rw [← hXd] at hM hX
      have hrl := HS.out r (List.mem_of_getElem? hr)
      obtain ⟨ga, cap1, ad1, _, sc1, e1, _, hc1, hv1, ⟨_, hl1, hl2⟩, _⟩ := gridAt hM.grid hX
      rw [hXl] at e1 hl1
      cases e1
      unfold maxLen at hl1
      have HXD := hid hXd
      have HX := hid hX
      have HR2 := hid hr
      clear hXd hr
      go_wp2
      go_loopw [10] (fun k wr => MarkI W0 w.heap.size N2 (.slice (some ⟨ga, 0, none⟩) rows.length cA) X i r k wr) (fun k _ => r.length + 1 - (intOf k).toNat)
      case atStart => exact ⟨0, vs, rfl, by omega, by (rw [List.take_zero, List.drop_zero, List.nil_append]; rw [set_self2 hX]; exact hM)⟩
      case round =>
        obtain ⟨j, vs2, rfl, hj, hM2⟩ := hrel
        obtain ⟨Y, hY⟩ : ∃ Y, Y = (markRow i r).take j ++ r.drop j := ⟨_, rfl⟩
        have hYl : Y.length = r.length := by rw [hY]; simp [markRow_len]; omega
        have hYi : (X.set i Y)[i]? = some Y := by rw [List.getElem?_set_self (by omega)]
        rw [← hY] at hM2
        have HM2 := hid hM2
        obtain ⟨ga', cap2, ad2, _, sc2, e2, _, hc2, hv2, _, hcell⟩ := gridAt hM2.grid hYi
        rw [List.length_set, hXl] at e2
        cases e2
        rw [hYl] at hc2 hv2
        have hfz := hM2.grid.row i (.slice ad2 r.length sc2) Y hv2 hYi
        rw [hYl] at hfz
        by_cases hjl : j < r.length
        · obtain ⟨t0, ht0⟩ : ∃ t0, Y[j]? = some t0 := ⟨Y[j]'(by omega), by simp⟩
          obtain ⟨b, rfl, _, x0, x1, x2⟩ := hcell j t0 ht0
          have f0 := hfz.frozenAt (j * 3)
          have f1 := hfz.frozenAt (j * 3 + 1)
          have f2 := hfz.frozenAt (j * 3 + 2)
          have hnx := marksPut hM2 hYi hv2 (k := j) (by omega) ([109, 97, 114, 107], -(i : Int), -(j : Int))
          rw [List.set_set, hY, set_step (by rw [markRow_len]) (markRow_at i r hjl)] at hnx
          have HN := hid hnx
          clear hnx hY ht0 hcell hfz hv2 hYi hM hM2 hc1 hv1
          go_wp2
          go_roundw
          case rel => exact ⟨j + 1, vs2, by go_num, by omega, HN.out⟩
          case measure => simp [intOf] <;> omega
        · obtain rfl : j = r.length := by omega
          have hYe : Y = markRow i r := by
            rw [hY, List.take_of_length_le (by rw [markRow_len]; omega), List.drop_length, List.append_nil]
          have HYE := hid hYe
          have HYI := hid hYi
          have HV2 := hid hv2
          clear hY hYe hcell hv2 hYi hM hM2 hc1 hv1
          go_wp2_with (at_builtin; refine wpList_appS_at rfl _ _ 30 rfl w.heap.size 32 _ 3 32 (by decide) Try.underlying30 info_tok tok_z (.slice ad2 r.length sc2) r.length (cellsOf Y) [.string _, .int .i64 _, .int .i64 _] rfl rfl rfl (by simp [Value.oneCell']) hfz (by omega) (by omega) (by have := HM2.out.below.size; omega) ?_; intro v' w' g1 g2 g4; obtain ⟨g3, cap3, rfl⟩ := own_form g1 (by omega); obtain ⟨y0, y1⟩ := marksOut HM2.out HYI.out HV2.out rfl _ g2)
          go_roundw
          case rel =>
            have h := marksPush HM2.out HYI.out HV2.out rfl _ (t := ([109, 111, 114, 101], (i : Int), 0)) (v' := .slice (some ⟨g3, 0, none⟩) (r.length + 1) cap3) (by have := g1; rw [hYl, cellsOf_snoc]; exact this) g2 g4
            rw [List.set_set, HYE.out, show markRow i r ++ [([109, 111, 114, 101], (i : Int), 0)] = moreRow i r from rfl, HXD.out, set_step hMRl (HMA.out i r HR2.out)] at h
            exact ⟨i + 1, _, by go_num, by omega, h⟩
          case measure => simp [intOf] <;> omega
    · obtain rfl : i = rows.length := by omega
      rw [← hMRl, List.take_length, hMRl, List.drop_length, List.append_nil] at hM
      go_wp2
      have HM := hid hM
      clear hM
      go_loopw [11, 12] (fun i _ w' => SeenO rows wr i w') (fun i _ _ => rows.length + 1 - (intOf i).toNat)
      case atStart => exact ⟨0, rfl, by omega, rfl⟩
      case round =>
        obtain ⟨i, rfl, hi, rfl⟩ := hrel
        by_cases hil : i < rows.length
        · obtain ⟨r, hr⟩ : ∃ r, rows[i]? = some r := ⟨rows[i]'hil, by simp⟩
          have hrl := HS.out r (List.mem_of_getElem? hr)
          have hMr := HMA.out i r hr
          obtain ⟨ga, cap1, ad1, _, sc1, e1, _, hc1, hv1, ⟨_, hl1, hl2⟩, hcell⟩ := gridAt HM.out.grid hMr
          rw [hMRl] at e1 hl1
          cases e1
          unfold maxLen at hl1
          have hml : (moreRow i r).length = r.length + 1 := by simp [moreRow, markRow_len]
          rw [hml] at hc1
          have HCE := hid hcell
          clear hcell hr hMr hv1
          go_wp2
          go_loopw [12] (fun k w' => SeenI r wr k w') (fun k _ => r.length + 1 - (intOf k).toNat)
          case atStart => exact ⟨0, rfl, by omega, rfl⟩
          case round =>
            obtain ⟨j, rfl, hj, rfl⟩ := hrel
            by_cases hjl : j < r.length
            · obtain ⟨b, rfl, _, x0, x1, x2⟩ := HCE.out j ([109, 97, 114, 107], -(i : Int), -(j : Int)) (by unfold moreRow; rw [List.getElem?_append_left (by rw [markRow_len]; exact hjl)]; exact markRow_at i r hjl)
              have x0' : wr.cell? ⟨b, j * 3, none⟩ = some (.string ⟨#[109, 97, 114, 107]⟩) := x0
              clear x0
              go_wp2
              go_roundw
              case rel => exact ⟨j + 1, by go_num, by omega, rfl⟩
              case measure => simp [intOf] <;> omega
            · obtain rfl : j = r.length := by omega
              go_wp2
              go_roundw
              case rel => exact ⟨i + 1, by go_num, by omega, rfl⟩
              case measure => simp [intOf] <;> omega
        · obtain rfl : i = rows.length := by omega
          have hB9 : Grid wr N2 B rows vb := HB0.out.kept fun g h1 h2 => HM.out.mid g h1 h2
          have hW9 : Grid wr N3 W rows vw := HW0.out.kept fun g h1 h2 => HM.out.mid g (by omega) h2
          go_wp2_with (go_at_call 7; with_reducible refine (same_any _ N2 N3 B W rows vb vw hB9 hW9).mono ?_; rintro e w6 ⟨rfl, n6, rfl⟩)
          go_ret
          exact ⟨rfl, below_drewN' (Hbw0.out.trans HM.out.below) _⟩

theorem TokensCuts_walk (s : ByteArray) (w : World) (hs : s.size ≤ 140737488351232) : Calls Try.prog 3 #[.string s] w fun e w' => e = .returned (.bool true) ∧ Below w.heap.size w w' := by
  rw [← mk_of s]
  exact TokensCuts_true _ w (by unfold maxLen; simp; omega)
end Go.Proofs.Ytkjklnnjaiggdaa
