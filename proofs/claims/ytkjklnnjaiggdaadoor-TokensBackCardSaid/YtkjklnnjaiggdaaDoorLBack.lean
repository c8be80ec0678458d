/- The law TokensBack returns true, whatever the text. Condition: bytealg.MaxLen holds a number. -/
import Derived.Test.YtkjklnnjaiggdaaDoorTSplit
import Derived.Test.YtkjklnnjaiggdaaDoorTLives
import Derived.Deep.Quiet
namespace Go.Proofs.YtkjklnnjaiggdaaDoor
open Go.RowKit

theorem FaultAt.step {w w' : World} {b : Nat} {x y : Int} (h : FaultAt w b x y) (hb : Below w.heap.size w w') : FaultAt w' b x y := by
  unfold FaultAt at *
  rw [hb.block b (Array.getElem?_eq_some_iff.1 h).1, h]
theorem FaultAt.alloc {w : World} {b : Nat} {x y : Int} (h : FaultAt w b x y) (o : Obj) : FaultAt (w.alloc o) b x y := h.step ((Below.refl _ _).alloc (Nat.le_refl _) _)
theorem below_step {B : Nat} {w w' w'' : World} (h : Below B w w') (hb : Below w'.heap.size w' w'') (hB : B ≤ w.heap.size := by first | exact Nat.le_refl _ | omega) : Below B w w'' := h.trans (below_mono hb (Nat.le_trans hB h.size))
theorem Grid.alloc {w : World} {base : Nat} {V : Value} {rows : List (List Tok)} {vs : List Value} (h : Grid w base V rows vs) (o : Obj) : Grid (w.alloc o) base V rows vs := h.below ((Below.refl _ _).alloc (Nat.le_refl _) _)

/-- A region that draws its order, in a class of worlds. -/
theorem wp_region_quietC {P : Program} {id : Nat} {Q : Exit → Act → World → Prop} {a : Act} {w : World} {l : List Oper} (C : World → Prop) (hm : P.follows .mixedOrders = true) (hB : Region.lexB .any l.toArray = true) (hC : C w.drew)
    (h : wpQuiet P l.toArray C (fun a' => ∀ w', C w' → Q .normal a' w') l a) : (Code.region id l.toArray true).wp P Q a w := wp_region_quiet hm hB hC (by simpa using h)
def BackC (X : World) (NB i N c : Nat) (lb T : ByteArray) (w' : World) : Prop := w'.cell? ⟨NB, i, none⟩ = some (.string lb) ∧ w'.cell? ⟨N, 0, none⟩ = some (.string T) ∧ w'.cell? ⟨N, 2, none⟩ = some (.int .i64 (c : Int)) ∧ Below X.heap.size X w'

theorem back_keep {X w' : World} {NB i N c : Nat} {lb T : ByteArray} {f : FuncId} {args : Array Value} {v : Value} (h : Calls Tryd.prog f args w' fun e w'' => e = .returned v ∧ Below w'.heap.size w' w'') (hw : BackC X NB i N c lb T w') :
    Calls Tryd.prog f args w' fun e w'' => e = .returned v ∧ BackC X NB i N c lb T w'' := by
  refine h.mono ?_
  rintro e w'' ⟨rfl, hb⟩
  obtain ⟨h1, h2, h3, h4⟩ := hw
  refine ⟨rfl, ?_, ?_, ?_, below_step h4 hb⟩
  · exact (hb.cell (World.block_lt_of_cell? _ _ h1)).trans h1
  · exact (hb.cell (World.block_lt_of_cell? _ _ h2)).trans h2
  · exact (hb.cell (World.block_lt_of_cell? _ _ h3)).trans h3

def SeenO (w : World) (n : Nat) (i : Value) (wr : World) : Prop := ∃ k : Nat, i = .int .i64 k ∧ k ≤ n ∧ Below w.heap.size w wr
def SeenI (w : World) (ws : List (Nat × Nat)) (e k : Value) (wr : World) : Prop := ∃ j : Nat, k = .int .i64 j ∧ j ≤ ws.length ∧ e = .int .i64 (endB ws j) ∧ Below w.heap.size w wr

theorem joinT_bound {L : List (List UInt8)} (h : ∀ l ∈ L, errW l = 0 ∧ l.length ≤ 65536) (hL : L.length ≤ 65537) : (joinT (L.mapIdx rowT)).length ≤ 140000000000000 := by
  have h1 : ∀ r : List Tok, (∀ t ∈ r, t.1.length ≤ 80) → (rowJ r).length ≤ r.length * 81 := by
    intro r hr
    have h2 : ∀ q : List Tok, (∀ t ∈ q, t.1.length ≤ 80) → (q.flatMap fun t => 32 :: t.1).length ≤ q.length * 81 := by
      intro q
      induction q with
      | nil => intro _; simp
      | cons t q ih =>
        intro hq
        have := ih fun x hx => hq x (.tail _ hx)
        have := hq t (.head _)
        simp only [List.flatMap_cons, List.length_append, List.length_cons] at *
        omega
    cases r with
    | nil => simp [rowJ]
    | cons t r =>
      have := h2 r fun x hx => hr x (.tail _ hx)
      have := hr t (.head _)
      simp only [rowJ, List.length_append, List.length_cons] at *
      omega
  have h3 : ∀ rows : List (List Tok), (∀ r ∈ rows, (rowJ r).length ≤ 5308416) → (joinT rows).length ≤ rows.length * 5308417 := by
    intro rows
    induction rows with
    | nil => intro _; simp [joinT]
    | cons r rows ih =>
      intro hr
      have := ih fun x hx => hr x (.tail _ hx)
      have := hr r (.head _)
      have e : joinT (r :: rows) = rowJ r ++ 10 :: joinT rows := by simp [joinT]
      rw [e]
      simp only [List.length_append, List.length_cons] at *
      omega
  have h4 := h3 (L.mapIdx rowT) (by
    intro r hr
    obtain ⟨i, l, hl, rfl⟩ := mapIdx_mem hr
    obtain ⟨he, hlen⟩ := h l hl
    have h5 := h1 (rowT i l) (by
      intro t ht
      have : t.1 ∈ wordT l := by rw [← rowT_texts i l]; exact List.mem_map_of_mem ht
      exact (wordT_good he _ this).2.1)
    have h6 := wordsW_len l
    rw [rowT_len] at h5
    omega)
  rw [List.length_mapIdx] at h4
  omega

theorem back_pieces (s : List UInt8) (hs : s.length ≤ 65536) : ∃ (L : List (List UInt8)) (q : Nat) (x : List UInt8), L = lines s ∧ (pieces s)[q]? = some x ∧ q ≤ 65537 ∧ (pieces s).length = q + 1 ∧ ((x = [] ∧ L.length = q ∧ ∀ i, i < L.length → (pieces s)[i]? = L[i]?) ∨ (x ≠ [] ∧ L.length = q + 1 ∧ ∀ i : Nat, i < L.length → (pieces s)[i]? = L[i]?)) := by
  have hc := lines_count s
  rcases pieces_lines s.length s (Nat.le_refl _) with h | ⟨h, x, M, h2, h3⟩
  · refine ⟨lines s, (lines s).length, [], rfl, by rw [h]; simp, by omega, by rw [h]; simp, .inl ⟨rfl, rfl, fun i hi => by rw [h, List.getElem?_append_left hi]⟩⟩
  · refine ⟨lines s, M.length, x, rfl, by rw [h2]; simp, ?_, by rw [h2]; simp, .inr ⟨h3, by rw [← h, h2]; simp, fun i _ => by rw [h]⟩⟩
    have : (pieces s).length = M.length + 1 := by rw [h2]; simp
    rw [h] at this
    omega

set_option maxRecDepth 100000 in
set_option maxHeartbeats 8000000 in
theorem TokensBack_true (s : List UInt8) (m : Int) (w : World) (hs : s.length ≤ maxLen) (hm : w.cell? ⟨0, 0, none⟩ = some (.int .i64 m)) : Calls Tryd.prog 4 #[.string (mk s)] w fun e w' => e = .returned (.bool true) ∧ Below w.heap.size w w' := by
  have hm0 : 0 < w.heap.size := World.block_lt_of_cell? _ _ hm
  have hmm : ∀ w', Below w.heap.size w w' → w'.cell? ⟨0, 0, none⟩ = some (.int .i64 m) := fun w' hb => (hb.cell (p := ⟨0, 0, none⟩) hm0).trans hm
  rcases cutOut_ok s with ⟨hc, hsl, herr⟩ | ⟨x, y, hc, hx⟩
  · obtain ⟨rows, hrows⟩ : ∃ rows, rows = (lines s).mapIdx rowT := ⟨_, rfl⟩
    rw [← hrows] at hc
    have hC : ∀ w, Calls Tryd.prog 5 #[.string (mk s)] w fun e w' => ∃ V vs, e = .returned (.tuple #[V, .agg #[.int .i64 0, .int .i64 0]]) ∧ Grid w' w.heap.size V rows vs ∧ Below w.heap.size w w' := by
      intro w
      refine (Cut_any s w (by unfold maxLen; omega)).mono ?_
      rintro e w' ⟨V, vs, h1, h2, h3⟩
      rw [hc] at h1 h2
      exact ⟨V, vs, h1, h2, h3⟩
    have hlen := joinT_bound (L := lines s) (fun l hl => ⟨herr l hl, Nat.le_trans (lines_sub hl) hsl⟩) (by have := lines_count s; omega)
    rw [← hrows] at hlen
    by_cases hlong : 65536 < (joinT rows).length
    · have hC2 : ∀ w, Calls Tryd.prog 5 #[.string (mk (joinT rows))] w fun e w' => ∃ V, e = .returned (.tuple #[V, .agg #[.int .i64 3, .int .i64 (-1)]]) ∧ Below w.heap.size w w' := by
        intro w
        refine (Cut_any (joinT rows) w (by unfold maxLen; omega)).mono ?_
        rintro e w' ⟨V, vs, h1, h2, h3⟩
        rw [back_long hlong] at h1
        exact ⟨V, h1, h3⟩
      have HC := hid hC
      have HC2 := hid hC2
      have HJ := hid fun w base V vs (hG : Grid w base V rows vs) => Join_any w base V rows vs hG hlen
      clear hC hC2
      have htl : (mk (joinT rows)).size = (joinT rows).length := rfl
      generalize mk (joinT rows) = t at *
      generalize mk s = ss at *
      obtain ⟨tn, htn⟩ : ∃ tn, tn = (joinT rows).length := ⟨_, rfl⟩
      rw [← htn] at htl hlong
      clear htn hrows hc hlen
      go_enter Tryd.func4, Tryd.ntmps4
      go_wp2_with (go_at_call 5; with_reducible refine (HC.out _).mono ?_)
      rintro e w1 ⟨V, va, rfl, hG, hb1⟩
      go_wp2_with (first | (go_at_call 11; with_reducible refine (HJ.out _ _ _ _ (hG.alloc _)).mono ?_; rintro e w2 ⟨rfl, hb2⟩) | (go_at_call 5; with_reducible refine (HC2.out _).mono ?_))
      rintro e w3 ⟨V2, rfl, hb3⟩
      have B1 := hb1.alloc hb1.size (.cells #[.int .i64 0, .int .i64 0] 25)
      have B3 := (below_step (below_step B1 hb2) hb3)
      have B4 := B3.alloc B3.size (.cells #[.int .i64 3, .int .i64 (-1)] 25)
      clear hb1 hb2 hb3 B1 B3
      go_wp2
      go_ret
      exact ⟨rfl, B4⟩
    · obtain ⟨rows2, hc2, htx, hjt, hln⟩ := back_cut (L := lines s) herr (by rw [← hrows]; omega)
      rw [← hrows] at hc2 htx hjt
      have hC2 : ∀ w, Calls Tryd.prog 5 #[.string (mk (joinT rows))] w fun e w' => ∃ V vs, e = .returned (.tuple #[V, .agg #[.int .i64 0, .int .i64 0]]) ∧ Grid w' w.heap.size V rows2 vs ∧ Below w.heap.size w w' := by
        intro w
        refine (Cut_any (joinT rows) w (by unfold maxLen; omega)).mono ?_
        rintro e w' ⟨V, vs, h1, h2, h3⟩
        rw [hc2] at h1 h2
        exact ⟨V, vs, h1, h2, h3⟩
      have hJ2 := fun w base V vs (hG : Grid w base V rows2 vs) => Join_any w base V rows2 vs hG (by rw [hjt]; exact hlen)
      rw [hjt] at hJ2
      have hsm1 := cutOut_small s
      rw [hc] at hsm1
      have hsm2 := cutOut_small (joinT rows)
      rw [hc2] at hsm2
      have hlc := lines_count s
      have hrl : rows.length = (lines s).length := by rw [hrows]; simp
      have hT1 := fun w base V vs (hG : Grid w base V rows vs) => texts_any w base V rows vs hG hsm1 (by omega)
      have hT2 := fun w base V vs (hG : Grid w base V rows2 vs) => texts_any w base V rows2 vs hG hsm2 (by omega)
      rw [htx] at hT2
      have hSp := fun w hm => Split_any s m w (by omega) hm
      obtain ⟨L, q, x, hLl, hpc, hq7, hxq⟩ := back_pieces s hsl
      obtain ⟨tx, htxd⟩ : ∃ tx, tx = texts rows := ⟨_, rfl⟩
      rw [← htxd] at hT1 hT2
      have HC := hid hC
      have HC2 := hid hC2
      have HJ := hid fun w base V vs (hG : Grid w base V rows vs) => Join_any w base V rows vs hG hlen
      have HJ2 := hid hJ2
      have HT1 := hid hT1
      have HT2 := hid hT2
      have HSp := hid hSp
      have HMM := hid hmm
      have htl : (mk (joinT rows)).size = (joinT rows).length := rfl
      have HROWS := hid hrows
      have HERR := hid herr
      obtain ⟨rl, hrl2⟩ : ∃ rl, rl = rows.length := ⟨_, rfl⟩
      have HRL := hid hrl2
      have hrlL : rl = L.length := by rw [hrl2, hLl, hrl]
      have HRLL := hid hrlL
      have HLL := hid hLl
      have HPC := hid hpc
      clear hC hC2 hJ2 hT1 hT2 hSp hsm1 hsm2 hmm hrows herr hjt htx hc hc2 hrl hln hlc hLl hpc hrl2 hrlL
      rcases hxq with ⟨hpl, hxq⟩
      rw [hpl] at HSp
      have HPL := hid hpl
      clear hpl
      generalize mk (joinT rows) = t at *
      generalize mk s = ss at *
      obtain ⟨tn, htn⟩ : ∃ tn, tn = (joinT rows).length := ⟨_, rfl⟩
      rw [← htn] at htl hlong hlen
      clear htn
      go_enter Tryd.func4, Tryd.ntmps4
      go_wp2_with (go_at_call 5; with_reducible refine (HC.out _).mono ?_)
      rintro e w1 ⟨V, va, rfl, hG, hb1⟩
      obtain ⟨aV, cV, rfl⟩ := gridV hG
      rw [← HRL.out] at hG ⊢
      go_wp2_with (first | (go_at_call 11; with_reducible refine (HJ.out _ _ _ _ (hG.alloc _)).mono ?_; rintro e w2 ⟨rfl, hb2⟩) | (go_at_call 5; with_reducible refine (HC2.out _).mono ?_))
      rintro e w3 ⟨V2, vb, rfl, hG2, hb3⟩
      have B1 := hb1.alloc hb1.size (.cells #[.int .i64 0, .int .i64 0] 25)
      have B3 := (below_step (below_step B1 hb2) hb3)
      have B4 := B3.alloc B3.size (.cells #[.int .i64 0, .int .i64 0] 25)
      have G1 := ((hG.alloc (.cells #[.int .i64 0, .int .i64 0] 25)).below hb2).below hb3
      have hF := FaultAt.new w3 0 0
      have M4 := HMM.out _ B4
      clear hb1 hb2 hb3 B1 B3 hG
      go_wp2_with (go_at_call 8; with_reducible refine (HSp.out _ M4).mono ?_)
      rintro e w4 ⟨rfl, hw4⟩
      have hba : Below (w3.alloc (.cells #[.int .i64 0, .int .i64 0] 25)).heap.size (w3.alloc (.cells #[.int .i64 0, .int .i64 0] 25)) w4 := by rw [hw4]; exact (Below.refl _ _).alloc (Nat.le_refl _) _
      have hcl : ∀ i l, (pieces s)[i]? = some l → w4.cell? ⟨(w3.alloc (.cells #[.int .i64 0, .int .i64 0] 25)).heap.size, i, none⟩ = some (.string (mk l)) := by
        intro i l h
        rw [hw4, World.cell?_alloc_new]
        simp [h]
      have hnb : (w3.alloc (.cells #[.int .i64 0, .int .i64 0] 25)).heap.size < w4.heap.size := by rw [hw4]; simp
      have G4 := (G1.alloc _).below hba
      have G24 := (hG2.alloc _).below hba
      have F4 := hF.step hba
      have B5 := below_step B4 hba
      have f0 := F4.c0
      have f1 := F4.c1
      clear hw4 hba G1 hG2 hF B4 M4 F4
      generalize (w3.alloc (.cells #[.int .i64 0, .int .i64 0] 25)).heap.size = NB at *
      have hlast := hcl q x HPC.out
      have HCL := hid hcl
      clear hcl
      rcases hxq with ⟨rfl, hLq, hLi⟩ | ⟨hx0, hLq, hLi⟩
      all_goals
        have HLI := hid hLi
        have hrlL := HRLL.out
        clear HRLL
        rw [hLq] at hrlL
        have HLQ := hid hLq
        clear hLq hLi
        subst hrlL
      · have hemp : (mk []).toList.isEmpty = true := by rw [mk_list]; rfl
        generalize mk [] = xm at *
        go_wp2_with (first | (go_at_call 9; first | (with_reducible refine (HT1.out _ _ _ _ G4).mono ?_; rintro e w5 ⟨U1, v1, rfl, hS1, c5⟩) | (with_reducible refine (HT2.out _ _ _ _ (G24.below c5)).mono ?_; rintro e w6 ⟨U2, v2, rfl, hS2, c6⟩)) | (go_at_call 10; with_reducible refine (sameTexts_any _ _ _ U1 U2 tx v1 v2 (hS1.below c6) hS2).mono ?_; rintro e w7 ⟨rfl, n7, rfl⟩) | (go_at_call 11; with_reducible refine (HJ2.out _ _ _ _ (((G24.below c5).below c6).drewN _)).mono ?_; rintro e w8 ⟨rfl, c8⟩) | (go_at_call 6; with_reducible refine (lives_any _).mono ?_; rintro e W0 ⟨rfl, c9⟩))
        have C6 := below_step c5 c6
        have C7 := below_drewN' C6 n7
        have C8 := below_step C7 c8
        have C9 := below_step C8 c9
        have G0 := ((((G4.below c5).below c6).drewN n7).below c8).below c9
        have B0 := below_step B5 C9
        have hz0 := B0.size
        have hcl0 : ∀ i l, L[i]? = some l → W0.cell? ⟨NB, i, none⟩ = some (.string (mk l)) := by
          intro i l h
          have hi := (List.getElem?_eq_some_iff.1 h).1
          have := HCL.out i l (by rw [HLI.out i hi]; exact h)
          rw [C9.cell (p := ⟨NB, i, none⟩) hnb]
          exact this
        have HC0 := hid hcl0
        have HG0 := hid G0
        clear hcl0 G0 c5 c6 c8 c9 C6 C7 C8 C9 G4 G24 B5 hS1 hS2 HCL HLI f0 f1 hlast hemp HT1 HT2 HJ HJ2 HC HC2 HSp
        go_loopw [9] (fun i w' => SeenO W0 L.length i w') (fun i _ => L.length + 1 - (intOf i).toNat)
        case atStart => exact ⟨0, rfl, by omega, Below.refl _ _⟩
        case round =>
          obtain ⟨i, rfl, hi, hb⟩ := hrel
          have hz := hb.size
          by_cases hil : i < L.length
          · have hil2 := hil
            rw [HLQ.out] at hil2
            obtain ⟨l, hl⟩ : ∃ l, L[i]? = some l := ⟨L[i]'hil, by simp⟩
            have hlm : l ∈ lines s := by rw [← HLL.out]; exact List.mem_of_getElem? hl
            have hel := HERR.out l hlm
            have hll : l.length ≤ 65536 := Nat.le_trans (lines_sub hlm) hsl
            have hr : rows[i]? = some (rowT i l) := by rw [HROWS.out, List.getElem?_mapIdx, ← HLL.out, hl]; rfl
            obtain ⟨ws, hws⟩ : ∃ ws, ws = wordsW l := ⟨_, rfl⟩
            have hpls := wordsW_placed hel
            rw [← hws] at hpls
            have hrln : (rowT i l).length = ws.length := by rw [rowT_len, hws]
            have hline := HC0.out i l hl
            have hNBlt := World.block_lt_of_cell? _ _ hline
            have hwl : ws.length ≤ 65536 := by rw [hws]; exact Nat.le_trans (wordsW_len l) hll
            have HPL2 := hid hpls
            have HWS := hid hws
            have HRR := hid hr
            have HLINE := hid hline
            obtain ⟨ga, cap1, ad1, _, sc1, e1, _, hc1, _, _, hcell⟩ := gridAt (HG0.out.below hb) hr
            rw [← HRL.out] at e1
            cases e1
            have HRLN := hid hrln
            have HIL := hid hil
            have hlsz : (mk l).size = l.length := rfl
            clear hl hlm hr hws hpls hrln hcell hline hil
            rw [HRLN.out] at hc1
            go_wp2
            go_loopw [10, 11] (fun e k w' => SeenI wr ws e k w') (fun _ k _ => ws.length + 1 - (intOf k).toNat)
            case atStart => exact ⟨0, rfl, by omega, rfl, Below.refl _ _⟩
            case round =>
              obtain ⟨j, rfl, hj, rfl, hb2⟩ := hrel
              have hz2 := hb2.size
              obtain ⟨ga', _, ad2, _, sc2, e2, _, hd1, _, _, hcell⟩ := gridAt ((HG0.out.below hb).below hb2) HRR.out
              rw [← HRL.out] at e2
              cases e2
              rw [HRLN.out] at hd1
              have hln := (hb2.cell (p := ⟨NB, i, none⟩) (Nat.lt_of_lt_of_le hNBlt hz)).trans ((hb.cell (p := ⟨NB, i, none⟩) hNBlt).trans HLINE.out)
              by_cases hjl : j < ws.length
              · obtain ⟨⟨c, d⟩, hp⟩ : ∃ p, ws[j]? = some p := ⟨ws[j]'hjl, by simp⟩
                obtain ⟨b, rfl, _, x0, x1, x2⟩ := hcell j ((l.drop c).take (d - c), (i : Int), (c : Int)) (by unfold rowT; rw [List.getElem?_map, ← HWS.out, hp]; rfl)
                obtain ⟨y1, y2, y3, y4, y5, y6⟩ := HPL2.out.1 j (c, d) hp
                have hdl : d ≤ (bareW l).length := (wordsW_ends l (c, d) (List.mem_of_getElem? (by rw [← HWS.out]; exact hp))).2
                have hbl := bareW_len l
                obtain ⟨n, rfl⟩ : ∃ n, d = c + n := ⟨d - c, by simp only at y4; omega⟩
                have hen : endB ws (j + 1) = c + n := by simp [endB, List.getD_eq_getElem?_getD, hp]
                simp only [Nat.add_sub_cancel_left] at x0
                simp only at y1 y2 y3 y4 y5 y6
                obtain ⟨T, hT⟩ : ∃ T, T = mk ((l.drop c).take n) := ⟨_, rfl⟩
                have hsub : (mk l).extract c (c + n) = T := by rw [hT, mk_ext, Nat.add_sub_cancel_left]
                have hTs : T.size = n := by rw [hT, mk_size]; simp; omega
                rw [← hT] at x0
                obtain ⟨e0, he0⟩ : ∃ e0, e0 = endB ws j := ⟨_, rfl⟩
                rw [← he0] at y1 y2 y3 ⊢
                have hgap : (mk l).extract e0 c = mk ((l.drop e0).take (c - e0)) := mk_ext l e0 c
                have hgb : ∀ x ∈ (l.drop e0).take (c - e0), blankB x = true := by
                  intro x hx
                  obtain ⟨k, hk⟩ := List.getElem?_of_mem hx
                  have hkl : k < c - e0 := by have := (List.getElem?_eq_some_iff.1 hk).1; simp at this; omega
                  rw [List.getElem?_take, if_pos hkl, List.getElem?_drop, (bareW_getD (l := l) (m := e0 + k) (by omega)).1] at hk
                  cases hk
                  exact y3 _ (by omega) (by omega)
                have hgl : ((l.drop e0).take (c - e0)).length ≤ 4000000000 := by simp; omega
                have HTR := hid fun w => Trim_any _ w hgl hgb
                rw [← hgap] at HTR
                have hcl : c + n ≤ l.length := by omega
                have hn1 : 1 ≤ n := by omega
                have hHN := hid hen
                clear hT hp hcell hgap hgb hgl y3 y6 hen hdl hbl he0 HPL2
                obtain ⟨lb, hlb⟩ : ∃ lb, lb = mk l := ⟨_, rfl⟩
                rw [← hlb] at hsub HTR hln hlsz
                clear hlb
                have hln2 : (wr.alloc (.cells #[.string T, .int .i64 (i : Int), .int .i64 (c : Int)] 39)).cell? ⟨NB, i, none⟩ = some (.string lb) := by
                  rw [World.cell?_of_block (blk_alloc_lt' _ _ _ (World.block_lt_of_cell? _ _ hln))]
                  exact hln
                have g1 : ((c : Int) < (e0 : Int)) = False := by simp; omega
                have g2 : ((l.length : Int) < (c : Int) + (n : Int)) = False := by simp; omega
                have g4 : ((n : Int) < 1) = False := by simp; omega
                have hbt := hb2.alloc hz2 (.cells #[.string T, .int .i64 (i : Int), .int .i64 (c : Int)] 39)
                have tk0 : (wr.alloc (.cells #[.string T, .int .i64 (i : Int), .int .i64 (c : Int)] 39)).cell? ⟨wr.heap.size, 0, none⟩ = some (.string T) := by rw [World.cell?_alloc_new]; rfl
                have tk2 : (wr.alloc (.cells #[.string T, .int .i64 (i : Int), .int .i64 (c : Int)] 39)).cell? ⟨wr.heap.size, 2, none⟩ = some (.int .i64 (c : Int)) := by rw [World.cell?_alloc_new]; rfl
                have tkl : wr.heap.size < (wr.alloc (.cells #[.string T, .int .i64 (i : Int), .int .i64 (c : Int)] 39)).heap.size := by simp
                go_wp2
                go_quiet (fail)
                clear g1 g2 g4
                obtain ⟨r5, hr5d⟩ : ∃ r5, r5 = mk [] := ⟨_, rfl⟩
                have hr5 : r5.toList.isEmpty = true := by rw [hr5d, mk_list]; rfl
                rw [← hr5d] at HTR
                have HTC := hid fun w' (hw' : BackC (wr.alloc (.cells #[.string T, .int .i64 (i : Int), .int .i64 (c : Int)] 39)) NB i wr.heap.size c lb T w') => back_keep (HTR.out w') hw'
                clear hr5d
                by_cases hj0 : j = 0
                · have g5 : ((0 : Int) < (j : Int)) = False := by simp; omega
                  have b1 : (0 : Int) ≤ (e0 : Int) := by omega
                  have b2 : (e0 : Int) ≤ (c : Int) := by omega
                  have b3 : (c : Int) ≤ (l.length : Int) := by omega
                  have b4 : (c : Int) ≤ (lb.size : Int) := by rw [hlsz]; omega
                  go_wp2
                  refine wp_region_quietC (BackC (wr.alloc (.cells #[.string T, .int .i64 (i : Int), .int .i64 (c : Int)] 39)) NB i wr.heap.size c lb T) (by kernel_rfl) (by kernel_rfl) ⟨hln2, tk0, tk2, below_drewN' (Below.refl _ _) (nq + 1)⟩ ?_
                  repeat (first | (refine wpQuiet_step (fun K hK => ?_); go_simp; first | (refine hK _ ?_; clear hK K) | (refine ⟨_, fun _ _ => rfl, hK _ ?_⟩; clear hK K) | (refine ⟨.string lb, fun w' hw' => (by have h := hw'; unfold BackC at h; simp [h.1]), hK _ ?_⟩; clear hK K) | (refine ⟨.int .i64 (c : Int), fun w' hw' => (by have h := hw'; unfold BackC at h; simp [h.2.2.1]), hK _ ?_⟩; clear hK K) | (refine ⟨.string r5, fun w' hw' => HTC.out w' hw', hK _ ?_⟩; clear hK K)))
                  refine wpQuiet_nil ?_
                  intro w5 hw5
                  obtain ⟨z1, z0, z2, hb5⟩ := hw5
                  go_wp2
                  go_roundw
                  case rel => exact ⟨j + 1, by go_num, by omega, by rw [hHN.out]; go_num, below_step hbt hb5⟩
                  case measure => simp [intOf] <;> omega
                · have g5 : (0 < j) = True := by simp; omega
                  have g6 : ((c : Int) == (e0 : Int)) = false := by simp only [beq_eq_false_iff_ne, ne_eq]; have := y2 (by omega); omega
                  have b1 : (0 : Int) ≤ (e0 : Int) := by omega
                  have b2 : (e0 : Int) ≤ (c : Int) := by omega
                  have b3 : (c : Int) ≤ (l.length : Int) := by omega
                  have b4 : (c : Int) ≤ (lb.size : Int) := by rw [hlsz]; omega
                  go_wp2
                  refine wp_region_quietC (BackC (wr.alloc (.cells #[.string T, .int .i64 (i : Int), .int .i64 (c : Int)] 39)) NB i wr.heap.size c lb T) (by kernel_rfl) (by kernel_rfl) ⟨hln2, tk0, tk2, below_drewN' (Below.refl _ _) (nq + 1)⟩ ?_
                  repeat (first | (refine wpQuiet_step (fun K hK => ?_); go_simp; first | (refine hK _ ?_; clear hK K) | (refine ⟨_, fun _ _ => rfl, hK _ ?_⟩; clear hK K) | (refine ⟨.string lb, fun w' hw' => (by have h := hw'; unfold BackC at h; simp [h.1]), hK _ ?_⟩; clear hK K) | (refine ⟨.int .i64 (c : Int), fun w' hw' => (by have h := hw'; unfold BackC at h; simp [h.2.2.1]), hK _ ?_⟩; clear hK K) | (refine ⟨.string r5, fun w' hw' => HTC.out w' hw', hK _ ?_⟩; clear hK K)))
                  refine wpQuiet_nil ?_
                  intro w5 hw5
                  obtain ⟨z1, z0, z2, hb5⟩ := hw5
                  go_wp2
                  go_roundw
                  case rel => exact ⟨j + 1, by go_num, by omega, by rw [hHN.out]; go_num, below_step hbt hb5⟩
                  case measure => simp [intOf] <;> omega
              · obtain rfl : j = ws.length := by omega
                obtain ⟨rb, hTL, hrb⟩ := back_rest (l := l) (e := endB ws ws.length) HPL2.out.2.1 HPL2.out.2.2
                have hee := HPL2.out.2.1
                have hbl := bareW_len l
                obtain ⟨e0, he0⟩ : ∃ e0, e0 = endB ws ws.length := ⟨_, rfl⟩
                rw [← he0] at hTL hee ⊢
                have HTL := hid hTL
                clear hTL he0 hcell
                obtain ⟨lb, hlb⟩ : ∃ lb, lb = mk l := ⟨_, rfl⟩
                rw [← hlb] at HTL hln hlsz
                clear hlb
                rcases hrb with hr1 | ⟨hr1, hr2, hr3 | hr3⟩
                all_goals
                  go_wp2_with (go_at_call 13; refine (HTL.out _).mono ?_; rintro e w5 ⟨rfl, hb5⟩)
                  go_roundw
                  case rel => exact ⟨i + 1, by go_num, HIL.out, below_step (below_step hb hb2) hb5⟩
                  case measure => simp [intOf] <;> omega
          · have hil2 : i = L.length := by omega
            rw [HLQ.out] at hil2
            subst hil2
            go_wp2
            go_ret
            exact ⟨rfl, below_step B0 hb⟩
      · have hemp : (mk x).toList.isEmpty = false := by rw [mk_list]; simpa using hx0
        generalize mk x = xm at *
        go_wp2_with (first | (go_at_call 9; first | (with_reducible refine (HT1.out _ _ _ _ G4).mono ?_; rintro e w5 ⟨U1, v1, rfl, hS1, c5⟩) | (with_reducible refine (HT2.out _ _ _ _ (G24.below c5)).mono ?_; rintro e w6 ⟨U2, v2, rfl, hS2, c6⟩)) | (go_at_call 10; with_reducible refine (sameTexts_any _ _ _ U1 U2 tx v1 v2 (hS1.below c6) hS2).mono ?_; rintro e w7 ⟨rfl, n7, rfl⟩) | (go_at_call 11; with_reducible refine (HJ2.out _ _ _ _ (((G24.below c5).below c6).drewN _)).mono ?_; rintro e w8 ⟨rfl, c8⟩) | (go_at_call 6; with_reducible refine (lives_any _).mono ?_; rintro e W0 ⟨rfl, c9⟩))
        have C6 := below_step c5 c6
        have C7 := below_drewN' C6 n7
        have C8 := below_step C7 c8
        have C9 := below_step C8 c9
        have G0 := ((((G4.below c5).below c6).drewN n7).below c8).below c9
        have B0 := below_step B5 C9
        have hz0 := B0.size
        have hcl0 : ∀ i l, L[i]? = some l → W0.cell? ⟨NB, i, none⟩ = some (.string (mk l)) := by
          intro i l h
          have hi := (List.getElem?_eq_some_iff.1 h).1
          have := HCL.out i l (by rw [HLI.out i hi]; exact h)
          rw [C9.cell (p := ⟨NB, i, none⟩) hnb]
          exact this
        have HC0 := hid hcl0
        have HG0 := hid G0
        clear hcl0 G0 c5 c6 c8 c9 C6 C7 C8 C9 G4 G24 B5 hS1 hS2 HCL HLI f0 f1 hlast hemp HT1 HT2 HJ HJ2 HC HC2 HSp
        go_loopw [9] (fun i w' => SeenO W0 L.length i w') (fun i _ => L.length + 1 - (intOf i).toNat)
        case atStart => exact ⟨0, rfl, by omega, Below.refl _ _⟩
        case round =>
          obtain ⟨i, rfl, hi, hb⟩ := hrel
          have hz := hb.size
          by_cases hil : i < L.length
          · have hil2 := hil
            rw [HLQ.out] at hil2
            obtain ⟨l, hl⟩ : ∃ l, L[i]? = some l := ⟨L[i]'hil, by simp⟩
            have hlm : l ∈ lines s := by rw [← HLL.out]; exact List.mem_of_getElem? hl
            have hel := HERR.out l hlm
            have hll : l.length ≤ 65536 := Nat.le_trans (lines_sub hlm) hsl
            have hr : rows[i]? = some (rowT i l) := by rw [HROWS.out, List.getElem?_mapIdx, ← HLL.out, hl]; rfl
            obtain ⟨ws, hws⟩ : ∃ ws, ws = wordsW l := ⟨_, rfl⟩
            have hpls := wordsW_placed hel
            rw [← hws] at hpls
            have hrln : (rowT i l).length = ws.length := by rw [rowT_len, hws]
            have hline := HC0.out i l hl
            have hNBlt := World.block_lt_of_cell? _ _ hline
            have hwl : ws.length ≤ 65536 := by rw [hws]; exact Nat.le_trans (wordsW_len l) hll
            have HPL2 := hid hpls
            have HWS := hid hws
            have HRR := hid hr
            have HLINE := hid hline
            obtain ⟨ga, cap1, ad1, _, sc1, e1, _, hc1, _, _, hcell⟩ := gridAt (HG0.out.below hb) hr
            rw [← HRL.out] at e1
            cases e1
            have HRLN := hid hrln
            have HIL := hid hil
            have hlsz : (mk l).size = l.length := rfl
            clear hl hlm hr hws hpls hrln hcell hline hil
            rw [HRLN.out] at hc1
            go_wp2
            go_loopw [10, 11] (fun e k w' => SeenI wr ws e k w') (fun _ k _ => ws.length + 1 - (intOf k).toNat)
            case atStart => exact ⟨0, rfl, by omega, rfl, Below.refl _ _⟩
            case round =>
              obtain ⟨j, rfl, hj, rfl, hb2⟩ := hrel
              have hz2 := hb2.size
              obtain ⟨ga', _, ad2, _, sc2, e2, _, hd1, _, _, hcell⟩ := gridAt ((HG0.out.below hb).below hb2) HRR.out
              rw [← HRL.out] at e2
              cases e2
              rw [HRLN.out] at hd1
              have hln := (hb2.cell (p := ⟨NB, i, none⟩) (Nat.lt_of_lt_of_le hNBlt hz)).trans ((hb.cell (p := ⟨NB, i, none⟩) hNBlt).trans HLINE.out)
              by_cases hjl : j < ws.length
              · obtain ⟨⟨c, d⟩, hp⟩ : ∃ p, ws[j]? = some p := ⟨ws[j]'hjl, by simp⟩
                obtain ⟨b, rfl, _, x0, x1, x2⟩ := hcell j ((l.drop c).take (d - c), (i : Int), (c : Int)) (by unfold rowT; rw [List.getElem?_map, ← HWS.out, hp]; rfl)
                obtain ⟨y1, y2, y3, y4, y5, y6⟩ := HPL2.out.1 j (c, d) hp
                have hdl : d ≤ (bareW l).length := (wordsW_ends l (c, d) (List.mem_of_getElem? (by rw [← HWS.out]; exact hp))).2
                have hbl := bareW_len l
                obtain ⟨n, rfl⟩ : ∃ n, d = c + n := ⟨d - c, by simp only at y4; omega⟩
                have hen : endB ws (j + 1) = c + n := by simp [endB, List.getD_eq_getElem?_getD, hp]
                simp only [Nat.add_sub_cancel_left] at x0
                simp only at y1 y2 y3 y4 y5 y6
                obtain ⟨T, hT⟩ : ∃ T, T = mk ((l.drop c).take n) := ⟨_, rfl⟩
                have hsub : (mk l).extract c (c + n) = T := by rw [hT, mk_ext, Nat.add_sub_cancel_left]
                have hTs : T.size = n := by rw [hT, mk_size]; simp; omega
                rw [← hT] at x0
                obtain ⟨e0, he0⟩ : ∃ e0, e0 = endB ws j := ⟨_, rfl⟩
                rw [← he0] at y1 y2 y3 ⊢
                have hgap : (mk l).extract e0 c = mk ((l.drop e0).take (c - e0)) := mk_ext l e0 c
                have hgb : ∀ x ∈ (l.drop e0).take (c - e0), blankB x = true := by
                  intro x hx
                  obtain ⟨k, hk⟩ := List.getElem?_of_mem hx
                  have hkl : k < c - e0 := by have := (List.getElem?_eq_some_iff.1 hk).1; simp at this; omega
                  rw [List.getElem?_take, if_pos hkl, List.getElem?_drop, (bareW_getD (l := l) (m := e0 + k) (by omega)).1] at hk
                  cases hk
                  exact y3 _ (by omega) (by omega)
                have hgl : ((l.drop e0).take (c - e0)).length ≤ 4000000000 := by simp; omega
                have HTR := hid fun w => Trim_any _ w hgl hgb
                rw [← hgap] at HTR
                have hcl : c + n ≤ l.length := by omega
                have hn1 : 1 ≤ n := by omega
                have hHN := hid hen
                clear hT hp hcell hgap hgb hgl y3 y6 hen hdl hbl he0 HPL2
                obtain ⟨lb, hlb⟩ : ∃ lb, lb = mk l := ⟨_, rfl⟩
                rw [← hlb] at hsub HTR hln hlsz
                clear hlb
                have hln2 : (wr.alloc (.cells #[.string T, .int .i64 (i : Int), .int .i64 (c : Int)] 39)).cell? ⟨NB, i, none⟩ = some (.string lb) := by
                  rw [World.cell?_of_block (blk_alloc_lt' _ _ _ (World.block_lt_of_cell? _ _ hln))]
                  exact hln
                have g1 : ((c : Int) < (e0 : Int)) = False := by simp; omega
                have g2 : ((l.length : Int) < (c : Int) + (n : Int)) = False := by simp; omega
                have g4 : ((n : Int) < 1) = False := by simp; omega
                have hbt := hb2.alloc hz2 (.cells #[.string T, .int .i64 (i : Int), .int .i64 (c : Int)] 39)
                have tk0 : (wr.alloc (.cells #[.string T, .int .i64 (i : Int), .int .i64 (c : Int)] 39)).cell? ⟨wr.heap.size, 0, none⟩ = some (.string T) := by rw [World.cell?_alloc_new]; rfl
                have tk2 : (wr.alloc (.cells #[.string T, .int .i64 (i : Int), .int .i64 (c : Int)] 39)).cell? ⟨wr.heap.size, 2, none⟩ = some (.int .i64 (c : Int)) := by rw [World.cell?_alloc_new]; rfl
                have tkl : wr.heap.size < (wr.alloc (.cells #[.string T, .int .i64 (i : Int), .int .i64 (c : Int)] 39)).heap.size := by simp
                go_wp2
                go_quiet (fail)
                clear g1 g2 g4
                obtain ⟨r5, hr5d⟩ : ∃ r5, r5 = mk [] := ⟨_, rfl⟩
                have hr5 : r5.toList.isEmpty = true := by rw [hr5d, mk_list]; rfl
                rw [← hr5d] at HTR
                have HTC := hid fun w' (hw' : BackC (wr.alloc (.cells #[.string T, .int .i64 (i : Int), .int .i64 (c : Int)] 39)) NB i wr.heap.size c lb T w') => back_keep (HTR.out w') hw'
                clear hr5d
                by_cases hj0 : j = 0
                · have g5 : ((0 : Int) < (j : Int)) = False := by simp; omega
                  have b1 : (0 : Int) ≤ (e0 : Int) := by omega
                  have b2 : (e0 : Int) ≤ (c : Int) := by omega
                  have b3 : (c : Int) ≤ (l.length : Int) := by omega
                  have b4 : (c : Int) ≤ (lb.size : Int) := by rw [hlsz]; omega
                  go_wp2
                  refine wp_region_quietC (BackC (wr.alloc (.cells #[.string T, .int .i64 (i : Int), .int .i64 (c : Int)] 39)) NB i wr.heap.size c lb T) (by kernel_rfl) (by kernel_rfl) ⟨hln2, tk0, tk2, below_drewN' (Below.refl _ _) (nq + 1)⟩ ?_
                  repeat (first | (refine wpQuiet_step (fun K hK => ?_); go_simp; first | (refine hK _ ?_; clear hK K) | (refine ⟨_, fun _ _ => rfl, hK _ ?_⟩; clear hK K) | (refine ⟨.string lb, fun w' hw' => (by have h := hw'; unfold BackC at h; simp [h.1]), hK _ ?_⟩; clear hK K) | (refine ⟨.int .i64 (c : Int), fun w' hw' => (by have h := hw'; unfold BackC at h; simp [h.2.2.1]), hK _ ?_⟩; clear hK K) | (refine ⟨.string r5, fun w' hw' => HTC.out w' hw', hK _ ?_⟩; clear hK K)))
                  refine wpQuiet_nil ?_
                  intro w5 hw5
                  obtain ⟨z1, z0, z2, hb5⟩ := hw5
                  go_wp2
                  go_roundw
                  case rel => exact ⟨j + 1, by go_num, by omega, by rw [hHN.out]; go_num, below_step hbt hb5⟩
                  case measure => simp [intOf] <;> omega
                · have g5 : (0 < j) = True := by simp; omega
                  have g6 : ((c : Int) == (e0 : Int)) = false := by simp only [beq_eq_false_iff_ne, ne_eq]; have := y2 (by omega); omega
                  have b1 : (0 : Int) ≤ (e0 : Int) := by omega
                  have b2 : (e0 : Int) ≤ (c : Int) := by omega
                  have b3 : (c : Int) ≤ (l.length : Int) := by omega
                  have b4 : (c : Int) ≤ (lb.size : Int) := by rw [hlsz]; omega
                  go_wp2
                  refine wp_region_quietC (BackC (wr.alloc (.cells #[.string T, .int .i64 (i : Int), .int .i64 (c : Int)] 39)) NB i wr.heap.size c lb T) (by kernel_rfl) (by kernel_rfl) ⟨hln2, tk0, tk2, below_drewN' (Below.refl _ _) (nq + 1)⟩ ?_
                  repeat (first | (refine wpQuiet_step (fun K hK => ?_); go_simp; first | (refine hK _ ?_; clear hK K) | (refine ⟨_, fun _ _ => rfl, hK _ ?_⟩; clear hK K) | (refine ⟨.string lb, fun w' hw' => (by have h := hw'; unfold BackC at h; simp [h.1]), hK _ ?_⟩; clear hK K) | (refine ⟨.int .i64 (c : Int), fun w' hw' => (by have h := hw'; unfold BackC at h; simp [h.2.2.1]), hK _ ?_⟩; clear hK K) | (refine ⟨.string r5, fun w' hw' => HTC.out w' hw', hK _ ?_⟩; clear hK K)))
                  refine wpQuiet_nil ?_
                  intro w5 hw5
                  obtain ⟨z1, z0, z2, hb5⟩ := hw5
                  go_wp2
                  go_roundw
                  case rel => exact ⟨j + 1, by go_num, by omega, by rw [hHN.out]; go_num, below_step hbt hb5⟩
                  case measure => simp [intOf] <;> omega
              · obtain rfl : j = ws.length := by omega
                obtain ⟨rb, hTL, hrb⟩ := back_rest (l := l) (e := endB ws ws.length) HPL2.out.2.1 HPL2.out.2.2
                have hee := HPL2.out.2.1
                have hbl := bareW_len l
                obtain ⟨e0, he0⟩ : ∃ e0, e0 = endB ws ws.length := ⟨_, rfl⟩
                rw [← he0] at hTL hee ⊢
                have HTL := hid hTL
                clear hTL he0 hcell
                obtain ⟨lb, hlb⟩ : ∃ lb, lb = mk l := ⟨_, rfl⟩
                rw [← hlb] at HTL hln hlsz
                clear hlb
                rcases hrb with hr1 | ⟨hr1, hr2, hr3 | hr3⟩
                all_goals
                  go_wp2_with (go_at_call 13; refine (HTL.out _).mono ?_; rintro e w5 ⟨rfl, hb5⟩)
                  go_roundw
                  case rel => exact ⟨i + 1, by go_num, HIL.out, below_step (below_step hb hb2) hb5⟩
                  case measure => simp [intOf] <;> omega
          · have hil2 : i = L.length := by omega
            rw [HLQ.out] at hil2
            subst hil2
            go_wp2
            go_ret
            exact ⟨rfl, below_step B0 hb⟩
  · have hC : ∀ w, Calls Tryd.prog 5 #[.string (mk s)] w fun e w' => ∃ ad cap, e = .returned (.tuple #[.slice ad 0 cap, .agg #[.int .i64 x, .int .i64 y]]) ∧ Below w.heap.size w w' := by
      intro w
      refine (Cut_any s w hs).mono ?_
      rintro e w' ⟨V, vs, h1, h2, h3⟩
      rw [hc] at h1 h2
      obtain ⟨ad, cap, rfl⟩ := gridV h2
      exact ⟨ad, cap, h1, h3⟩
    have HC := hid hC
    have hx' : (x == 0) = false := by simpa using hx
    clear hC hc
    generalize mk s = ss at *
    go_enter Tryd.func4, Tryd.ntmps4
    go_wp2_with (go_at_call 5; with_reducible refine (HC.out _).mono ?_)
    rintro e w1 ⟨ad, cap, rfl, hb1⟩
    go_wp2_with (go_at_call 6; with_reducible refine (lives_any _).mono ?_; rintro e w2 ⟨rfl, hb2⟩)
    go_ret
    exact ⟨rfl, below_step (hb1.alloc hb1.size _) hb2⟩
end Go.Proofs.YtkjklnnjaiggdaaDoor
