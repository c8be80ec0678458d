/- gridworkref15: a net's nodes. Condition: kinds are bytes. -/
import Derived.Test.YtfnbohpfcdddgaaR15
import Derived.Test.YtfnbohpfcdddgaaNPutK
import Derived.StillTailTactics
import Derived.Deep.AppendLies
import Derived.BigQuiet
import Derived.Deep.QuietTactic
namespace Go.Proofs.Ytfnbohpfcdddgaa
open Go.RowKit

def nodesF (L : List El) : List ByteArray := L.foldl (fun ns e => (fourE e).foldl putNode ns) []
theorem nodesF_snoc (L : List El) (e : El) : nodesF (L ++ [e]) = (fourE e).foldl putNode (nodesF L) := by simp [nodesF]
theorem fold_le : ∀ (xs ns : List ByteArray), (xs.foldl putNode ns).length ≤ ns.length + xs.length
  | [], ns => by simp
  | x :: xs, ns => by
    rw [List.foldl_cons]
    have := fold_le xs (putNode ns x)
    have := putNode_len ns x
    simp only [List.length_cons]
    omega
theorem nodesF_len (L : List El) : (nodesF L).length ≤ 4 * L.length := by
  have : ∀ (L : List El) (ns : List ByteArray), (L.foldl (fun ns e => (fourE e).foldl putNode ns) ns).length ≤ ns.length + 4 * L.length := by
    intro L
    induction L with
    | nil => intro ns; simp
    | cons e r ih =>
      intro ns
      rw [List.foldl_cons]
      have h1 := ih ((fourE e).foldl putNode ns)
      have h2 := fold_le (fourE e) ns
      have h3 : (fourE e).length = 4 := rfl
      simp only [List.length_cons]
      omega
  have := this L []
  simp at this
  unfold nodesF
  omega
/-- The told nodes; a row of four beside them. -/
structure NdS (B : Nat) (w : World) (out : Value) (ns : List ByteArray) : Prop where
  own : w.ownsRow B 9 1 out ns.length (strL ns)
theorem strs_cell {w : World} {B g cap : Nat} {ns : List ByteArray} (h : w.ownsRow B 9 1 (.slice (some ⟨g, 0, none⟩) ns.length cap) ns.length (strL ns)) {j : Nat} {x : ByteArray} (hx : ns[j]? = some x) : w.cell? ⟨g, j, none⟩ = some (.string x) := by
  have hj := (List.getElem?_eq_some_iff.1 hx).1
  rw [World.ownsRow.cellAt h j (by omega)]
  unfold strL
  rw [List.getElem?_map, hx]
  rfl
def OuL (W : World) (L : List El) (i out : Value) (w : World) : Prop := ∃ k : Nat, i = .int .i64 k ∧ k ≤ L.length ∧ w.ownsRow W.heap.size 9 1 out (nodesF (L.take k)).length (strL (nodesF (L.take k))) ∧ Below W.heap.size W w
def MiL (W : World) (e : El) (cb : Nat) (ns : List ByteArray) (k out : Value) (w : World) : Prop := ∃ j : Nat, k = .int .i64 j ∧ j ≤ 4 ∧ w.ownsRow W.heap.size 9 1 out (((fourE e).take j).foldl putNode ns).length (strL (((fourE e).take j).foldl putNode ns)) ∧ FourAt w cb e ∧ out.ownBlock ≠ some cb ∧ Below W.heap.size W w
def InL (w : World) (t0 : Bool) (ns : List ByteArray) (x : ByteArray) (j fl : Value) (w' : World) : Prop := ∃ k : Nat, j = .int .i64 k ∧ k ≤ ns.length ∧ fl = .bool (t0 || hasS (ns.take k) x) ∧ Dr w w'
set_option maxRecDepth 100000 in
set_option maxHeartbeats 8000000 in
theorem rNodes_any (n : Nat) (L : List El) (w : World) (h : RfN w n L) (hl : L.length ≤ 1000) : Calls Try.prog 30 #[.pointer (some ⟨n, 0, none⟩)] w (RetS w (nodesF L)) := by
  obtain ⟨iS, hiS, hs0, hs1, hs2⟩ := info_parts info_str
  have HN := hid (rElements_any n L w h hl)
  go_enter Try.func30, Try.ntmps30
  go_wp2_with (go_at_call 60; (with_reducible refine HN.out.mono ?_); rintro E1 w1 ⟨vl, rfl, hown, hb1⟩)
  have hE := ElsAt.of_owns hown
  clear hown HN
  go_loopw [5, 3] (fun i out w' => OuL w1 L i out w') (fun i _ _ => L.length + 1 - (intOf i).toNat)
  case atStart => exact ⟨0, rfl, by omega, World.ownsRow_nil _ _ _ _, Below.refl _ _⟩
  case round =>
    obtain ⟨k, rfl, hk, hown, hb⟩ := hrel
    have hE2 := hE.below hb
    obtain ⟨a, cap, rfl⟩ := hE2.form
    by_cases hkn : k < L.length
    · obtain ⟨e, he⟩ : ∃ e, L[k]? = some e := ⟨L[k]'hkn, List.getElem?_eq_getElem hkn⟩
      have HE := hid hE
      have hlen := nodesF_len (L.take k)
      have HS := hid (show nodesF (L.take (k + 1)) = (fourE e).foldl putNode (nodesF (L.take k)) by rw [el_snoc he, nodesF_snoc])
      obtain ⟨ns, hns⟩ : ∃ ns, ns = nodesF (L.take k) := ⟨_, rfl⟩
      rw [← hns] at hown hlen HS
      have htl : ns.length ≤ 4000 := by rw [List.length_take] at hlen; omega
      obtain ⟨b, off, rfl, hbl, c0, c1, c2, c3, c4, c5, -, -⟩ := hE2.at he
      have g1 : (k : Int) < (L.length : Int) := by omega
      clear hE he hE2 hns hlen c0 c1
      go_wp2
      obtain ⟨w5, hw5⟩ : ∃ w5, w5 = World.drew wr := ⟨_, rfl⟩
      replace c2 : w5.cell? ⟨b, off + k * 8 + 2, none⟩ = some (.string e.a) := by rw [hw5]; exact c2
      replace c3 : w5.cell? ⟨b, off + k * 8 + 3, none⟩ = some (.string e.b) := by rw [hw5]; exact c3
      replace c4 : w5.cell? ⟨b, off + k * 8 + 4, none⟩ = some (.string e.c) := by rw [hw5]; exact c4
      replace c5 : w5.cell? ⟨b, off + k * 8 + 5, none⟩ = some (.string e.d) := by rw [hw5]; exact c5
      have hown5 : w5.ownsRow w1.heap.size 9 1 u3 ns.length (strL ns) := by rw [hw5]; exact owns_drewN hown 1
      have hb5 : Below w1.heap.size w1 w5 := by rw [hw5]; exact hb.drew
      clear hown hb
      (refine wp_region_still_tail 20 (by kernel_rfl) (by kernel_rfl) ?_; simp only [List.take_succ_cons, List.take_zero, List.drop_succ_cons, List.drop_zero]; change wpStill _ _ (World.drew wr) (fun a' => wpList _ _ _ _ a' (World.drew wr)) _ _; rw [← hw5]; clear hw5; (repeat still_step); (try refine wpStill_nil ?_))
      go_wp2
      obtain ⟨cb, hcb⟩ : ∃ cb, cb = w5.heap.size := ⟨_, rfl⟩
      have hF : FourAt (w5.alloc (.cells (strL (fourE e)).toArray 9)) cb e := by rw [hcb]; exact blk_new _ _
      have hne : u3.ownBlock ≠ some cb := by
        intro hq
        have := (hown5.lt cb hq).2
        omega
      have hbA : Below w1.heap.size w1 (w5.alloc (.cells (strL (fourE e)).toArray 9)) := hb5.alloc hb5.size _
      have hownA := hown5.alloc (.cells (strL (fourE e)).toArray 9)
      rw [← hcb]
      clear hcb c2 c3 c4 c5 hown5 hb5
      go_loopw [7, 3] (fun i out w' => MiL w1 e cb ns i out w') (fun i _ _ => 5 - (intOf i).toNat)
      case atStart => exact ⟨0, rfl, by omega, hownA, hF, hne, hbA⟩
      case round =>
        obtain ⟨j, rfl, hj, hown, hF2, hne2, hb⟩ := hrel
        clear hF hne hbA hownA
        have hfl := fold_le ((fourE e).take j) ns
        have hfl2 : ((fourE e).take j).length ≤ 4 := by rw [List.length_take]; exact Nat.min_le_right _ _
        obtain ⟨ms, hms⟩ : ∃ ms, ms = ((fourE e).take j).foldl putNode ns := ⟨_, rfl⟩
        rw [← hms] at hown hfl
        have HMS := hid hms
        clear hms
        by_cases hj4 : j < 4
        · obtain ⟨x, hx⟩ : ∃ x, (fourE e)[j]? = some x := ⟨(fourE e)[j]'hj4, List.getElem?_eq_getElem hj4⟩
          have hstep : ((fourE e).take (j + 1)).foldl putNode ns = putNode ms x := by
            rw [HMS.out, List.take_add_one, hx]
            simp [List.foldl_append]
          have HST := hid hstep
          have hxc := hF2.cell hx
          clear hstep hx
          obtain ⟨t0, ht0⟩ : ∃ t0, t0 = (x.toList.isEmpty || (x.toList == [48])) := ⟨_, rfl⟩
          have hcs : (t0 = true ∧ (x.toList = []) = True ∧ x.toList.isEmpty = true) ∨ (t0 = true ∧ (x.toList = []) = False ∧ x.toList.isEmpty = false ∧ (x.toList == [48]) = true) ∨ (t0 = false ∧ (x.toList = []) = False ∧ x.toList.isEmpty = false ∧ (x.toList == [48]) = false) := by
            have h3 : (x.toList = []) = (x.toList.isEmpty = true) := by simp
            rw [h3, ht0]
            generalize x.toList.isEmpty = b
            generalize (x.toList == [48]) = c
            cases b <;> cases c <;> simp
          have HT0 := hid ht0
          clear ht0
          rcases hcs with ⟨rfl, b1, b2⟩ | ⟨rfl, b1, b2, b3⟩ | ⟨rfl, b1, b2, b3⟩
          rotate_left 2
          · go_wp2
            go_loopw [9, 8] (fun j fl w' => InL wr false ms x j fl w') (fun j _ _ => ms.length + 1 - (intOf j).toNat)
            case atStart => exact ⟨0, rfl, by omega, by simp [hasS], Dr.refl _⟩
            case round =>
              obtain ⟨q, rfl, hq, rfl, nd, rfl⟩ := hrel
              rw [Bool.false_or]
              by_cases hqn : q < ms.length
              · have g2 : (q : Int) < (ms.length : Int) := by omega
                obtain ⟨g, gc, rfl, -⟩ := World.ownsRow.form hown (by omega)
                obtain ⟨y, hy⟩ : ∃ y, ms[q]? = some y := ⟨ms[q]'hqn, List.getElem?_eq_getElem hqn⟩
                have hyc := strs_cell hown hy
                have HS2 := hid (show hasS (ms.take (q + 1)) x = (hasS (ms.take q) x || (y.toList == x.toList)) by rw [List.take_add_one, hy, ByteArray.toList_eq, ByteArray.toList_eq]; exact hasS_snoc _ _ _)
                clear hy
                cases hh : hasS (ms.take q) x
                · have HH := hid hh
                  clear hh
                  go_wp2
                  go_quiet (fail)
                  go_wp2
                  go_roundw
                  case rel => exact ⟨q + 1, by go_num, by omega, by rw [Bool.false_or, HS2.out, HH.out, Bool.false_or], (by first | with_reducible exact Dr.refl _ | with_reducible exact Dr.mk _ _ | with_reducible exact Dr.trans (Dr.mk _ _) (Dr.mk _ _))⟩
                  case measure => simp [intOf] <;> omega
                · have HH := hid hh
                  clear hh
                  go_wp2
                  go_quiet (fail)
                  go_wp2
                  go_roundw
                  case rel => exact ⟨q + 1, by go_num, by omega, by rw [Bool.false_or, HS2.out, HH.out]; rfl, (by first | with_reducible exact Dr.refl _ | with_reducible exact Dr.mk _ _ | with_reducible exact Dr.trans (Dr.mk _ _) (Dr.mk _ _))⟩
                  case measure => simp [intOf] <;> omega
              · obtain rfl : q = ms.length := by omega
                obtain ⟨ga, gc, rfl, -⟩ := Row.of_owns hown
                rw [List.take_length]
                cases hh : hasS ms x
                · have HP := hid (show putNode ms x = ms ++ [x] by
                    unfold putNode newNode
                    rw [if_pos]
                    have h5 : (x.toList != []) = !x.toList.isEmpty := by cases x.toList <;> rfl
                    have h6 : (x.toList != [48]) = !(x.toList == [48]) := rfl
                    rw [hh, h5, h6, b2, b3]
                    rfl)
                  clear hh
                  have hcl := hF2.lt
                  have hz := hb.size
                  go_wp2_with (at_builtin; go_loud (refine wpList_append_lies _ rfl _ _ 80 rfl w1.heap.size 9 iS _ 1 16 Try.underlying80 hiS hs0 hs1 hs2 rfl (by decide) (.slice ga ms.length gc) ms.length (strL ms) rfl (by exact (owns_drewN hown _).alloc _) ⟨_, 0, none⟩ 1 1 [.string x] rfl rfl (cell_new _ _ _) (by simp [Value.oneCell']) (by decide) (by unfold maxLen; omega) (by omega) (by simp; omega) _ rfl ?_; intro g2 cap2 w7 hown7 hg7 hat7 hlt7))
                  have bW : Below wr.heap.size wr ((wr.drewN nd).alloc (.cells #[.string x] 9)) := (below_drewN' (Below.refl _ _) nd).alloc (by exact Nat.le_refl _) _
                  have hF7 : FourAt w7 cb e := (hF2.below bW).grown hg7 (Ne.symm hne2)
                  have hne7 : (Value.slice (some ⟨g2, 0, none⟩) (ms.length + 1) cap2).ownBlock ≠ some cb := by
                    intro hq2
                    have hq3 : g2 = cb := Option.some.inj hq2
                    rcases hat7 with h7 | h7
                    · rw [h7, hq3] at hne2
                      exact hne2 rfl
                    · rw [hq3] at h7
                      have h8 : cb = wr.heap.size + 1 := h7.trans (World.size_alloc _ _)
                      omega
                  have hb7 : Below w1.heap.size w1 w7 := Below.grown ((below_drewN' hb nd).alloc (by exact hz) _) hg7 (by simp; omega) (fun k hk => (hown.lt k hk).1)
                  clear hg7 hat7 hlt7
                  go_roundw
                  case rel => exact ⟨j + 1, by go_num, by omega, by rw [HST.out, HP.out, List.length_append, strL_snoc]; exact hown7, hF7, hne7, hb7⟩
                  case measure => simp [intOf] <;> omega
                · have HP := hid (show putNode ms x = ms by
                    unfold putNode newNode
                    rw [if_neg]
                    rw [hh]
                    simp)
                  clear hh
                  go_wp2
                  go_roundw
                  case rel => exact ⟨j + 1, by go_num, by omega, by rw [HST.out, HP.out]; exact owns_drewN hown _, hF2, hne2, below_drewN' hb _⟩
                  case measure => simp [intOf] <;> omega
          all_goals
            have HP := hid (show putNode ms x = ms by
              have h := HT0.out
              unfold putNode newNode
              rw [if_neg]
              intro h2
              rw [bne, bne] at h2
              simp only [Bool.and_eq_true, Bool.not_eq_true'] at h2
              obtain ⟨⟨-, h3⟩, h4⟩ := h2
              rw [h4] at h
              have h5 : (x.toList == []) = x.toList.isEmpty := by cases x.toList <;> rfl
              rw [h5] at h3
              rw [h3] at h
              cases h)
            go_wp2
            go_loopw [9, 8] (fun j fl w' => InL wr true ms x j fl w') (fun j _ _ => ms.length + 1 - (intOf j).toNat)
            case atStart => exact ⟨0, rfl, by omega, by simp [hasS], Dr.refl _⟩
            case round =>
              obtain ⟨q, rfl, hq, rfl, nd, rfl⟩ := hrel
              rw [Bool.true_or]
              by_cases hqn : q < ms.length
              · have g2 : (q : Int) < (ms.length : Int) := by omega
                obtain ⟨g, gc, rfl, -⟩ := World.ownsRow.form hown (by omega)
                go_wp2
                go_quiet (fail)
                go_wp2
                go_roundw
                case rel => exact ⟨q + 1, by go_num, by omega, by rw [Bool.true_or], (by first | with_reducible exact Dr.refl _ | with_reducible exact Dr.mk _ _ | with_reducible exact Dr.trans (Dr.mk _ _) (Dr.mk _ _))⟩
                case measure => simp [intOf] <;> omega
              · obtain rfl : q = ms.length := by omega
                obtain ⟨ga, gc, rfl, -⟩ := Row.of_owns hown
                go_wp2
                go_roundw
                case rel => exact ⟨j + 1, by go_num, by omega, by rw [HST.out, HP.out]; exact owns_drewN hown _, hF2, hne2, below_drewN' hb _⟩
                case measure => simp [intOf] <;> omega
        · obtain rfl : j = 4 := by omega
          have HP := hid (show nodesF (L.take (k + 1)) = ms by rw [HS.out, HMS.out]; rfl)
          go_wp2
          go_roundw
          case rel => exact ⟨k + 1, by go_num, by omega, by rw [HP.out]; exact hown, hb⟩
          case measure => simp [intOf] <;> omega
    · obtain rfl : k = L.length := by omega
      rw [List.take_length] at hown
      clear hE2
      go_wp2
      go_ret
      exact ⟨_, rfl, ownsRow_le hown hb1.size, hb1.trans (hb.mono hb1.size)⟩
end Go.Proofs.Ytfnbohpfcdddgaa

